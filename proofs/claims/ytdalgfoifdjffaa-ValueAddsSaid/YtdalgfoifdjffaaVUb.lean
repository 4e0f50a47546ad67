/- ValueAdds by the plain machine: the law. -/
import Derived.Test.YtdalgfoifdjffaaVUa
namespace Go.Proofs.Ytdalgfoifdjffaa.VM
open Go Go.RowKit
set_option linter.unusedVariables false
set_option linter.unusedSimpArgs false
set_option maxRecDepth 10000
syntax "vcall" : tactic
macro_rules | `(tactic| vcall) => `(tactic| fail)
macro_rules | `(tactic| vcall) => `(tactic| refine Ends.call (cut_F _ _ (by omega) _ (by assumption) _) ?_)
macro_rules | `(tactic| vcall) => `(tactic| refine Ends.call (cut_F _ _ (by omega) _ (by simp only [I64, w64]; omega) _) ?_)
macro_rules | `(tactic| vcall) => `(tactic| refine Ends.call (plain_F _ _ (by omega) _ _ _ _ _ _ _) ?_)
macro_rules | `(tactic| vcall) => `(tactic| refine Ends.call (awake29_F _ _ (by omega) _) ?_)
macro_rules | `(tactic| vcall) => `(tactic| refine Ends.call (add1 _ _ (by omega) _ _ _ _ _ _ _ _ _ _ _ _ (by assumption) _) ?_)
macro_rules | `(tactic| vcall) => `(tactic| refine Ends.call (add2 _ _ (by omega) _ _ _ _ _ _ _ _ _ _ _ _ (by assumption) (by assumption) _) ?_)
macro_rules | `(tactic| vcall) => `(tactic| refine Ends.call (add3 _ _ (by omega) _ _ _ _ _ _ _ _ _ _ _ _ (by assumption) (by assumption) _) ?_)
macro_rules | `(tactic| vcall) => `(tactic| refine Ends.call (sub1 _ _ (by omega) _ _ _ _ _ _ _ _ _ _ _ _ (by assumption) _) ?_)
macro_rules | `(tactic| vcall) => `(tactic| refine Ends.call (sub2 _ _ (by omega) _ _ _ _ _ _ _ _ _ _ _ _ (by assumption) (by assumption) _) ?_)
macro_rules | `(tactic| vcall) => `(tactic| refine Ends.call (sub3 _ _ (by omega) _ _ _ _ _ _ _ _ _ _ _ _ (by assumption) (by assumption) _) ?_)
macro "vwalk" : tactic => `(tactic| repeat' (first
    | refine Ends.some' ?_
    | (vcall; conv => enter [1]; whnf)
    | (refine Ends.iteT (by first | with_reducible assumption | (simp [*]; done) | fail "open") ?_; conv => enter [1]; whnf)
    | (refine Ends.iteF (by first | with_reducible assumption | (simp [*]; done) | fail "open") ?_; conv => enter [1]; whnf)
    | (refine Ends.ite (fun h => ?_) (fun h => ?_) <;> (conv => enter [1]; whnf))))
end Go.Proofs.Ytdalgfoifdjffaa.VM
