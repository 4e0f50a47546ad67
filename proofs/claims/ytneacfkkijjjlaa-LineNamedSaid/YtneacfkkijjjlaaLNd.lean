/- LineNamed by the plain machine: the law. -/
import Derived.Test.YtneacfkkijjjlaaLNb00
import Derived.Test.YtneacfkkijjjlaaLNb01
import Derived.Test.YtneacfkkijjjlaaLNb02
import Derived.Test.YtneacfkkijjjlaaLNb10
import Derived.Test.YtneacfkkijjjlaaLNb11
import Derived.Test.YtneacfkkijjjlaaLNb12
namespace Go.Proofs.Ytneacfkkijjjlaa.VM
open Go Go.RowKit
set_option linter.unusedVariables false
set_option linter.unusedSimpArgs false
set_option maxRecDepth 100000
set_option maxHeartbeats 3200000
theorem lineNamed_e (n : Int) (c : Bool) : Ends (FF Mk.plain 90 0 4 [.int .i64 n, .bool c] []) (fun r => r.1 = .bool true) := by
  have e : (IntKind.i64.wrap ((BitVec.ofInt IntKind.i64.bits n &&& BitVec.ofInt IntKind.i64.bits 255).toNat : Nat)).tmod 13 = (n % 256) % 13 := by rw [and64_255, tmod_pos _ _ (by decide), if_pos (by omega)]
  rcases (by omega : (n % 256) % 13 = 0 ∨ (n % 256) % 13 = 1 ∨ (n % 256) % 13 = 2 ∨ (n % 256) % 13 = 3 ∨ (n % 256) % 13 = 4 ∨ (n % 256) % 13 = 5 ∨ (n % 256) % 13 = 6 ∨ (n % 256) % 13 = 7 ∨ (n % 256) % 13 = 8 ∨ (n % 256) % 13 = 9 ∨ (n % 256) % 13 = 10 ∨ (n % 256) % 13 = 11 ∨ (n % 256) % 13 = 12) with h | h | h | h | h | h | h | h | h | h | h | h | h <;> cases c
  · exact lineNamed_false_0 n (e.trans h)
  · exact lineNamed_true_0 n (e.trans h)
  · exact lineNamed_false_1 n (e.trans h)
  · exact lineNamed_true_1 n (e.trans h)
  · exact lineNamed_false_2 n (e.trans h)
  · exact lineNamed_true_2 n (e.trans h)
  · exact lineNamed_false_3 n (e.trans h)
  · exact lineNamed_true_3 n (e.trans h)
  · exact lineNamed_false_4 n (e.trans h)
  · exact lineNamed_true_4 n (e.trans h)
  · exact lineNamed_false_5 n (e.trans h)
  · exact lineNamed_true_5 n (e.trans h)
  · exact lineNamed_false_6 n (e.trans h)
  · exact lineNamed_true_6 n (e.trans h)
  · exact lineNamed_false_7 n (e.trans h)
  · exact lineNamed_true_7 n (e.trans h)
  · exact lineNamed_false_8 n (e.trans h)
  · exact lineNamed_true_8 n (e.trans h)
  · exact lineNamed_false_9 n (e.trans h)
  · exact lineNamed_true_9 n (e.trans h)
  · exact lineNamed_false_10 n (e.trans h)
  · exact lineNamed_true_10 n (e.trans h)
  · exact lineNamed_false_11 n (e.trans h)
  · exact lineNamed_true_11 n (e.trans h)
  · exact lineNamed_false_12 n (e.trans h)
  · exact lineNamed_true_12 n (e.trans h)
theorem lineNamed_w (a0 : Int) (a1 : Bool) (W : World) (w0 : (Lit.int .i64 a0).wf = true) :
    Calls Try.prog 4 #[.int .i64 a0, .bool a1] W fun e W' => e = .returned (.bool true) ∧ Below W.heap.size W W' := by
  obtain ⟨⟨v, H'⟩, he, hv⟩ := lineNamed_e a0 a1
  replace hv : v = .bool true := hv
  subst hv
  refine law_of (ρ := fun _ => none) (H0 := []) follows annok extok he (fun b c z => by cases z) (fun k c cs z => by cases z) (fun b c z => by cases z) ?_
  exact ⟨rfl, rfl, trivial⟩
end Go.Proofs.Ytneacfkkijjjlaa.VM
