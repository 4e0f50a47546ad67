/- ValueDoes by the plain machine: a word. -/
import Derived.Test.YtdalgfoifdjffaaVVa
namespace Go.Proofs.Ytdalgfoifdjffaa.VM
open Go Go.RowKit
set_option linter.unusedVariables false
set_option linter.unusedSimpArgs false
set_option maxRecDepth 10000
set_option maxHeartbeats 1600000
theorem does8 (a b word : Int) (ha : I64 a) (hb : I64 b) (hw : word % 16 = 8) : Ends (FF 13 0 7 [.int .i64 a, .int .i64 b, .int .i64 word] []) (fun r => r.1 = .bool true) := by
  obtain ⟨k, hk⟩ : ∃ k, k = 12 := ⟨_, rfl⟩
  show Ends (FF (12 + 1) 0 7 _ _) _
  rw [← hk]
  conv => enter [1]; whnf
  refine Ends.call (cut_F _ _ (by omega) _ (by assumption) _) ?_
  conv => enter [1]; whnf
  refine Ends.call (cut_F _ _ (by omega) _ (by assumption) _) ?_
  conv => enter [1]; whnf
  refine Ends.ite (fun h => ?_) (fun h => ?_) <;> clear h <;> (conv => enter [1]; whnf)
  · simp only [and64_15, hw]
    conv => enter [1]; whnf
    obtain ⟨y, hyy⟩ : ∃ y, b % 16 = y := ⟨_, rfl⟩
    obtain ⟨x, hx⟩ : ∃ x, cutZ a = x := ⟨_, rfl⟩
    simp only [hyy, hx]
    have Hy : 0 ≤ y ∧ y < 16 := by omega
    have cy : cutZ y = y := cutZ_id (by omega)
    clear hyy
    have Hx : -2147483648 ≤ x ∧ x < 2147483648 := by rw [← hx]; unfold cutZ; omega
    clear ha hb
    repeat' (first
      | refine Ends.some' ?_
      | (refine Ends.call (do_N _ _ _ _ (by omega) _) ?_; conv => enter [1]; whnf)
      | (refine Ends.call (do_F _ _ _ _ _ _ _ (by omega) _ (fun k lo h => reckon8 k lo h _ _ _)) ?_; conv => enter [1]; whnf)
      | (refine Ends.call (numZ_F _ _ (by omega) _ _ (by assumption) _) ?_; conv => enter [1]; whnf)
      | (refine Ends.call (awake29_F _ _ (by omega) _) ?_; conv => enter [1]; whnf)
      | (refine Ends.call (cut_F _ _ (by omega) _ (i64_wrap _) _) ?_; conv => enter [1]; whnf)
      | (refine Ends.call (cut_F _ _ (by omega) _ (by first | assumption | (unfold I64; omega)) _) ?_; conv => enter [1]; whnf)
      | (refine Ends.iteT (by first | with_reducible assumption | (simp [*]; done) | fail "open") ?_; conv => enter [1]; whnf)
      | (refine Ends.iteF (by first | with_reducible assumption | (simp [*]; done) | fail "open") ?_; conv => enter [1]; whnf)
      | (refine Ends.ite (fun h => ?_) (fun h => ?_) <;> (conv => enter [1]; whnf)))
    all_goals (first | (with_reducible rfl) | (simp_all; done))
  · simp only [and64_15, hw]
    conv => enter [1]; whnf
    obtain ⟨y, hyy⟩ : ∃ y, cutZ b = y := ⟨_, rfl⟩
    obtain ⟨x, hx⟩ : ∃ x, cutZ a = x := ⟨_, rfl⟩
    simp only [hyy, hx]
    have Hy : -2147483648 ≤ y ∧ y < 2147483648 := by rw [← hyy]; unfold cutZ; omega
    have cy : cutZ y = y := cutZ_id (by omega)
    clear hyy
    have Hx : -2147483648 ≤ x ∧ x < 2147483648 := by rw [← hx]; unfold cutZ; omega
    clear ha hb
    repeat' (first
      | refine Ends.some' ?_
      | (refine Ends.call (do_N _ _ _ _ (by omega) _) ?_; conv => enter [1]; whnf)
      | (refine Ends.call (do_F _ _ _ _ _ _ _ (by omega) _ (fun k lo h => reckon8 k lo h _ _ _)) ?_; conv => enter [1]; whnf)
      | (refine Ends.call (numZ_F _ _ (by omega) _ _ (by assumption) _) ?_; conv => enter [1]; whnf)
      | (refine Ends.call (awake29_F _ _ (by omega) _) ?_; conv => enter [1]; whnf)
      | (refine Ends.call (cut_F _ _ (by omega) _ (i64_wrap _) _) ?_; conv => enter [1]; whnf)
      | (refine Ends.call (cut_F _ _ (by omega) _ (by first | assumption | (unfold I64; omega)) _) ?_; conv => enter [1]; whnf)
      | (refine Ends.iteT (by first | with_reducible assumption | (simp [*]; done) | fail "open") ?_; conv => enter [1]; whnf)
      | (refine Ends.iteF (by first | with_reducible assumption | (simp [*]; done) | fail "open") ?_; conv => enter [1]; whnf)
      | (refine Ends.ite (fun h => ?_) (fun h => ?_) <;> (conv => enter [1]; whnf)))
    all_goals (first | (with_reducible rfl) | (simp_all; done))
end Go.Proofs.Ytdalgfoifdjffaa.VM
