/- The walk of the law ValueFits. -/
import Derived.Test.YtdalgfoifdjffaaFitsB
import Derived.Deep.RegionWith
namespace Go.Proofs.Ytdalgfoifdjffaa.My
open Go.RowKit Go.Proofs.YtdalgfoifdjffaaW.PrintWords Go.Proofs.YtdalgfoifdjffaaW.PrintLast Go.Proofs.YtdalgfoifdjffaaW.PrintMore
set_option linter.unusedVariables false
set_option linter.unusedSimpArgs false

theorem fits_v (n s : Int) (b : Bool) (h : fitsM n s = b) (w : World) : Calls Try.prog 30 #[.int .i64 n, .int .i64 s] w fun e w' => e = .returned (.bool b) ∧ w = w' := h ▸ fits_c n s w
theorem size_v (t k : Int) (h : sizeM t = k) (w : World) : Calls Try.prog 31 #[.int .i64 t] w fun e w' => e = .returned (.int .i64 k) ∧ w = w' := h ▸ size_c t w
set_option maxRecDepth 100000 in
set_option maxHeartbeats 8000000 in
theorem law_0 (n s t k : Int) (b : Bool) (hF : fitsM n s = b) (hS : sizeM t = k) (w : World)
    (hb : (s = 1 ∧ ((decide ((-32768 : Int) ≤ n) = true ∧ decide ((-128 : Int) ≤ n) = true ∧ decide (n < 256) = b) ∨ (decide ((-32768 : Int) ≤ n) = true ∧ decide ((-128 : Int) ≤ n) = false ∧ b = false) ∨ (decide ((-32768 : Int) ≤ n) = false ∧ decide ((-128 : Int) ≤ n) = false ∧ b = false))) ∨ (¬ s = 1 ∧ ((decide ((-32768 : Int) ≤ n) = true ∧ decide (n < 65536) = b) ∨ (decide ((-32768 : Int) ≤ n) = false ∧ b = false))))
    (hk : (t = 1 ∧ k = 1) ∨ (t = 2 ∧ k = 2) ∨ (t = 4 ∧ k = 4) ∨ (t = 8 ∧ k = 8) ∨ ((t == 1) = false ∧ (t == 2) = false ∧ (t == 4) = false ∧ (t == 8) = false ∧ k = 0)) :
    Calls Try.prog 8 #[.int .i64 n, .int .i64 s, .int .i64 t] w fun e w' => e = .returned (.bool true) ∧ Below w.heap.size w w' := by
  have FC := Aside0.mk (fits_v n s b hF)
  have SC := Aside0.mk (size_v t k hS)
  clear hF hS
  rcases hb with ⟨rfl, ⟨ha, hc, hd⟩ | ⟨ha, hc, rfl⟩ | ⟨ha, hc, rfl⟩⟩ | ⟨hs, ⟨ha, hd⟩ | ⟨ha, rfl⟩⟩
  all_goals try cases b
  all_goals rcases hk with ⟨rfl, rfl⟩ | ⟨rfl, rfl⟩ | ⟨rfl, rfl⟩ | ⟨rfl, rfl⟩ | ⟨h1, h2, h4, h8, rfl⟩
  all_goals
    go_enter Try.func8, Try.ntmps8
    go_wp2_with (first | (go_at_call 29; refine (awake_c _).mono ?_; rintro e wa ⟨rfl, hb⟩; have BB := Aside0.mk hb; clear hb) | (go_at_call 30; (with_reducible refine (FC.out _).mono ?_); rintro e wf ⟨rfl, rfl⟩) | (go_at_call 31; (with_reducible refine (SC.out _).mono ?_); rintro e ws ⟨rfl, rfl⟩))
    go_ret
    exact ⟨rfl, BB.out⟩
theorem valueFits_w (n s t : Int) (w : World) (wn : (Lit.int .i64 n).wf = true) (ws : (Lit.int .i64 s).wf = true) (wt : (Lit.int .i64 t).wf = true) :
    Calls Try.prog 8 #[.int .i64 n, .int .i64 s, .int .i64 t] w fun e w' => e = .returned (.bool true) ∧ Below w.heap.size w w' := by
  refine law_0 n s t _ _ rfl rfl w ?_ ?_
  · unfold fitsM
    by_cases hs : s = 1
    · left
      refine ⟨hs, ?_⟩
      rw [if_pos hs]
      simp only [decide_eq_true_eq, decide_eq_false_iff_not, decide_eq_decide]
      omega
    · right
      refine ⟨hs, ?_⟩
      rw [if_neg hs]
      simp only [decide_eq_true_eq, decide_eq_false_iff_not, decide_eq_decide]
      omega
  · unfold sizeM
    by_cases h : t = 1 ∨ t = 2 ∨ t = 4 ∨ t = 8
    · rw [if_pos h]; omega
    · rw [if_neg h]; exact Or.inr (Or.inr (Or.inr (Or.inr ⟨beq_eq_false_iff_ne.mpr (by omega), beq_eq_false_iff_ne.mpr (by omega), beq_eq_false_iff_ne.mpr (by omega), beq_eq_false_iff_ne.mpr (by omega), rfl⟩)))
end Go.Proofs.Ytdalgfoifdjffaa.My
