/- Contract of the walk of assume.Pick, out of what Has says at each register. -/
import Derived.Test.YtdalgfoifdjffaaAssA
import Derived.LoopN
namespace Go.Proofs.Ytdalgfoifdjffaa.My
open Go.RowKit Go.Proofs.YtdalgfoifdjffaaW.PrintWords Go.Proofs.YtdalgfoifdjffaaW.PrintLast Go.Proofs.YtdalgfoifdjffaaW.PrintMore
set_option linter.unusedVariables false
set_option linter.unusedSimpArgs false
/-- The usual register, or the first of DS, SS, ES, CS that reaches it. -/
def pickN (f : Int) (u : Int) (hb : Int → Bool) : Int × Bool :=
  if f = 0 then (u, true) else if f = 3 then (u, true) else if hb u then (u, true) else if hb 3 then (3, true) else if hb 2 then (2, true) else if hb 0 then (0, true) else if hb 1 then (1, true) else (u, false)
set_option maxRecDepth 100000 in
theorem idx_0 (w : World) : (Instr.index 93 (.agg #[.int .i64 3, .int .i64 2, .int .i64 0, .int .i64 1]) (.int .i64 0)).run Try.prog w = .ok (.int .i64 3) w := by kernel_rfl
set_option maxRecDepth 100000 in
theorem idx_1 (w : World) : (Instr.index 93 (.agg #[.int .i64 3, .int .i64 2, .int .i64 0, .int .i64 1]) (.int .i64 1)).run Try.prog w = .ok (.int .i64 2) w := by kernel_rfl
set_option maxRecDepth 100000 in
theorem idx_2 (w : World) : (Instr.index 93 (.agg #[.int .i64 3, .int .i64 2, .int .i64 0, .int .i64 1]) (.int .i64 2)).run Try.prog w = .ok (.int .i64 0) w := by kernel_rfl
set_option maxRecDepth 100000 in
theorem idx_3 (w : World) : (Instr.index 93 (.agg #[.int .i64 3, .int .i64 2, .int .i64 0, .int .i64 1]) (.int .i64 3)).run Try.prog w = .ok (.int .i64 1) w := by kernel_rfl

set_option maxHeartbeats 4000000 in
theorem pick_c (a0 a1 a2 a3 a4 a5 a6 a7 : Int) (u : Int) (v0 v1 v2 v3 v4 : Int) (v5 : Bool) (g : Value) (hb : Int → Bool) (u0 : 0 ≤ u) (u3 : u ≤ 3) (w : World)
    (HAS0 : ∀ n, 0 ≤ n → n ≤ 3 → ∀ W, Below w.heap.size w W → Calls Try.prog 13 #[.agg #[.int .i64 a0, .int .i64 a1, .int .i64 a2, .int .i64 a3, .int .i64 a4, .int .i64 a5, .int .i64 a6, .int .i64 a7], .int .i64 n, .agg #[.int .i64 v0, .int .i64 v1, .int .i64 v2, .int .i64 v3, .int .i64 v4, .bool v5], g] W fun e w' => e = .returned (.bool (hb n)) ∧ Below W.heap.size W w') :
    Calls Try.prog 15 #[.agg #[.int .i64 a0, .int .i64 a1, .int .i64 a2, .int .i64 a3, .int .i64 a4, .int .i64 a5, .int .i64 a6, .int .i64 a7], .int .i64 u, .agg #[.int .i64 v0, .int .i64 v1, .int .i64 v2, .int .i64 v3, .int .i64 v4, .bool v5], g] w fun e w' => e = .returned (.tuple #[.int .i64 (pickN v1 u hb).1, .bool (pickN v1 u hb).2]) ∧ Below w.heap.size w w' := by
  have HAS := Aside0.mk HAS0
  clear HAS0
  have i0 := idx_0
  have i1 := idx_1
  have i2 := idx_2
  have i3 := idx_3
  have BB0 : Aside0 (Below w.heap.size w ((w.alloc (.cells #[.int .i64 a0, .int .i64 a1, .int .i64 a2, .int .i64 a3, .int .i64 a4, .int .i64 a5, .int .i64 a6, .int .i64 a7] 29)).alloc (.cells #[.int .i64 v0, .int .i64 v1, .int .i64 v2, .int .i64 v3, .int .i64 v4, .bool v5] 24))) := ⟨((Below.refl _ _).alloc (Nat.le_refl _) _).alloc (by simp) _⟩
  by_cases f0 : v1 = 0
  · have t0 : (v1 == 0) = true := by simp [f0]
    rw [show pickN v1 u hb = (u, true) by unfold pickN; rw [if_pos f0]]
    clear f0
    go_enter Try.func15, Try.ntmps15
    go_wp2_with fail
    go_ret2
    exact ⟨rfl, BB0.out⟩
  by_cases f3 : v1 = 3
  · have t0 : (v1 == 0) = false := by simp [f0]
    have t3 : (v1 == 3) = true := by simp [f3]
    rw [show pickN v1 u hb = (u, true) by unfold pickN; rw [if_neg f0, if_pos f3]]
    clear f0 f3
    go_enter Try.func15, Try.ntmps15
    go_wp2_with fail
    go_ret2
    exact ⟨rfl, BB0.out⟩
  have t0 : (v1 == 0) = false := by simp [f0]
  have t3 : (v1 == 3) = false := by simp [f3]
  have hp : pickN v1 u hb = if hb u then (u, true) else if hb 3 then (3, true) else if hb 2 then (2, true) else if hb 0 then (0, true) else if hb 1 then (1, true) else (u, false) := by unfold pickN; rw [if_neg f0, if_neg f3]
  clear f0 f3
  cases hu : hb u
  · rw [hu] at hp
    have HU := Aside0.mk hu
    clear hu
    go_enter Try.func15, Try.ntmps15
    go_wp2_with fail
    refine (HAS.out u u0 u3 _ BB0.out).mono ?_
    rw [HU.out]
    rintro e w2 ⟨rfl, hb2⟩
    obtain ⟨hc, hf⟩ := bcell hb2
    have HW := Aside0.mk hb2
    have BB := Aside0.mk (below_step BB0.out hb2)
    clear hb2
    go_wp2_with fail
    refine wp_loop_rounds 5 ?_
    rw [rounds_succ]
    go_wp2_with fail
    refine (HAS.out 3 (by omega) (by omega) _ BB.out).mono ?_
    rintro e w3 ⟨rfl, hb3⟩
    have HW3 := Aside0.mk (below_step HW.out hb3); clear HW; have HW := HW3; clear HW3; clear hc hf; obtain ⟨hc, hf⟩ := bcell HW.out
    have BB3 := Aside0.mk (below_step BB.out hb3)
    clear BB hb3
    have BB := BB3
    clear BB3
    cases hr0 : hb 3
    · rw [hr0] at hp
      simp only [Bool.false_eq_true, if_false] at hp
      go_wp2_with fail
      rw [rounds_succ]
      go_wp2_with fail
      refine (HAS.out 2 (by omega) (by omega) _ BB.out).mono ?_
      rintro e w4 ⟨rfl, hb3⟩
      have HW4 := Aside0.mk (below_step HW.out hb3); clear HW; have HW := HW4; clear HW4; clear hc hf; obtain ⟨hc, hf⟩ := bcell HW.out
      have BB4 := Aside0.mk (below_step BB.out hb3)
      clear BB hb3
      have BB := BB4
      clear BB4
      cases hr1 : hb 2
      · rw [hr1] at hp
        simp only [Bool.false_eq_true, if_false] at hp
        go_wp2_with fail
        rw [rounds_succ]
        go_wp2_with fail
        refine (HAS.out 0 (by omega) (by omega) _ BB.out).mono ?_
        rintro e w5 ⟨rfl, hb3⟩
        have HW5 := Aside0.mk (below_step HW.out hb3); clear HW; have HW := HW5; clear HW5; clear hc hf; obtain ⟨hc, hf⟩ := bcell HW.out
        have BB5 := Aside0.mk (below_step BB.out hb3)
        clear BB hb3
        have BB := BB5
        clear BB5
        cases hr2 : hb 0
        · rw [hr2] at hp
          simp only [Bool.false_eq_true, if_false] at hp
          go_wp2_with fail
          rw [rounds_succ]
          go_wp2_with fail
          refine (HAS.out 1 (by omega) (by omega) _ BB.out).mono ?_
          rintro e w6 ⟨rfl, hb3⟩
          have HW6 := Aside0.mk (below_step HW.out hb3); clear HW; have HW := HW6; clear HW6; clear hc hf; obtain ⟨hc, hf⟩ := bcell HW.out
          have BB6 := Aside0.mk (below_step BB.out hb3)
          clear BB hb3
          have BB := BB6
          clear BB6
          cases hr3 : hb 1
          · rw [hr3] at hp
            simp only [Bool.false_eq_true, if_false] at hp
            go_wp2_with fail
            rw [rounds_succ]
            have HP := Aside0.mk hp
            clear hp
            go_wp2_with fail
            go_ret2
            exact ⟨by rw [HP.out]; rfl, BB.out⟩
          · have HP := Aside0.mk (by rw [hp, hr3]; rfl : pickN v1 u hb = (1, true))
            clear hp
            go_wp2_with fail
            go_ret2
            exact ⟨by rw [HP.out]; rfl, BB.out⟩
        · have HP := Aside0.mk (by rw [hp, hr2]; rfl : pickN v1 u hb = (0, true))
          clear hp
          go_wp2_with fail
          go_ret2
          exact ⟨by rw [HP.out]; rfl, BB.out⟩
      · have HP := Aside0.mk (by rw [hp, hr1]; rfl : pickN v1 u hb = (2, true))
        clear hp
        go_wp2_with fail
        go_ret2
        exact ⟨by rw [HP.out]; rfl, BB.out⟩
    · have HP := Aside0.mk (by rw [hp, hr0]; rfl : pickN v1 u hb = (3, true))
      clear hp
      go_wp2_with fail
      go_ret2
      exact ⟨by rw [HP.out]; rfl, BB.out⟩
  · rw [hu] at hp
    rw [hp]
    have HU := Aside0.mk hu
    clear hu hp
    go_enter Try.func15, Try.ntmps15
    go_wp2_with fail
    refine (HAS.out u u0 u3 _ BB0.out).mono ?_
    rw [HU.out]
    rintro e w2 ⟨rfl, hb2⟩
    have BB := Aside0.mk (below_step BB0.out hb2)
    clear hb2
    go_wp2_with fail
    go_ret2
    exact ⟨rfl, BB.out⟩
end Go.Proofs.Ytdalgfoifdjffaa.My
