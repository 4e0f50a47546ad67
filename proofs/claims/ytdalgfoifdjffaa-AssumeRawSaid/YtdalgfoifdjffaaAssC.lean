/- The walk of AssumeRaw: what awake asks, and the law. -/
import Derived.Test.YtdalgfoifdjffaaAssB
import Derived.Test.YtdalgfoifdjffaaEqArr
namespace Go.Proofs.Ytdalgfoifdjffaa.My
open Go.RowKit Go.Proofs.YtdalgfoifdjffaaW.PrintWords Go.Proofs.YtdalgfoifdjffaaW.PrintLast Go.Proofs.YtdalgfoifdjffaaW.PrintMore
set_option linter.unusedVariables false
set_option linter.unusedSimpArgs false
theorem hasa_0_1 (w : World) : Calls Try.prog 13 #[.agg #[.int .i64 0, .int .i64 0, .int .i64 0, .int .i64 0, .int .i64 0, .int .i64 0, .int .i64 1, .int .i64 1], .int .i64 0, .agg #[.int .i64 0, .int .i64 1, .int .i64 1, .int .i64 0, .int .i64 0, .bool false], .slice none 0 0] w fun e w' => e = .returned (.bool false) ∧ Below w.heap.size w w' := by
  go_enter Try.func13, Try.ntmps13
  go_wp2
  go_ret
  exact ⟨rfl, ((Below.refl _ _).alloc (Nat.le_refl _) _).alloc (by simp) _⟩
theorem hasa_1_1 (w : World) : Calls Try.prog 13 #[.agg #[.int .i64 0, .int .i64 0, .int .i64 0, .int .i64 0, .int .i64 0, .int .i64 0, .int .i64 1, .int .i64 1], .int .i64 1, .agg #[.int .i64 0, .int .i64 1, .int .i64 1, .int .i64 0, .int .i64 0, .bool false], .slice none 0 0] w fun e w' => e = .returned (.bool false) ∧ Below w.heap.size w w' := by
  go_enter Try.func13, Try.ntmps13
  go_wp2
  go_ret
  exact ⟨rfl, ((Below.refl _ _).alloc (Nat.le_refl _) _).alloc (by simp) _⟩
theorem hasa_2_1 (w : World) : Calls Try.prog 13 #[.agg #[.int .i64 0, .int .i64 0, .int .i64 0, .int .i64 0, .int .i64 0, .int .i64 0, .int .i64 1, .int .i64 1], .int .i64 2, .agg #[.int .i64 0, .int .i64 1, .int .i64 1, .int .i64 0, .int .i64 0, .bool false], .slice none 0 0] w fun e w' => e = .returned (.bool false) ∧ Below w.heap.size w w' := by
  go_enter Try.func13, Try.ntmps13
  go_wp2
  go_ret
  exact ⟨rfl, ((Below.refl _ _).alloc (Nat.le_refl _) _).alloc (by simp) _⟩
theorem hasa_3_1 (w : World) : Calls Try.prog 13 #[.agg #[.int .i64 0, .int .i64 0, .int .i64 0, .int .i64 0, .int .i64 0, .int .i64 0, .int .i64 1, .int .i64 1], .int .i64 3, .agg #[.int .i64 0, .int .i64 1, .int .i64 1, .int .i64 0, .int .i64 0, .bool false], .slice none 0 0] w fun e w' => e = .returned (.bool true) ∧ Below w.heap.size w w' := by
  go_enter Try.func13, Try.ntmps13
  go_wp2
  go_ret
  exact ⟨rfl, (((Below.refl _ _).alloc (Nat.le_refl _) _).alloc (by simp) _).alloc (by simp; omega) _⟩
theorem picka_1 (w : World) : Calls Try.prog 15 #[.agg #[.int .i64 0, .int .i64 0, .int .i64 0, .int .i64 0, .int .i64 0, .int .i64 0, .int .i64 1, .int .i64 1], .int .i64 2, .agg #[.int .i64 0, .int .i64 1, .int .i64 1, .int .i64 0, .int .i64 0, .bool false], .slice none 0 0] w fun e w' => e = .returned (.tuple #[.int .i64 3, .bool true]) ∧ Below w.heap.size w w' := by
  have h := pick_c 0 0 0 0 0 0 1 1 2 0 1 1 0 0 false (.slice none 0 0) (fun n => decide (n = 3)) (by decide) (by decide) w (fun n n0 n3 W _ => by
    rcases (show n = 0 ∨ n = 1 ∨ n = 2 ∨ n = 3 by omega) with rfl | rfl | rfl | rfl
    · exact hasa_0_1 W
    · exact hasa_1_1 W
    · exact hasa_2_1 W
    · exact hasa_3_1 W)
  exact h
theorem hasa_0_2 (w : World) : Calls Try.prog 13 #[.agg #[.int .i64 0, .int .i64 0, .int .i64 0, .int .i64 0, .int .i64 0, .int .i64 0, .int .i64 1, .int .i64 1], .int .i64 0, .agg #[.int .i64 0, .int .i64 1, .int .i64 2, .int .i64 0, .int .i64 0, .bool false], .slice none 0 0] w fun e w' => e = .returned (.bool false) ∧ Below w.heap.size w w' := by
  go_enter Try.func13, Try.ntmps13
  go_wp2
  go_ret
  exact ⟨rfl, ((Below.refl _ _).alloc (Nat.le_refl _) _).alloc (by simp) _⟩
theorem hasa_1_2 (w : World) : Calls Try.prog 13 #[.agg #[.int .i64 0, .int .i64 0, .int .i64 0, .int .i64 0, .int .i64 0, .int .i64 0, .int .i64 1, .int .i64 1], .int .i64 1, .agg #[.int .i64 0, .int .i64 1, .int .i64 2, .int .i64 0, .int .i64 0, .bool false], .slice none 0 0] w fun e w' => e = .returned (.bool false) ∧ Below w.heap.size w w' := by
  go_enter Try.func13, Try.ntmps13
  go_wp2
  go_ret
  exact ⟨rfl, ((Below.refl _ _).alloc (Nat.le_refl _) _).alloc (by simp) _⟩
theorem hasa_2_2 (w : World) : Calls Try.prog 13 #[.agg #[.int .i64 0, .int .i64 0, .int .i64 0, .int .i64 0, .int .i64 0, .int .i64 0, .int .i64 1, .int .i64 1], .int .i64 2, .agg #[.int .i64 0, .int .i64 1, .int .i64 2, .int .i64 0, .int .i64 0, .bool false], .slice none 0 0] w fun e w' => e = .returned (.bool false) ∧ Below w.heap.size w w' := by
  go_enter Try.func13, Try.ntmps13
  go_wp2
  go_ret
  exact ⟨rfl, ((Below.refl _ _).alloc (Nat.le_refl _) _).alloc (by simp) _⟩
theorem hasa_3_2 (w : World) : Calls Try.prog 13 #[.agg #[.int .i64 0, .int .i64 0, .int .i64 0, .int .i64 0, .int .i64 0, .int .i64 0, .int .i64 1, .int .i64 1], .int .i64 3, .agg #[.int .i64 0, .int .i64 1, .int .i64 2, .int .i64 0, .int .i64 0, .bool false], .slice none 0 0] w fun e w' => e = .returned (.bool false) ∧ Below w.heap.size w w' := by
  go_enter Try.func13, Try.ntmps13
  go_wp2
  go_quiet (fail)
  go_wp2
  go_ret
  exact ⟨rfl, pw_below_drewN ((((Below.refl _ _).alloc (Nat.le_refl _) _).alloc (by simp) _).alloc (by simp; omega) _) _⟩
theorem picka_2 (w : World) : Calls Try.prog 15 #[.agg #[.int .i64 0, .int .i64 0, .int .i64 0, .int .i64 0, .int .i64 0, .int .i64 0, .int .i64 1, .int .i64 1], .int .i64 2, .agg #[.int .i64 0, .int .i64 1, .int .i64 2, .int .i64 0, .int .i64 0, .bool false], .slice none 0 0] w fun e w' => e = .returned (.tuple #[.int .i64 2, .bool false]) ∧ Below w.heap.size w w' := by
  have h := pick_c 0 0 0 0 0 0 1 1 2 0 1 2 0 0 false (.slice none 0 0) (fun n => false) (by decide) (by decide) w (fun n n0 n3 W _ => by
    rcases (show n = 0 ∨ n = 1 ∨ n = 2 ∨ n = 3 by omega) with rfl | rfl | rfl | rfl
    · exact hasa_0_2 W
    · exact hasa_1_2 W
    · exact hasa_2_2 W
    · exact hasa_3_2 W)
  exact h
theorem awake33_c (w : World) : Calls Try.prog 17 #[] w fun e w' => e = .returned (.bool true) ∧ Below w.heap.size w w' := by
  go_enter Try.func17, Try.ntmps17
  go_wp2_with fail
  refine (set_3 0 0 0 0 0 0 0 0 1 1 _).mono ?_
  rintro e w1 ⟨rfl, hb1⟩
  have B1 := Aside0.mk hb1
  clear hb1
  go_wp2_with fail
  refine (picka_1 _).mono ?_
  rintro e w2 ⟨rfl, hb2⟩
  obtain ⟨hc, hf⟩ := bcell hb2
  have B2 := Aside0.mk hb2
  clear hb2
  go_wp2_with fail
  refine (picka_2 _).mono ?_
  rintro e w3 ⟨rfl, hb3⟩
  have B3 := Aside0.mk (below_step B2.out hb3)
  clear hc hf hb3
  obtain ⟨hc, hf⟩ := bcell B3.out
  go_wp2_with fail
  refine (hasa_3_1 _).mono ?_
  rintro e w4 ⟨rfl, hb4⟩
  have B4 := Aside0.mk (below_step B3.out hb4)
  clear hb4
  go_wp2_with fail
  go_ret
  exact ⟨rfl, below_step (B1.out.alloc B1.out.size _) B4.out⟩
attribute [local go_sem high] eqA29
set_option maxRecDepth 100000 in
set_option maxHeartbeats 2000000 in
theorem raw_0_0 (a0 a1 a2 a3 a4 a5 a6 a7 : Int)  (v0 v1 v2 v3 v4 : Int) (v5 : Bool) (h1 : (v1 == 1) = false) (w : World) : Calls Try.prog 4 #[.agg #[.int .i64 a0, .int .i64 a1, .int .i64 a2, .int .i64 a3, .int .i64 a4, .int .i64 a5, .int .i64 a6, .int .i64 a7], .int .i64 0, .agg #[.int .i64 v0, .int .i64 v1, .int .i64 v2, .int .i64 v3, .int .i64 v4, .bool v5]] w fun e w' => e = .returned (.bool true) ∧ Below w.heap.size w w' := by
  have hbk : Go.bits .and .i64 0 3 = 0 := by decide
  have BB := Aside0.mk (((Below.refl w.heap.size w).alloc (Nat.le_refl _) (.cells #[.int .i64 a0, .int .i64 a1, .int .i64 a2, .int .i64 a3, .int .i64 a4, .int .i64 a5, .int .i64 a6, .int .i64 a7] 29)).alloc (by simp) (.cells #[.int .i64 v0, .int .i64 v1, .int .i64 v2, .int .i64 v3, .int .i64 v4, .bool v5] 24))
  go_enter Try.func4, Try.ntmps4
  go_wp2_with fail
  refine (set_0 _ _ _ _ _ _ _ _ _ _ _).mono ?_
  rintro e w1 ⟨rfl, hb1⟩
  obtain ⟨hc, hf⟩ := bcell hb1
  have hz1 : w.heap.size + 1 < w1.heap.size := by have := hb1.size; simp at this; omega
  have hz0 : w.heap.size < w1.heap.size := by omega
  have n0 := Aside0.mk (below_step BB.out hb1)
  clear BB hb1
  have BB := n0
  clear n0
  go_wp2_with fail
  refine (frame_0_0 _ _ _ _ _ _ _ _ _ _ _ _ _ _ h1 _).mono ?_
  rintro e w2 ⟨rfl, hb2⟩
  obtain ⟨hc2, hf2⟩ := bcell hb2
  have hs2 : w1.heap.size + 2 ≤ w2.heap.size := by have := hb2.size; simp at this; omega
  have hq0 : w.heap.size < w1.heap.size + 1 + 1 := by omega
  have hq1 : w.heap.size < w1.heap.size + 1 := by omega
  have n0 := Aside0.mk (below_step ((BB.out.alloc BB.out.size _).alloc (by have := BB.out.size; simp; omega) _) hb2)
  clear BB hb2
  have BB := n0
  clear n0
  go_wp2_with fail
  refine (awake33_c _).mono ?_
  rintro e w3 ⟨rfl, hb3⟩
  obtain ⟨hc3, hf3⟩ := bcell hb3
  have hp0 : w.heap.size < w2.heap.size := by omega
  have hp1 : w.heap.size + 1 < w2.heap.size := by omega
  have hp2 : w1.heap.size < w2.heap.size := by omega
  have hp3 : w1.heap.size + 1 < w2.heap.size := by omega
  have n0 := Aside0.mk (below_step BB.out hb3)
  clear BB hb3 hs2
  have BB := n0
  clear n0
  go_wp2_with fail
  go_ret
  exact ⟨rfl, BB.out⟩
set_option maxRecDepth 100000 in
set_option maxHeartbeats 2000000 in
theorem raw_0_1 (a0 a1 a2 a3 a4 a5 a6 a7 : Int)  (v0 v1 v2 v3 v4 : Int) (v5 : Bool) (h1 : (v1 == 1) = true) (h2 : (a0 == 2) = false) (w : World) : Calls Try.prog 4 #[.agg #[.int .i64 a0, .int .i64 a1, .int .i64 a2, .int .i64 a3, .int .i64 a4, .int .i64 a5, .int .i64 a6, .int .i64 a7], .int .i64 0, .agg #[.int .i64 v0, .int .i64 v1, .int .i64 v2, .int .i64 v3, .int .i64 v4, .bool v5]] w fun e w' => e = .returned (.bool true) ∧ Below w.heap.size w w' := by
  have hbk : Go.bits .and .i64 0 3 = 0 := by decide
  have BB := Aside0.mk (((Below.refl w.heap.size w).alloc (Nat.le_refl _) (.cells #[.int .i64 a0, .int .i64 a1, .int .i64 a2, .int .i64 a3, .int .i64 a4, .int .i64 a5, .int .i64 a6, .int .i64 a7] 29)).alloc (by simp) (.cells #[.int .i64 v0, .int .i64 v1, .int .i64 v2, .int .i64 v3, .int .i64 v4, .bool v5] 24))
  go_enter Try.func4, Try.ntmps4
  go_wp2_with fail
  refine (set_0 _ _ _ _ _ _ _ _ _ _ _).mono ?_
  rintro e w1 ⟨rfl, hb1⟩
  obtain ⟨hc, hf⟩ := bcell hb1
  have hz1 : w.heap.size + 1 < w1.heap.size := by have := hb1.size; simp at this; omega
  have hz0 : w.heap.size < w1.heap.size := by omega
  have n0 := Aside0.mk (below_step BB.out hb1)
  clear BB hb1
  have BB := n0
  clear n0
  go_wp2_with fail
  refine (frame_0_1 _ _ _ _ _ _ _ _ _ _ _ _ _ _ h1 h2 _).mono ?_
  rintro e w2 ⟨rfl, hb2⟩
  obtain ⟨hc2, hf2⟩ := bcell hb2
  have hs2 : w1.heap.size + 2 ≤ w2.heap.size := by have := hb2.size; simp at this; omega
  have hq0 : w.heap.size < w1.heap.size + 1 + 1 := by omega
  have hq1 : w.heap.size < w1.heap.size + 1 := by omega
  have n0 := Aside0.mk (below_step ((BB.out.alloc BB.out.size _).alloc (by have := BB.out.size; simp; omega) _) hb2)
  clear BB hb2
  have BB := n0
  clear n0
  go_wp2_with fail
  refine (awake33_c _).mono ?_
  rintro e w3 ⟨rfl, hb3⟩
  obtain ⟨hc3, hf3⟩ := bcell hb3
  have hp0 : w.heap.size < w2.heap.size := by omega
  have hp1 : w.heap.size + 1 < w2.heap.size := by omega
  have hp2 : w1.heap.size < w2.heap.size := by omega
  have hp3 : w1.heap.size + 1 < w2.heap.size := by omega
  have n0 := Aside0.mk (below_step BB.out hb3)
  clear BB hb3 hs2
  have BB := n0
  clear n0
  go_wp2_with fail
  go_ret
  exact ⟨rfl, BB.out⟩
set_option maxRecDepth 100000 in
set_option maxHeartbeats 2000000 in
theorem raw_0_2 (a0 a1 a2 a3 a4 a5 a6 a7 : Int)  (v0 v1 v2 v3 v4 : Int) (v5 : Bool) (h1 : (v1 == 1) = true) (h2 : (a0 == 2) = true) (w : World) : Calls Try.prog 4 #[.agg #[.int .i64 a0, .int .i64 a1, .int .i64 a2, .int .i64 a3, .int .i64 a4, .int .i64 a5, .int .i64 a6, .int .i64 a7], .int .i64 0, .agg #[.int .i64 v0, .int .i64 v1, .int .i64 v2, .int .i64 v3, .int .i64 v4, .bool v5]] w fun e w' => e = .returned (.bool true) ∧ Below w.heap.size w w' := by
  have hbk : Go.bits .and .i64 0 3 = 0 := by decide
  have BB := Aside0.mk (((Below.refl w.heap.size w).alloc (Nat.le_refl _) (.cells #[.int .i64 a0, .int .i64 a1, .int .i64 a2, .int .i64 a3, .int .i64 a4, .int .i64 a5, .int .i64 a6, .int .i64 a7] 29)).alloc (by simp) (.cells #[.int .i64 v0, .int .i64 v1, .int .i64 v2, .int .i64 v3, .int .i64 v4, .bool v5] 24))
  go_enter Try.func4, Try.ntmps4
  go_wp2_with fail
  refine (set_0 _ _ _ _ _ _ _ _ _ _ _).mono ?_
  rintro e w1 ⟨rfl, hb1⟩
  obtain ⟨hc, hf⟩ := bcell hb1
  have hz1 : w.heap.size + 1 < w1.heap.size := by have := hb1.size; simp at this; omega
  have hz0 : w.heap.size < w1.heap.size := by omega
  have n0 := Aside0.mk (below_step BB.out hb1)
  clear BB hb1
  have BB := n0
  clear n0
  go_wp2_with fail
  refine (frame_0_2 _ _ _ _ _ _ _ _ _ _ _ _ _ _ h1 h2 _).mono ?_
  rintro e w2 ⟨rfl, hb2⟩
  obtain ⟨hc2, hf2⟩ := bcell hb2
  have hs2 : w1.heap.size + 2 ≤ w2.heap.size := by have := hb2.size; simp at this; omega
  have hq0 : w.heap.size < w1.heap.size + 1 + 1 := by omega
  have hq1 : w.heap.size < w1.heap.size + 1 := by omega
  have n0 := Aside0.mk (below_step ((BB.out.alloc BB.out.size _).alloc (by have := BB.out.size; simp; omega) _) hb2)
  clear BB hb2
  have BB := n0
  clear n0
  go_wp2_with fail
  refine (awake33_c _).mono ?_
  rintro e w3 ⟨rfl, hb3⟩
  obtain ⟨hc3, hf3⟩ := bcell hb3
  have hp0 : w.heap.size < w2.heap.size := by omega
  have hp1 : w.heap.size + 1 < w2.heap.size := by omega
  have hp2 : w1.heap.size < w2.heap.size := by omega
  have hp3 : w1.heap.size + 1 < w2.heap.size := by omega
  have n0 := Aside0.mk (below_step BB.out hb3)
  clear BB hb3 hs2
  have BB := n0
  clear n0
  go_wp2_with fail
  go_ret
  exact ⟨rfl, BB.out⟩
set_option maxRecDepth 100000 in
set_option maxHeartbeats 2000000 in
theorem raw_1_0 (a0 a1 a2 a3 a4 a5 a6 a7 : Int)  (v0 v1 v2 v3 v4 : Int) (v5 : Bool) (h1 : (v1 == 1) = false) (w : World) : Calls Try.prog 4 #[.agg #[.int .i64 a0, .int .i64 a1, .int .i64 a2, .int .i64 a3, .int .i64 a4, .int .i64 a5, .int .i64 a6, .int .i64 a7], .int .i64 1, .agg #[.int .i64 v0, .int .i64 v1, .int .i64 v2, .int .i64 v3, .int .i64 v4, .bool v5]] w fun e w' => e = .returned (.bool true) ∧ Below w.heap.size w w' := by
  have hbk : Go.bits .and .i64 1 3 = 1 := by decide
  have BB := Aside0.mk (((Below.refl w.heap.size w).alloc (Nat.le_refl _) (.cells #[.int .i64 a0, .int .i64 a1, .int .i64 a2, .int .i64 a3, .int .i64 a4, .int .i64 a5, .int .i64 a6, .int .i64 a7] 29)).alloc (by simp) (.cells #[.int .i64 v0, .int .i64 v1, .int .i64 v2, .int .i64 v3, .int .i64 v4, .bool v5] 24))
  go_enter Try.func4, Try.ntmps4
  go_wp2_with fail
  refine (set_1 _ _ _ _ _ _ _ _ _ _ _).mono ?_
  rintro e w1 ⟨rfl, hb1⟩
  obtain ⟨hc, hf⟩ := bcell hb1
  have hz1 : w.heap.size + 1 < w1.heap.size := by have := hb1.size; simp at this; omega
  have hz0 : w.heap.size < w1.heap.size := by omega
  have n0 := Aside0.mk (below_step BB.out hb1)
  clear BB hb1
  have BB := n0
  clear n0
  go_wp2_with fail
  refine (frame_1_0 _ _ _ _ _ _ _ _ _ _ _ _ _ _ h1 _).mono ?_
  rintro e w2 ⟨rfl, hb2⟩
  obtain ⟨hc2, hf2⟩ := bcell hb2
  have hs2 : w1.heap.size + 2 ≤ w2.heap.size := by have := hb2.size; simp at this; omega
  have hq0 : w.heap.size < w1.heap.size + 1 + 1 := by omega
  have hq1 : w.heap.size < w1.heap.size + 1 := by omega
  have n0 := Aside0.mk (below_step ((BB.out.alloc BB.out.size _).alloc (by have := BB.out.size; simp; omega) _) hb2)
  clear BB hb2
  have BB := n0
  clear n0
  go_wp2_with fail
  refine (awake33_c _).mono ?_
  rintro e w3 ⟨rfl, hb3⟩
  obtain ⟨hc3, hf3⟩ := bcell hb3
  have hp0 : w.heap.size < w2.heap.size := by omega
  have hp1 : w.heap.size + 1 < w2.heap.size := by omega
  have hp2 : w1.heap.size < w2.heap.size := by omega
  have hp3 : w1.heap.size + 1 < w2.heap.size := by omega
  have n0 := Aside0.mk (below_step BB.out hb3)
  clear BB hb3 hs2
  have BB := n0
  clear n0
  go_wp2_with fail
  go_ret
  exact ⟨rfl, BB.out⟩
set_option maxRecDepth 100000 in
set_option maxHeartbeats 2000000 in
theorem raw_1_1 (a0 a1 a2 a3 a4 a5 a6 a7 : Int)  (v0 v1 v2 v3 v4 : Int) (v5 : Bool) (h1 : (v1 == 1) = true) (h2 : (a2 == 2) = false) (w : World) : Calls Try.prog 4 #[.agg #[.int .i64 a0, .int .i64 a1, .int .i64 a2, .int .i64 a3, .int .i64 a4, .int .i64 a5, .int .i64 a6, .int .i64 a7], .int .i64 1, .agg #[.int .i64 v0, .int .i64 v1, .int .i64 v2, .int .i64 v3, .int .i64 v4, .bool v5]] w fun e w' => e = .returned (.bool true) ∧ Below w.heap.size w w' := by
  have hbk : Go.bits .and .i64 1 3 = 1 := by decide
  have BB := Aside0.mk (((Below.refl w.heap.size w).alloc (Nat.le_refl _) (.cells #[.int .i64 a0, .int .i64 a1, .int .i64 a2, .int .i64 a3, .int .i64 a4, .int .i64 a5, .int .i64 a6, .int .i64 a7] 29)).alloc (by simp) (.cells #[.int .i64 v0, .int .i64 v1, .int .i64 v2, .int .i64 v3, .int .i64 v4, .bool v5] 24))
  go_enter Try.func4, Try.ntmps4
  go_wp2_with fail
  refine (set_1 _ _ _ _ _ _ _ _ _ _ _).mono ?_
  rintro e w1 ⟨rfl, hb1⟩
  obtain ⟨hc, hf⟩ := bcell hb1
  have hz1 : w.heap.size + 1 < w1.heap.size := by have := hb1.size; simp at this; omega
  have hz0 : w.heap.size < w1.heap.size := by omega
  have n0 := Aside0.mk (below_step BB.out hb1)
  clear BB hb1
  have BB := n0
  clear n0
  go_wp2_with fail
  refine (frame_1_1 _ _ _ _ _ _ _ _ _ _ _ _ _ _ h1 h2 _).mono ?_
  rintro e w2 ⟨rfl, hb2⟩
  obtain ⟨hc2, hf2⟩ := bcell hb2
  have hs2 : w1.heap.size + 2 ≤ w2.heap.size := by have := hb2.size; simp at this; omega
  have hq0 : w.heap.size < w1.heap.size + 1 + 1 := by omega
  have hq1 : w.heap.size < w1.heap.size + 1 := by omega
  have n0 := Aside0.mk (below_step ((BB.out.alloc BB.out.size _).alloc (by have := BB.out.size; simp; omega) _) hb2)
  clear BB hb2
  have BB := n0
  clear n0
  go_wp2_with fail
  refine (awake33_c _).mono ?_
  rintro e w3 ⟨rfl, hb3⟩
  obtain ⟨hc3, hf3⟩ := bcell hb3
  have hp0 : w.heap.size < w2.heap.size := by omega
  have hp1 : w.heap.size + 1 < w2.heap.size := by omega
  have hp2 : w1.heap.size < w2.heap.size := by omega
  have hp3 : w1.heap.size + 1 < w2.heap.size := by omega
  have n0 := Aside0.mk (below_step BB.out hb3)
  clear BB hb3 hs2
  have BB := n0
  clear n0
  go_wp2_with fail
  go_ret
  exact ⟨rfl, BB.out⟩
set_option maxRecDepth 100000 in
set_option maxHeartbeats 2000000 in
theorem raw_1_2 (a0 a1 a2 a3 a4 a5 a6 a7 : Int)  (v0 v1 v2 v3 v4 : Int) (v5 : Bool) (h1 : (v1 == 1) = true) (h2 : (a2 == 2) = true) (w : World) : Calls Try.prog 4 #[.agg #[.int .i64 a0, .int .i64 a1, .int .i64 a2, .int .i64 a3, .int .i64 a4, .int .i64 a5, .int .i64 a6, .int .i64 a7], .int .i64 1, .agg #[.int .i64 v0, .int .i64 v1, .int .i64 v2, .int .i64 v3, .int .i64 v4, .bool v5]] w fun e w' => e = .returned (.bool true) ∧ Below w.heap.size w w' := by
  have hbk : Go.bits .and .i64 1 3 = 1 := by decide
  have BB := Aside0.mk (((Below.refl w.heap.size w).alloc (Nat.le_refl _) (.cells #[.int .i64 a0, .int .i64 a1, .int .i64 a2, .int .i64 a3, .int .i64 a4, .int .i64 a5, .int .i64 a6, .int .i64 a7] 29)).alloc (by simp) (.cells #[.int .i64 v0, .int .i64 v1, .int .i64 v2, .int .i64 v3, .int .i64 v4, .bool v5] 24))
  go_enter Try.func4, Try.ntmps4
  go_wp2_with fail
  refine (set_1 _ _ _ _ _ _ _ _ _ _ _).mono ?_
  rintro e w1 ⟨rfl, hb1⟩
  obtain ⟨hc, hf⟩ := bcell hb1
  have hz1 : w.heap.size + 1 < w1.heap.size := by have := hb1.size; simp at this; omega
  have hz0 : w.heap.size < w1.heap.size := by omega
  have n0 := Aside0.mk (below_step BB.out hb1)
  clear BB hb1
  have BB := n0
  clear n0
  go_wp2_with fail
  refine (frame_1_2 _ _ _ _ _ _ _ _ _ _ _ _ _ _ h1 h2 _).mono ?_
  rintro e w2 ⟨rfl, hb2⟩
  obtain ⟨hc2, hf2⟩ := bcell hb2
  have hs2 : w1.heap.size + 2 ≤ w2.heap.size := by have := hb2.size; simp at this; omega
  have hq0 : w.heap.size < w1.heap.size + 1 + 1 := by omega
  have hq1 : w.heap.size < w1.heap.size + 1 := by omega
  have n0 := Aside0.mk (below_step ((BB.out.alloc BB.out.size _).alloc (by have := BB.out.size; simp; omega) _) hb2)
  clear BB hb2
  have BB := n0
  clear n0
  go_wp2_with fail
  refine (awake33_c _).mono ?_
  rintro e w3 ⟨rfl, hb3⟩
  obtain ⟨hc3, hf3⟩ := bcell hb3
  have hp0 : w.heap.size < w2.heap.size := by omega
  have hp1 : w.heap.size + 1 < w2.heap.size := by omega
  have hp2 : w1.heap.size < w2.heap.size := by omega
  have hp3 : w1.heap.size + 1 < w2.heap.size := by omega
  have n0 := Aside0.mk (below_step BB.out hb3)
  clear BB hb3 hs2
  have BB := n0
  clear n0
  go_wp2_with fail
  go_ret
  exact ⟨rfl, BB.out⟩
set_option maxRecDepth 100000 in
set_option maxHeartbeats 2000000 in
theorem raw_2_0 (a0 a1 a2 a3 a4 a5 a6 a7 : Int)  (v0 v1 v2 v3 v4 : Int) (v5 : Bool) (h1 : (v1 == 1) = false) (w : World) : Calls Try.prog 4 #[.agg #[.int .i64 a0, .int .i64 a1, .int .i64 a2, .int .i64 a3, .int .i64 a4, .int .i64 a5, .int .i64 a6, .int .i64 a7], .int .i64 2, .agg #[.int .i64 v0, .int .i64 v1, .int .i64 v2, .int .i64 v3, .int .i64 v4, .bool v5]] w fun e w' => e = .returned (.bool true) ∧ Below w.heap.size w w' := by
  have hbk : Go.bits .and .i64 2 3 = 2 := by decide
  have BB := Aside0.mk (((Below.refl w.heap.size w).alloc (Nat.le_refl _) (.cells #[.int .i64 a0, .int .i64 a1, .int .i64 a2, .int .i64 a3, .int .i64 a4, .int .i64 a5, .int .i64 a6, .int .i64 a7] 29)).alloc (by simp) (.cells #[.int .i64 v0, .int .i64 v1, .int .i64 v2, .int .i64 v3, .int .i64 v4, .bool v5] 24))
  go_enter Try.func4, Try.ntmps4
  go_wp2_with fail
  refine (set_2 _ _ _ _ _ _ _ _ _ _ _).mono ?_
  rintro e w1 ⟨rfl, hb1⟩
  obtain ⟨hc, hf⟩ := bcell hb1
  have hz1 : w.heap.size + 1 < w1.heap.size := by have := hb1.size; simp at this; omega
  have hz0 : w.heap.size < w1.heap.size := by omega
  have n0 := Aside0.mk (below_step BB.out hb1)
  clear BB hb1
  have BB := n0
  clear n0
  go_wp2_with fail
  refine (frame_2_0 _ _ _ _ _ _ _ _ _ _ _ _ _ _ h1 _).mono ?_
  rintro e w2 ⟨rfl, hb2⟩
  obtain ⟨hc2, hf2⟩ := bcell hb2
  have hs2 : w1.heap.size + 2 ≤ w2.heap.size := by have := hb2.size; simp at this; omega
  have hq0 : w.heap.size < w1.heap.size + 1 + 1 := by omega
  have hq1 : w.heap.size < w1.heap.size + 1 := by omega
  have n0 := Aside0.mk (below_step ((BB.out.alloc BB.out.size _).alloc (by have := BB.out.size; simp; omega) _) hb2)
  clear BB hb2
  have BB := n0
  clear n0
  go_wp2_with fail
  refine (awake33_c _).mono ?_
  rintro e w3 ⟨rfl, hb3⟩
  obtain ⟨hc3, hf3⟩ := bcell hb3
  have hp0 : w.heap.size < w2.heap.size := by omega
  have hp1 : w.heap.size + 1 < w2.heap.size := by omega
  have hp2 : w1.heap.size < w2.heap.size := by omega
  have hp3 : w1.heap.size + 1 < w2.heap.size := by omega
  have n0 := Aside0.mk (below_step BB.out hb3)
  clear BB hb3 hs2
  have BB := n0
  clear n0
  go_wp2_with fail
  go_ret
  exact ⟨rfl, BB.out⟩
set_option maxRecDepth 100000 in
set_option maxHeartbeats 2000000 in
theorem raw_2_1 (a0 a1 a2 a3 a4 a5 a6 a7 : Int)  (v0 v1 v2 v3 v4 : Int) (v5 : Bool) (h1 : (v1 == 1) = true) (h2 : (a4 == 2) = false) (w : World) : Calls Try.prog 4 #[.agg #[.int .i64 a0, .int .i64 a1, .int .i64 a2, .int .i64 a3, .int .i64 a4, .int .i64 a5, .int .i64 a6, .int .i64 a7], .int .i64 2, .agg #[.int .i64 v0, .int .i64 v1, .int .i64 v2, .int .i64 v3, .int .i64 v4, .bool v5]] w fun e w' => e = .returned (.bool true) ∧ Below w.heap.size w w' := by
  have hbk : Go.bits .and .i64 2 3 = 2 := by decide
  have BB := Aside0.mk (((Below.refl w.heap.size w).alloc (Nat.le_refl _) (.cells #[.int .i64 a0, .int .i64 a1, .int .i64 a2, .int .i64 a3, .int .i64 a4, .int .i64 a5, .int .i64 a6, .int .i64 a7] 29)).alloc (by simp) (.cells #[.int .i64 v0, .int .i64 v1, .int .i64 v2, .int .i64 v3, .int .i64 v4, .bool v5] 24))
  go_enter Try.func4, Try.ntmps4
  go_wp2_with fail
  refine (set_2 _ _ _ _ _ _ _ _ _ _ _).mono ?_
  rintro e w1 ⟨rfl, hb1⟩
  obtain ⟨hc, hf⟩ := bcell hb1
  have hz1 : w.heap.size + 1 < w1.heap.size := by have := hb1.size; simp at this; omega
  have hz0 : w.heap.size < w1.heap.size := by omega
  have n0 := Aside0.mk (below_step BB.out hb1)
  clear BB hb1
  have BB := n0
  clear n0
  go_wp2_with fail
  refine (frame_2_1 _ _ _ _ _ _ _ _ _ _ _ _ _ _ h1 h2 _).mono ?_
  rintro e w2 ⟨rfl, hb2⟩
  obtain ⟨hc2, hf2⟩ := bcell hb2
  have hs2 : w1.heap.size + 2 ≤ w2.heap.size := by have := hb2.size; simp at this; omega
  have hq0 : w.heap.size < w1.heap.size + 1 + 1 := by omega
  have hq1 : w.heap.size < w1.heap.size + 1 := by omega
  have n0 := Aside0.mk (below_step ((BB.out.alloc BB.out.size _).alloc (by have := BB.out.size; simp; omega) _) hb2)
  clear BB hb2
  have BB := n0
  clear n0
  go_wp2_with fail
  refine (awake33_c _).mono ?_
  rintro e w3 ⟨rfl, hb3⟩
  obtain ⟨hc3, hf3⟩ := bcell hb3
  have hp0 : w.heap.size < w2.heap.size := by omega
  have hp1 : w.heap.size + 1 < w2.heap.size := by omega
  have hp2 : w1.heap.size < w2.heap.size := by omega
  have hp3 : w1.heap.size + 1 < w2.heap.size := by omega
  have n0 := Aside0.mk (below_step BB.out hb3)
  clear BB hb3 hs2
  have BB := n0
  clear n0
  go_wp2_with fail
  go_ret
  exact ⟨rfl, BB.out⟩
set_option maxRecDepth 100000 in
set_option maxHeartbeats 2000000 in
theorem raw_2_2 (a0 a1 a2 a3 a4 a5 a6 a7 : Int)  (v0 v1 v2 v3 v4 : Int) (v5 : Bool) (h1 : (v1 == 1) = true) (h2 : (a4 == 2) = true) (w : World) : Calls Try.prog 4 #[.agg #[.int .i64 a0, .int .i64 a1, .int .i64 a2, .int .i64 a3, .int .i64 a4, .int .i64 a5, .int .i64 a6, .int .i64 a7], .int .i64 2, .agg #[.int .i64 v0, .int .i64 v1, .int .i64 v2, .int .i64 v3, .int .i64 v4, .bool v5]] w fun e w' => e = .returned (.bool true) ∧ Below w.heap.size w w' := by
  have hbk : Go.bits .and .i64 2 3 = 2 := by decide
  have BB := Aside0.mk (((Below.refl w.heap.size w).alloc (Nat.le_refl _) (.cells #[.int .i64 a0, .int .i64 a1, .int .i64 a2, .int .i64 a3, .int .i64 a4, .int .i64 a5, .int .i64 a6, .int .i64 a7] 29)).alloc (by simp) (.cells #[.int .i64 v0, .int .i64 v1, .int .i64 v2, .int .i64 v3, .int .i64 v4, .bool v5] 24))
  go_enter Try.func4, Try.ntmps4
  go_wp2_with fail
  refine (set_2 _ _ _ _ _ _ _ _ _ _ _).mono ?_
  rintro e w1 ⟨rfl, hb1⟩
  obtain ⟨hc, hf⟩ := bcell hb1
  have hz1 : w.heap.size + 1 < w1.heap.size := by have := hb1.size; simp at this; omega
  have hz0 : w.heap.size < w1.heap.size := by omega
  have n0 := Aside0.mk (below_step BB.out hb1)
  clear BB hb1
  have BB := n0
  clear n0
  go_wp2_with fail
  refine (frame_2_2 _ _ _ _ _ _ _ _ _ _ _ _ _ _ h1 h2 _).mono ?_
  rintro e w2 ⟨rfl, hb2⟩
  obtain ⟨hc2, hf2⟩ := bcell hb2
  have hs2 : w1.heap.size + 2 ≤ w2.heap.size := by have := hb2.size; simp at this; omega
  have hq0 : w.heap.size < w1.heap.size + 1 + 1 := by omega
  have hq1 : w.heap.size < w1.heap.size + 1 := by omega
  have n0 := Aside0.mk (below_step ((BB.out.alloc BB.out.size _).alloc (by have := BB.out.size; simp; omega) _) hb2)
  clear BB hb2
  have BB := n0
  clear n0
  go_wp2_with fail
  refine (awake33_c _).mono ?_
  rintro e w3 ⟨rfl, hb3⟩
  obtain ⟨hc3, hf3⟩ := bcell hb3
  have hp0 : w.heap.size < w2.heap.size := by omega
  have hp1 : w.heap.size + 1 < w2.heap.size := by omega
  have hp2 : w1.heap.size < w2.heap.size := by omega
  have hp3 : w1.heap.size + 1 < w2.heap.size := by omega
  have n0 := Aside0.mk (below_step BB.out hb3)
  clear BB hb3 hs2
  have BB := n0
  clear n0
  go_wp2_with fail
  go_ret
  exact ⟨rfl, BB.out⟩
set_option maxRecDepth 100000 in
set_option maxHeartbeats 2000000 in
theorem raw_3_0 (a0 a1 a2 a3 a4 a5 a6 a7 : Int)  (v0 v1 v2 v3 v4 : Int) (v5 : Bool) (h1 : (v1 == 1) = false) (w : World) : Calls Try.prog 4 #[.agg #[.int .i64 a0, .int .i64 a1, .int .i64 a2, .int .i64 a3, .int .i64 a4, .int .i64 a5, .int .i64 a6, .int .i64 a7], .int .i64 3, .agg #[.int .i64 v0, .int .i64 v1, .int .i64 v2, .int .i64 v3, .int .i64 v4, .bool v5]] w fun e w' => e = .returned (.bool true) ∧ Below w.heap.size w w' := by
  have hbk : Go.bits .and .i64 3 3 = 3 := by decide
  have BB := Aside0.mk (((Below.refl w.heap.size w).alloc (Nat.le_refl _) (.cells #[.int .i64 a0, .int .i64 a1, .int .i64 a2, .int .i64 a3, .int .i64 a4, .int .i64 a5, .int .i64 a6, .int .i64 a7] 29)).alloc (by simp) (.cells #[.int .i64 v0, .int .i64 v1, .int .i64 v2, .int .i64 v3, .int .i64 v4, .bool v5] 24))
  go_enter Try.func4, Try.ntmps4
  go_wp2_with fail
  refine (set_3 _ _ _ _ _ _ _ _ _ _ _).mono ?_
  rintro e w1 ⟨rfl, hb1⟩
  obtain ⟨hc, hf⟩ := bcell hb1
  have hz1 : w.heap.size + 1 < w1.heap.size := by have := hb1.size; simp at this; omega
  have hz0 : w.heap.size < w1.heap.size := by omega
  have n0 := Aside0.mk (below_step BB.out hb1)
  clear BB hb1
  have BB := n0
  clear n0
  go_wp2_with fail
  refine (frame_3_0 _ _ _ _ _ _ _ _ _ _ _ _ _ _ h1 _).mono ?_
  rintro e w2 ⟨rfl, hb2⟩
  obtain ⟨hc2, hf2⟩ := bcell hb2
  have hs2 : w1.heap.size + 2 ≤ w2.heap.size := by have := hb2.size; simp at this; omega
  have hq0 : w.heap.size < w1.heap.size + 1 + 1 := by omega
  have hq1 : w.heap.size < w1.heap.size + 1 := by omega
  have n0 := Aside0.mk (below_step ((BB.out.alloc BB.out.size _).alloc (by have := BB.out.size; simp; omega) _) hb2)
  clear BB hb2
  have BB := n0
  clear n0
  go_wp2_with fail
  refine (awake33_c _).mono ?_
  rintro e w3 ⟨rfl, hb3⟩
  obtain ⟨hc3, hf3⟩ := bcell hb3
  have hp0 : w.heap.size < w2.heap.size := by omega
  have hp1 : w.heap.size + 1 < w2.heap.size := by omega
  have hp2 : w1.heap.size < w2.heap.size := by omega
  have hp3 : w1.heap.size + 1 < w2.heap.size := by omega
  have n0 := Aside0.mk (below_step BB.out hb3)
  clear BB hb3 hs2
  have BB := n0
  clear n0
  go_wp2_with fail
  go_ret
  exact ⟨rfl, BB.out⟩
set_option maxRecDepth 100000 in
set_option maxHeartbeats 2000000 in
theorem raw_3_1 (a0 a1 a2 a3 a4 a5 a6 a7 : Int)  (v0 v1 v2 v3 v4 : Int) (v5 : Bool) (h1 : (v1 == 1) = true) (h2 : (a6 == 2) = false) (w : World) : Calls Try.prog 4 #[.agg #[.int .i64 a0, .int .i64 a1, .int .i64 a2, .int .i64 a3, .int .i64 a4, .int .i64 a5, .int .i64 a6, .int .i64 a7], .int .i64 3, .agg #[.int .i64 v0, .int .i64 v1, .int .i64 v2, .int .i64 v3, .int .i64 v4, .bool v5]] w fun e w' => e = .returned (.bool true) ∧ Below w.heap.size w w' := by
  have hbk : Go.bits .and .i64 3 3 = 3 := by decide
  have BB := Aside0.mk (((Below.refl w.heap.size w).alloc (Nat.le_refl _) (.cells #[.int .i64 a0, .int .i64 a1, .int .i64 a2, .int .i64 a3, .int .i64 a4, .int .i64 a5, .int .i64 a6, .int .i64 a7] 29)).alloc (by simp) (.cells #[.int .i64 v0, .int .i64 v1, .int .i64 v2, .int .i64 v3, .int .i64 v4, .bool v5] 24))
  go_enter Try.func4, Try.ntmps4
  go_wp2_with fail
  refine (set_3 _ _ _ _ _ _ _ _ _ _ _).mono ?_
  rintro e w1 ⟨rfl, hb1⟩
  obtain ⟨hc, hf⟩ := bcell hb1
  have hz1 : w.heap.size + 1 < w1.heap.size := by have := hb1.size; simp at this; omega
  have hz0 : w.heap.size < w1.heap.size := by omega
  have n0 := Aside0.mk (below_step BB.out hb1)
  clear BB hb1
  have BB := n0
  clear n0
  go_wp2_with fail
  refine (frame_3_1 _ _ _ _ _ _ _ _ _ _ _ _ _ _ h1 h2 _).mono ?_
  rintro e w2 ⟨rfl, hb2⟩
  obtain ⟨hc2, hf2⟩ := bcell hb2
  have hs2 : w1.heap.size + 2 ≤ w2.heap.size := by have := hb2.size; simp at this; omega
  have hq0 : w.heap.size < w1.heap.size + 1 + 1 := by omega
  have hq1 : w.heap.size < w1.heap.size + 1 := by omega
  have n0 := Aside0.mk (below_step ((BB.out.alloc BB.out.size _).alloc (by have := BB.out.size; simp; omega) _) hb2)
  clear BB hb2
  have BB := n0
  clear n0
  go_wp2_with fail
  refine (awake33_c _).mono ?_
  rintro e w3 ⟨rfl, hb3⟩
  obtain ⟨hc3, hf3⟩ := bcell hb3
  have hp0 : w.heap.size < w2.heap.size := by omega
  have hp1 : w.heap.size + 1 < w2.heap.size := by omega
  have hp2 : w1.heap.size < w2.heap.size := by omega
  have hp3 : w1.heap.size + 1 < w2.heap.size := by omega
  have n0 := Aside0.mk (below_step BB.out hb3)
  clear BB hb3 hs2
  have BB := n0
  clear n0
  go_wp2_with fail
  go_ret
  exact ⟨rfl, BB.out⟩
set_option maxRecDepth 100000 in
set_option maxHeartbeats 2000000 in
theorem raw_3_2 (a0 a1 a2 a3 a4 a5 a6 a7 : Int)  (v0 v1 v2 v3 v4 : Int) (v5 : Bool) (h1 : (v1 == 1) = true) (h2 : (a6 == 2) = true) (w : World) : Calls Try.prog 4 #[.agg #[.int .i64 a0, .int .i64 a1, .int .i64 a2, .int .i64 a3, .int .i64 a4, .int .i64 a5, .int .i64 a6, .int .i64 a7], .int .i64 3, .agg #[.int .i64 v0, .int .i64 v1, .int .i64 v2, .int .i64 v3, .int .i64 v4, .bool v5]] w fun e w' => e = .returned (.bool true) ∧ Below w.heap.size w w' := by
  have hbk : Go.bits .and .i64 3 3 = 3 := by decide
  have BB := Aside0.mk (((Below.refl w.heap.size w).alloc (Nat.le_refl _) (.cells #[.int .i64 a0, .int .i64 a1, .int .i64 a2, .int .i64 a3, .int .i64 a4, .int .i64 a5, .int .i64 a6, .int .i64 a7] 29)).alloc (by simp) (.cells #[.int .i64 v0, .int .i64 v1, .int .i64 v2, .int .i64 v3, .int .i64 v4, .bool v5] 24))
  go_enter Try.func4, Try.ntmps4
  go_wp2_with fail
  refine (set_3 _ _ _ _ _ _ _ _ _ _ _).mono ?_
  rintro e w1 ⟨rfl, hb1⟩
  obtain ⟨hc, hf⟩ := bcell hb1
  have hz1 : w.heap.size + 1 < w1.heap.size := by have := hb1.size; simp at this; omega
  have hz0 : w.heap.size < w1.heap.size := by omega
  have n0 := Aside0.mk (below_step BB.out hb1)
  clear BB hb1
  have BB := n0
  clear n0
  go_wp2_with fail
  refine (frame_3_2 _ _ _ _ _ _ _ _ _ _ _ _ _ _ h1 h2 _).mono ?_
  rintro e w2 ⟨rfl, hb2⟩
  obtain ⟨hc2, hf2⟩ := bcell hb2
  have hs2 : w1.heap.size + 2 ≤ w2.heap.size := by have := hb2.size; simp at this; omega
  have hq0 : w.heap.size < w1.heap.size + 1 + 1 := by omega
  have hq1 : w.heap.size < w1.heap.size + 1 := by omega
  have n0 := Aside0.mk (below_step ((BB.out.alloc BB.out.size _).alloc (by have := BB.out.size; simp; omega) _) hb2)
  clear BB hb2
  have BB := n0
  clear n0
  go_wp2_with fail
  refine (awake33_c _).mono ?_
  rintro e w3 ⟨rfl, hb3⟩
  obtain ⟨hc3, hf3⟩ := bcell hb3
  have hp0 : w.heap.size < w2.heap.size := by omega
  have hp1 : w.heap.size + 1 < w2.heap.size := by omega
  have hp2 : w1.heap.size < w2.heap.size := by omega
  have hp3 : w1.heap.size + 1 < w2.heap.size := by omega
  have n0 := Aside0.mk (below_step BB.out hb3)
  clear BB hb3 hs2
  have BB := n0
  clear n0
  go_wp2_with fail
  go_ret
  exact ⟨rfl, BB.out⟩
set_option maxRecDepth 100000 in
set_option maxHeartbeats 2000000 in
theorem raw_lo (a0 a1 a2 a3 a4 a5 a6 a7 : Int) (n : Int) (h : n < 0) (v0 v1 v2 v3 v4 : Int) (v5 : Bool)  (w : World) : Calls Try.prog 4 #[.agg #[.int .i64 a0, .int .i64 a1, .int .i64 a2, .int .i64 a3, .int .i64 a4, .int .i64 a5, .int .i64 a6, .int .i64 a7], .int .i64 n, .agg #[.int .i64 v0, .int .i64 v1, .int .i64 v2, .int .i64 v3, .int .i64 v4, .bool v5]] w fun e w' => e = .returned (.bool true) ∧ Below w.heap.size w w' := by
  have BB := Aside0.mk (((Below.refl w.heap.size w).alloc (Nat.le_refl _) (.cells #[.int .i64 a0, .int .i64 a1, .int .i64 a2, .int .i64 a3, .int .i64 a4, .int .i64 a5, .int .i64 a6, .int .i64 a7] 29)).alloc (by simp) (.cells #[.int .i64 v0, .int .i64 v1, .int .i64 v2, .int .i64 v3, .int .i64 v4, .bool v5] 24))
  go_enter Try.func4, Try.ntmps4
  go_wp2_with fail
  refine (set_lo _ _ _ _ _ _ _ _ _ _ _ h _).mono ?_
  rintro e w1 ⟨rfl, hb1⟩
  obtain ⟨hc, hf⟩ := bcell hb1
  have hz1 : w.heap.size + 1 < w1.heap.size := by have := hb1.size; simp at this; omega
  have hz0 : w.heap.size < w1.heap.size := by omega
  have n0 := Aside0.mk (below_step BB.out hb1)
  clear BB hb1
  have BB := n0
  clear n0
  go_wp2_with fail
  refine (frame_lo _ _ _ _ _ _ _ _ _ _ _ _ _ _ _ h _).mono ?_
  rintro e w2 ⟨rfl, hb2⟩
  obtain ⟨hc2, hf2⟩ := bcell hb2
  have hs2 : w1.heap.size + 2 ≤ w2.heap.size := by have := hb2.size; simp at this; omega
  have hq0 : w.heap.size < w1.heap.size + 1 + 1 := by omega
  have hq1 : w.heap.size < w1.heap.size + 1 := by omega
  have n0 := Aside0.mk (below_step ((BB.out.alloc BB.out.size _).alloc (by have := BB.out.size; simp; omega) _) hb2)
  clear BB hb2
  have BB := n0
  clear n0
  go_wp2_with fail
  refine (awake33_c _).mono ?_
  rintro e w3 ⟨rfl, hb3⟩
  obtain ⟨hc3, hf3⟩ := bcell hb3
  have hp0 : w.heap.size < w2.heap.size := by omega
  have hp1 : w.heap.size + 1 < w2.heap.size := by omega
  have hp2 : w1.heap.size < w2.heap.size := by omega
  have hp3 : w1.heap.size + 1 < w2.heap.size := by omega
  have B3 := Aside0.mk hb3.size
  have n0 := Aside0.mk (below_step BB.out hb3)
  clear BB hb3 hs2
  have BB := n0
  clear n0
  go_wp2_with fail
  refine (has_lo _ _ _ _ _ _ _ _ _ _ _ _ _ _ _ h _).mono ?_
  rintro e w4 ⟨rfl, hb4⟩
  obtain ⟨hc4, hf4⟩ := bcell hb4
  have hr0 : w.heap.size < w3.heap.size := Nat.lt_of_lt_of_le hp0 B3.out
  have hr1 : w.heap.size + 1 < w3.heap.size := Nat.lt_of_lt_of_le hp1 B3.out
  have n0 := Aside0.mk (below_step BB.out hb4)
  clear BB hb4
  have BB := n0
  clear n0
  go_wp2_with fail
  go_ret
  exact ⟨rfl, BB.out⟩
set_option maxRecDepth 100000 in
set_option maxHeartbeats 2000000 in
theorem raw_hi (a0 a1 a2 a3 a4 a5 a6 a7 : Int) (n : Int) (h : 3 < n) (v0 v1 v2 v3 v4 : Int) (v5 : Bool)  (w : World) : Calls Try.prog 4 #[.agg #[.int .i64 a0, .int .i64 a1, .int .i64 a2, .int .i64 a3, .int .i64 a4, .int .i64 a5, .int .i64 a6, .int .i64 a7], .int .i64 n, .agg #[.int .i64 v0, .int .i64 v1, .int .i64 v2, .int .i64 v3, .int .i64 v4, .bool v5]] w fun e w' => e = .returned (.bool true) ∧ Below w.heap.size w w' := by
  have BB := Aside0.mk (((Below.refl w.heap.size w).alloc (Nat.le_refl _) (.cells #[.int .i64 a0, .int .i64 a1, .int .i64 a2, .int .i64 a3, .int .i64 a4, .int .i64 a5, .int .i64 a6, .int .i64 a7] 29)).alloc (by simp) (.cells #[.int .i64 v0, .int .i64 v1, .int .i64 v2, .int .i64 v3, .int .i64 v4, .bool v5] 24))
  go_enter Try.func4, Try.ntmps4
  go_wp2_with fail
  refine (set_hi _ _ _ _ _ _ _ _ _ _ _ h _).mono ?_
  rintro e w1 ⟨rfl, hb1⟩
  obtain ⟨hc, hf⟩ := bcell hb1
  have hz1 : w.heap.size + 1 < w1.heap.size := by have := hb1.size; simp at this; omega
  have hz0 : w.heap.size < w1.heap.size := by omega
  have n0 := Aside0.mk (below_step BB.out hb1)
  clear BB hb1
  have BB := n0
  clear n0
  go_wp2_with fail
  refine (frame_hi _ _ _ _ _ _ _ _ _ _ _ _ _ _ _ h _).mono ?_
  rintro e w2 ⟨rfl, hb2⟩
  obtain ⟨hc2, hf2⟩ := bcell hb2
  have hs2 : w1.heap.size + 2 ≤ w2.heap.size := by have := hb2.size; simp at this; omega
  have hq0 : w.heap.size < w1.heap.size + 1 + 1 := by omega
  have hq1 : w.heap.size < w1.heap.size + 1 := by omega
  have n0 := Aside0.mk (below_step ((BB.out.alloc BB.out.size _).alloc (by have := BB.out.size; simp; omega) _) hb2)
  clear BB hb2
  have BB := n0
  clear n0
  go_wp2_with fail
  refine (awake33_c _).mono ?_
  rintro e w3 ⟨rfl, hb3⟩
  obtain ⟨hc3, hf3⟩ := bcell hb3
  have hp0 : w.heap.size < w2.heap.size := by omega
  have hp1 : w.heap.size + 1 < w2.heap.size := by omega
  have hp2 : w1.heap.size < w2.heap.size := by omega
  have hp3 : w1.heap.size + 1 < w2.heap.size := by omega
  have B3 := Aside0.mk hb3.size
  have n0 := Aside0.mk (below_step BB.out hb3)
  clear BB hb3 hs2
  have BB := n0
  clear n0
  go_wp2_with fail
  refine (has_hi _ _ _ _ _ _ _ _ _ _ _ _ _ _ _ h _).mono ?_
  rintro e w4 ⟨rfl, hb4⟩
  obtain ⟨hc4, hf4⟩ := bcell hb4
  have hr0 : w.heap.size < w3.heap.size := Nat.lt_of_lt_of_le hp0 B3.out
  have hr1 : w.heap.size + 1 < w3.heap.size := Nat.lt_of_lt_of_le hp1 B3.out
  have n0 := Aside0.mk (below_step BB.out hb4)
  clear BB hb4
  have BB := n0
  clear n0
  go_wp2_with fail
  go_ret
  exact ⟨rfl, BB.out⟩
end Go.Proofs.Ytdalgfoifdjffaa.My
