/- The walks of the laws ShiftTurns and ShiftOne: each returns true at every input. -/
import Derived.Test.YtefdfcdgghoknaaShiftD
namespace Go.Proofs.Ytefdfcdgghoknaa.My
open Go.RowKit Go.Proofs.YtefdfcdgghoknaaW.PrintWords Go.Proofs.YtefdfcdgghoknaaW.PrintLast Go.Proofs.YtefdfcdgghoknaaW.PrintMore
set_option linter.unusedVariables false
set_option linter.unusedSimpArgs false
theorem do_z (name : Int) (v was : Nat) (wide : Bool) (h0 : 63 ≤ name) (h1 : name ≤ 69) (hv : v < 65536) (hw : was < 65536) (w : World) : Calls Try.prog 30 #[.int .i64 name, .int .u16 v, .int .u8 0, .int .u16 was, .bool wide] w fun e w' => e = .returned (.tuple #[.int .u16 (cutN v wide : Nat), .int .u16 (was &&& 2261 : Nat), .bool true]) ∧ Drawn0 w w' := by
  have E1 : Go.bits .and .u16 (was : Int) 2261 = ((was &&& 2261 : Nat) : Int) := u16_and_nat was 2261 hw (by decide)
  go_enter Try.func30, Try.ntmps30
  go_wp2_with (first
    | (go_at_call 29; refine (cut_c v wide hv _).mono ?_; rintro e w' ⟨rfl, rfl⟩))
  go_ret3
  exact ⟨rfl, Drawn0.refl w⟩
theorem do_n (v n was : Int) (wide : Bool) (w : World) : Calls Try.prog 30 #[.int .i64 35, .int .u16 v, .int .u8 n, .int .u16 was, .bool wide] w fun e w' => e = .returned (.tuple #[.int .u16 0, .int .u16 0, .bool false]) ∧ Drawn0 w w' := by
  go_enter Try.func30, Try.ntmps30
  go_wp2
  go_ret3
  exact ⟨rfl, Drawn0.refl w⟩
theorem do_a (name : Int) (v n was : Nat) (wide : Bool) (h0 : 63 ≤ name) (h1 : name ≤ 69) (hv : v < 65536) (hn : n < 256) (hw : was < 65536) (w : World) : Calls Try.prog 30 #[.int .i64 name, .int .u16 v, .int .u8 n, .int .u16 was, .bool wide] w fun e w' => e = .returned (.tuple #[.int .u16 (shN name v n was wide).1, .int .u16 (shN name v n was wide).2, .bool true]) ∧ Drawn0 w w' := by
  by_cases hz : n = 0
  · subst hz
    exact do_z name v was wide h0 h1 hv hw w
  · exact do_s name v n was wide h0 h1 hv hn hz hw w
theorem do_i (name vi ni wi : Int) (v n was : Nat) (wide : Bool) (e1 : vi = v) (e2 : ni = n) (e3 : wi = was) (h0 : 63 ≤ name) (h1 : name ≤ 69) (hv : v < 65536) (hn : n < 256) (hw : was < 65536) (w : World) : Calls Try.prog 30 #[.int .i64 name, .int .u16 vi, .int .u8 ni, .int .u16 wi, .bool wide] w fun e w' => e = .returned (.tuple #[.int .u16 (shN name v n was wide).1, .int .u16 (shN name v n was wide).2, .bool true]) ∧ Drawn0 w w' := by
  subst e1 e2 e3
  exact do_a name v n was wide h0 h1 hv hn hw w
theorem awake09_c (w : World) : Calls Try.prog 32 #[] w fun e w' => e = .returned (.bool true) ∧ Drawn0 w w' := by
  have h := Aside0.mk (do_i 67 128 1 0 128 1 0 false rfl rfl rfl (by decide) (by decide) (by decide) (by decide) (by decide))
  rw [show shN 67 128 1 0 false = (0, 2117) by decide +kernel] at h
  go_enter Try.func32, Try.ntmps32
  go_wp2_with (first
    | (go_at_call 30; refine (h.out _).mono ?_; rintro e w' ⟨rfl, ⟨nd, rfl⟩⟩))
  go_ret
  exact ⟨rfl, Drawn0.step (Drawn0.refl w) nd⟩
/-! ### ShiftTurns -/
theorem shN_1 (name : Int) (v n was : Nat) (wide : Bool) : (shN name v n was wide).1 = (shI name wide (cutN v wide) (decide (was % 2 = 1)) n).1 := by
  unfold shN
  by_cases h : n = 0
  · subst h; rfl
  · rw [if_neg h]
theorem turn_back (v n : Nat) (wide : Bool) : (shN 64 (shN 63 v n 0 wide).1 n 0 wide).1 = cutN v wide := by
  rw [shN_1, shN_1]
  have hl := shI_lt 63 wide (cutN v wide) (decide (0 % 2 = 1)) (cutN_M v wide) n
  rw [cut_small _ wide hl]
  exact back wide _ (cutN_M v wide) n _ _
theorem turn_round (v : Nat) (wide : Bool) : (shN 63 v (szN wide) 0 wide).1 = cutN v wide := by rw [shN_1]; exact rol_round wide _ _ (cutN_M v wide)
theorem turn_more (v : Nat) (wide : Bool) : (shN 65 v (szN wide + 1) 1 wide).1 = cutN v wide := by rw [shN_1, rcl_round wide _ _ (cutN_M v wide)]
theorem shF_odd (wide : Bool) (v a was : Nat) (c : Bool) (hc : c = true) : shF 65 wide v a was c % 2 = 1 := by
  subst hc
  unfold shF
  rw [if_pos (by decide)]
  have h1 : ∀ x : Nat, ((x &&& 63486) ||| b2n true) % 2 = 1 := fun x => by
    rw [← nat_mask1, Nat.and_or_distrib_right, Nat.and_assoc]
    rw [show 63486 &&& 1 = 0 by decide, Nat.and_zero]; decide
  have h := h1 (was &&& 2261)
  generalize ((was &&& 2261) &&& 63486 ||| b2n true) = y at *
  split
  · rw [Nat.or_zero]; exact h
  · rw [← nat_mask1, Nat.and_or_distrib_right, nat_mask1, h]; decide
theorem turn_flag (v : Nat) (wide : Bool) : (shN 65 v (szN wide + 1) 1 wide).2 % 2 = 1 := by
  unfold shN
  rw [if_neg (by omega), rcl_round wide _ _ (cutN_M v wide)]
  exact shF_odd _ _ _ _ _ rfl
theorem shN_lt (name : Int) (v n was : Nat) (wide : Bool) : (shN name v n was wide).1 < 65536 ∧ (shN name v n was wide).2 < 65536 := by
  refine ⟨?_, ?_⟩
  · rw [shN_1]; exact Nat.lt_of_lt_of_le (shI_lt name wide _ _ (cutN_M v wide) n) (MM_le wide)
  · unfold shN
    split
    · exact Nat.lt_of_le_of_lt Nat.and_le_right (by decide)
    · simp only [shF]
      refine Nat.or_lt_two_pow (n := 16) (Nat.or_lt_two_pow (n := 16) (Nat.lt_of_le_of_lt Nat.and_le_right (by decide)) ?_) ?_
      · have := b2n_le (shI name wide (cutN v wide) (decide (was % 2 = 1)) n).2; omega
      · split <;> decide
set_option maxRecDepth 100000 in
set_option maxHeartbeats 4000000 in
theorem shiftTurns_w (v n : Int) (wide : Bool) (w : World) (wv : (Lit.int .u16 v).wf = true) (wn : (Lit.int .u8 n).wf = true) :
    Calls Try.prog 11 #[.int .u16 v, .int .u8 n, .bool wide] w fun e w' => e = .returned (.bool true) ∧ Below w.heap.size w w' := by
  obtain ⟨v0, v1⟩ := wf_u16 wv
  obtain ⟨n0, n1⟩ := wf_u8 wn
  clear wv wn
  obtain ⟨v, rfl⟩ := Int.eq_ofNat_of_zero_le v0
  obtain ⟨n, rfl⟩ := Int.eq_ofNat_of_zero_le n0
  clear v0 n0
  have lv : v < 65536 := by omega
  have ln : n < 256 := by omega
  have H1 := do_i 63 v n 0 v n 0 wide rfl rfl rfl (by decide) (by decide) lv ln (by decide)
  have H2 := do_i 64 (shN 63 v n 0 wide).1 n 0 (shN 63 v n 0 wide).1 n 0 wide rfl rfl rfl (by decide) (by decide) (shN_lt _ _ _ _ _).1 ln (by decide)
  have H3 := do_i 63 v (if wide then 16 else 8) 0 v (szN wide) 0 wide rfl (by cases wide <;> rfl) rfl (by decide) (by decide) lv (by have := sz_b wide; omega) (by decide)
  have H4 := do_i 65 v (if wide then 17 else 9) 1 v (szN wide + 1) 1 wide rfl (by cases wide <;> rfl) rfl (by decide) (by decide) lv (by have := sz_b wide; omega) (by decide)
  have H5 := Aside0.mk (do_n v n 0 wide)
  rw [turn_back] at H2
  rw [turn_round] at H3
  rw [turn_more] at H4
  have b4 := bit0 (shN 65 v (szN wide + 1) 1 wide).2 (shN_lt _ _ _ _ _).2
  have b5 := u16_and_nat (shN 65 v (szN wide + 1) 1 wide).2 1 (shN_lt _ _ _ _ _).2 (by decide)
  rw [nat_mask1, turn_flag] at b5
  have RC := Aside0.mk (rcut_c v wide lv)
  generalize (shN 65 v (szN wide + 1) 1 wide).2 = F4 at *
  generalize (shN 64 (shN 63 v n 0 wide).1 n 0 wide).2 = F2 at *
  generalize (shN 63 v (szN wide) 0 wide).2 = F3 at *
  generalize (shN 63 v n 0 wide).1 = A1 at *
  generalize (shN 63 v n 0 wide).2 = F1 at *
  generalize cutN v wide = X at *
  have b5' : Go.bits .and .u16 (F4 : Int) 1 = 1 := b5
  clear b4 b5
  have G1 := Aside0.mk H1
  have G2 := Aside0.mk H2
  have G3 := Aside0.mk H3
  have G4 := Aside0.mk H4
  clear H1 H2 H3 H4
  cases wide
  all_goals
    simp only [Bool.false_eq_true, if_false, if_true] at G3 G4
    go_enter Try.func11, Try.ntmps11
    go_wp2_with (first
      | (go_at_call 32; refine (awake09_c _).mono ?_; rintro e w' ⟨rfl, ⟨nd, rfl⟩⟩)
      | (go_at_call 15; (with_reducible refine (RC.out _).mono ?_); rintro e w' ⟨rfl, ⟨nd, rfl⟩⟩)
      | (go_at_call 30; (first | (with_reducible refine (G1.out _).mono ?_) | (with_reducible refine (G2.out _).mono ?_) | (with_reducible refine (G3.out _).mono ?_) | (with_reducible refine (G4.out _).mono ?_) | (with_reducible refine (H5.out _).mono ?_)); rintro e w' ⟨rfl, ⟨nd, rfl⟩⟩))
    go_ret
    exact ⟨rfl, by repeat (first | exact Below.refl _ _ | apply below_drew1 | apply pw_below_drewN)⟩
/-! ### ShiftOne -/
theorem signs_bits (x : Nat) (wide : Bool) (h : x < MM wide) : ∃ z p : Bool, signsN x wide = (if x / HH wide = 1 then 128 else 0) + (if z then 64 else 0) + (if p then 4 else 0) :=
  ⟨decide (x = 0), decide (onesN (x % 256) 8 % 2 = 0), by unfold signsN; rw [cut_small x wide h]; simp only [decide_eq_true_eq]⟩
theorem shl_flags (X : Nat) (wide : Bool) (h : X < MM wide) : shF 67 wide (2 * X % MM wide) X 0 (decide (X / HH wide = 1)) = addF X X 0 wide &&& 65519 := by
  have hm := MM_HH wide
  have hsz := sz_b wide
  have hp : 0 < HH wide := by unfold HH; cases wide <;> decide
  have hM : 0 < MM wide := by omega
  have ht := (top_01 X wide h).1
  have hS : 2 * X % MM wide < MM wide := Nat.mod_lt _ hM
  have ht2 := (top_01 _ wide hS).1
  have e1 : carryN X X 0 (szN wide) = X / HH wide := by
    rw [carry_sz X X 0 wide h h]
    have := dbl X 0 wide h (by omega)
    rcases this with ⟨a, b, c⟩ | ⟨a, b, c⟩
    · rw [b]; exact Nat.div_eq_of_lt (by omega)
    · rw [b]; exact Nat.div_eq_of_lt_le (by omega) (by omega)
  have e2 : carryN X X 0 (szN wide - 1) = 2 * X % MM wide / HH wide := by
    unfold carryN
    rw [← HH_pow, hm]
    have h1 : 2 * X % (2 * HH wide) = 2 * (X % HH wide) := Nat.mul_mod_mul_left 2 X (HH wide)
    rw [h1]
    congr 1; omega
  have e3 : cutN (X + X + 0) wide = 2 * X % MM wide := by unfold cutN; rw [show X + X + 0 = 2 * X by omega]
  unfold addF shF
  rw [e1, e2, e3, if_neg (show ¬ (67 : Int) ≤ 66 by decide)]
  obtain ⟨z, p, hs⟩ := signs_bits _ wide hS
  rw [hs]
  generalize 2 * X % MM wide / HH wide = q at *
  generalize X / HH wide = r at *
  have hA : carryN X X 0 4 = 0 ∨ carryN X X 0 4 = 1 := by have := carryN_le X X 0 4 (by omega); omega
  generalize carryN X X 0 4 = a at *
  rcases (show r = 0 ∨ r = 1 by omega) with rfl | rfl <;> rcases (show q = 0 ∨ q = 1 by omega) with rfl | rfl <;> rcases hA with rfl | rfl <;> cases z <;> cases p <;> decide
set_option maxRecDepth 100000 in
set_option maxHeartbeats 4000000 in
theorem shiftOne_w (v : Int) (wide : Bool) (w : World) (wv : (Lit.int .u16 v).wf = true) :
    Calls Try.prog 12 #[.int .u16 v, .bool wide] w fun e w' => e = .returned (.bool true) ∧ Below w.heap.size w w' := by
  obtain ⟨v0, v1⟩ := wf_u16 wv
  clear wv
  obtain ⟨v, rfl⟩ := Int.eq_ofNat_of_zero_le v0
  clear v0
  have lv : v < 65536 := by omega
  have hX := cutN_M v wide
  have hl := MM_le wide
  have G1 := do_i 67 v 1 0 v 1 0 wide rfl rfl rfl (by decide) (by decide) lv (by decide) (by decide)
  have G2 := do_i 68 v 1 0 v 1 0 wide rfl rfl rfl (by decide) (by decide) lv (by decide) (by decide)
  have e1 : (shN 67 v 1 0 wide).1 = 2 * cutN v wide % MM wide := rfl
  have e2 : (shN 67 v 1 0 wide).2 = addF (cutN v wide) (cutN v wide) 0 wide &&& 65519 := by rw [← shl_flags _ _ hX]; rfl
  have e3 : (shN 68 v 1 0 wide).1 = cutN v wide / 2 := rfl
  rw [e1, e2] at G1
  rw [e3] at G2
  have RC := Aside0.mk (rcut_c v wide lv)
  have RA := Aside0.mk (radd_c (cutN v wide) (cutN v wide) 0 wide (by omega) (by omega) (by omega))
  have hF := addF_le (cutN v wide) (cutN v wide) 0 wide
  have e4 : cutN (cutN v wide + cutN v wide + 0) wide = 2 * cutN v wide % MM wide := by unfold cutN; congr 1; omega
  rw [e4] at RA
  generalize (shN 68 v 1 0 wide).2 = F2 at *
  generalize cutN v wide = X at *
  generalize addF X X 0 wide = F at *
  have eN : Go.bits .andNot .u16 (F : Int) 16 = ((F &&& 65519 : Nat) : Int) := u16_andNot_nat F 16 hF (by decide)
  have eD : ((X / 2 : Nat) : Int) = (X : Int) / 2 := by omega
  rw [eD] at G2
  generalize F &&& 65519 = F1 at *
  generalize 2 * X % MM wide = S at *
  have K1 := Aside0.mk G1
  have K2 := Aside0.mk G2
  have RA0 : Aside0 (∀ w, Calls Try.prog 22 #[.int .u16 X, .int .u16 X, .int .i64 0, .bool wide] w fun e w' => e = .returned (.tuple #[.int .u16 (S : Nat), .int .u16 (F : Nat)]) ∧ Below w.heap.size w w') := RA
  clear G1 G2 e1 e2 e3 e4 eD RA
  go_enter Try.func12, Try.ntmps12
  go_wp2_with (first
    | (go_at_call 32; refine (awake09_c _).mono ?_; rintro e w' ⟨rfl, ⟨nd, rfl⟩⟩)
    | (go_at_call 15; (with_reducible refine (RC.out _).mono ?_); rintro e w' ⟨rfl, ⟨nd, rfl⟩⟩)
    | (go_at_call 22; (with_reducible refine (RA0.out _).mono ?_); rintro e w2 ⟨rfl, hb⟩; have HB := Aside0.mk (below_step (pw_below_drewN (Below.refl w.heap.size w) _) hb); clear hb)
    | (go_at_call 30; (first | (with_reducible refine (K1.out _).mono ?_) | (with_reducible refine (K2.out _).mono ?_)); rintro e w' ⟨rfl, ⟨nd, rfl⟩⟩))
  go_ret
  exact ⟨rfl, by repeat (first | exact HB.out | apply below_drew1 | apply pw_below_drewN)⟩
end Go.Proofs.Ytefdfcdgghoknaa.My
