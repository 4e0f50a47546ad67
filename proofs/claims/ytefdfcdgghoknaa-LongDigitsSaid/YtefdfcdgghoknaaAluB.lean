/- The walk of the law AluBack: it returns true at every input. -/
import Derived.Test.YtefdfcdgghoknaaAluL
namespace Go.Proofs.Ytefdfcdgghoknaa.My
open Go.RowKit Go.Proofs.YtefdfcdgghoknaaW.PrintWords Go.Proofs.YtefdfcdgghoknaaW.PrintLast Go.Proofs.YtefdfcdgghoknaaW.PrintMore Go.Proofs.Ytefdfcdgghoknaa.PDo
set_option linter.unusedVariables false
set_option linter.unusedSimpArgs false
theorem cut_cut (v : Nat) (wide : Bool) : cutN (cutN v wide) wide = cutN v wide := cut_small _ wide (cutN_M v wide)
theorem addF_le (a b c : Nat) (wide : Bool) : addF a b c wide < 65536 := by
  unfold addF; have := signsN_le (cutN (a + b + c) wide) wide; split <;> split <;> split <;> omega
theorem subF_le (a b c : Nat) (wide : Bool) : subF a b c wide < 65536 := by
  unfold subF; have := signsN_le (cutN (subS a b c) wide) wide; split <;> split <;> split <;> omega
theorem signs_even (v : Nat) (wide : Bool) : signsN v wide % 2 = 0 := by unfold signsN; split <;> split <;> split <;> omega
theorem addF_1 (a b c : Nat) (wide : Bool) : addF a b c wide % 2 = 1 ↔ carryN a b c (szN wide) = 1 := by
  unfold addF; have := signs_even (cutN (a + b + c) wide) wide; split <;> split <;> split <;> omega
theorem subF_1 (a b c : Nat) (wide : Bool) : subF a b c wide % 2 = 1 ↔ borN a b c (szN wide) = 1 := by
  unfold subF; have := signs_even (cutN (subS a b c) wide) wide; split <;> split <;> split <;> omega
theorem bit0 (n : Nat) (h : n < 65536) : (Go.bits .and .u16 n 1 != 0) = decide (n % 2 = 1) := by
  have := u16_and_nat n 1 h (by omega)
  rw [show ((1 : Nat) : Int) = 1 from rfl] at this
  rw [this, nat_mask1, Bool.eq_iff_iff, bne_iff_ne, decide_eq_true_eq]
  omega
theorem carry_sz (a b c : Nat) (wide : Bool) (ha : a < MM wide) (hb : b < MM wide) : carryN a b c (szN wide) = (a + b + c) / MM wide := by
  unfold carryN; rw [← MM_pow, Nat.mod_eq_of_lt ha, Nat.mod_eq_of_lt hb]
theorem bor_sz (a b c : Nat) (wide : Bool) (ha : a < MM wide) (hb : b < MM wide) (hc : c ≤ 1) : borN a b c (szN wide) = 1 ↔ a < b + c := by
  unfold borN carryN cmpl; rw [← MM_pow]
  unfold MM at *
  cases wide <;> simp at * <;> omega
theorem sub_cut (a b c : Nat) (wide : Bool) (ha : a < MM wide) (hb : b < MM wide) (hc : c ≤ 1) : cutN (subS a b c) wide = if a < b + c then a + MM wide - b - c else a - b - c := by
  unfold cutN subS cmpl
  unfold MM at *
  cases wide <;> simp at * <;> split <;> omega
theorem add_cut (a b : Nat) (wide : Bool) (ha : a < MM wide) (hb : b < MM wide) : cutN (a + b + 0) wide = if a + b < MM wide then a + b else a + b - MM wide := by
  unfold cutN
  unfold MM at *
  cases wide <;> simp at * <;> split <;> omega
theorem sub_same (a : Nat) (wide : Bool) (ha : a < MM wide) : subF a a 0 wide = 68 := by
  have hle := MM_le wide
  have hsz := sz_b wide
  have h : ∀ i, i ≤ 16 → borN a a 0 i = 0 := by
    intro i q
    unfold borN carryN
    have hp := Nat.two_pow_pos i
    have h1 : (a + cmpl a + 1) % 2 ^ i = 0 := by
      have : a + cmpl a + 1 = 2 ^ 16 := by unfold cmpl; omega
      rw [this]
      exact Nat.mod_eq_zero_of_dvd (Nat.pow_dvd_pow 2 q)
    have e3 : (a % 2 ^ i + cmpl a % 2 ^ i + 1) % 2 ^ i = 0 := by
      rw [← h1]; simp [Nat.add_mod]
    have hd := Nat.le_of_dvd (by omega) (Nat.dvd_of_mod_eq_zero e3)
    have : 1 ≤ (a % 2 ^ i + cmpl a % 2 ^ i + (1 - 0)) / 2 ^ i := (Nat.le_div_iff_mul_le hp).2 (by omega)
    omega
  unfold subF
  rw [h 4 (by omega), h (szN wide) (by omega), h (szN wide - 1) (by omega)]
  have hz : cutN (subS a a 0) wide = 0 := by rw [sub_cut a a 0 wide ha ha (by omega)]; simp
  rw [hz]
  cases wide <;> decide

set_option maxRecDepth 100000 in
set_option maxHeartbeats 4000000 in
theorem aluBack_w (a b : Int) (wide : Bool) (w : World) (wa : (Lit.int .u16 a).wf = true) (wb : (Lit.int .u16 b).wf = true) :
    Calls Try.prog 9 #[.int .u16 a, .int .u16 b, .bool wide] w fun e w' => e = .returned (.bool true) ∧ Below w.heap.size w w' := by
  obtain ⟨a0, a1⟩ := wf_u16 wa
  obtain ⟨b0, b1⟩ := wf_u16 wb
  clear wa wb
  obtain ⟨a, rfl⟩ := Int.eq_ofNat_of_zero_le a0
  obtain ⟨b, rfl⟩ := Int.eq_ofNat_of_zero_le b0
  clear a0 b0
  have hle := MM_le wide
  have hA := cutN_M a wide
  have hB := cutN_M b wide
  obtain ⟨A, hAe⟩ : ∃ A, cutN a wide = A := ⟨_, rfl⟩
  obtain ⟨B, hBe⟩ : ∃ B, cutN b wide = B := ⟨_, rfl⟩
  rw [hAe] at hA
  rw [hBe] at hB
  obtain ⟨S, hS⟩ : ∃ S, cutN (A + B + 0) wide = S := ⟨_, rfl⟩
  have hSM : S < MM wide := by rw [← hS]; exact cutN_M _ _
  have hS2 := hS
  rw [add_cut A B wide hA hB] at hS2
  have hSB := sub_cut S B 0 wide hSM hB (by omega)
  have hAA := sub_cut A A 0 wide hA hA (by omega)
  obtain ⟨N1, hN1⟩ : ∃ N1, cutN (subS 0 A 0) wide = N1 := ⟨_, rfl⟩
  have hN1M : N1 < MM wide := by rw [← hN1]; exact cutN_M _ _
  have h0M : 0 < MM wide := by omega
  have hNN := sub_cut 0 N1 0 wide h0M hN1M (by omega)
  have hN1' := sub_cut 0 A 0 wide h0M hA (by omega)
  rw [hN1] at hN1'
  obtain ⟨X, hX⟩ : ∃ X, S ^^^ B = X := ⟨_, rfl⟩
  have hXM : X < MM wide := by rw [← hX]; exact xor_lt_MM S B wide hSM hB
  have hXB : X ^^^ B = S := by rw [← hX, Nat.xor_assoc, Nat.xor_self, Nat.xor_zero]
  obtain ⟨F, hF⟩ : ∃ F, addF A B 0 wide = F := ⟨_, rfl⟩
  obtain ⟨G, hG⟩ : ∃ G, subF S B 0 wide = G := ⟨_, rfl⟩
  have hFl : F < 65536 := by rw [← hF]; exact addF_le _ _ _ _
  have hGl : G < 65536 := by rw [← hG]; exact subF_le _ _ _ _
  have hFG : (F % 2 = 1 ↔ G % 2 = 1) := by
    rw [← hF, ← hG, addF_1, subF_1, carry_sz A B 0 wide hA hB, bor_sz S B 0 wide hSM hB (by omega)]
    have : (A + B + 0) / MM wide = 1 ↔ MM wide ≤ A + B := by
      constructor
      · intro h
        have := Nat.div_mul_le_self (A + B + 0) (MM wide)
        rw [h] at this; omega
      · intro h
        exact Nat.div_eq_of_lt_le (by omega) (by omega)
    rw [this]
    split at hS2 <;> omega
  have e1 : doN 1 a b false wide = (S, F, true) := by unfold doN; simp only [hAe, hBe, hS, hF, if_true]
  have e2 : doN 6 S b false wide = (A, G, true) := by
    unfold doN; simp only [cut_small S wide hSM, hBe, hG]; simp
    rw [hSB]; split <;> split at hS2 <;> omega
  have e3 : doN 6 a a true wide = (0, 68, true) := by
    unfold doN; simp only [hAe, hAA, sub_same A wide hA]; simp
  have e4 : (oneV 85 a 0 wide).1 = (N1 : Int) := by simp [oneV, hAe, hN1]
  have e5 : (oneV 85 N1 0 wide).1 = (A : Int) := by
    simp only [oneV, cut_small N1 wide hN1M]; simp
    rw [hNN]; split <;> split at hN1' <;> omega
  have e6 : (doN 7 S b false wide).1 = X := by unfold doN; simp [cut_small S wide hSM, hBe, hX]
  have e7 : (doN 7 X b false wide).1 = S := by unfold doN; simp [cut_small X wide hXM, hBe, hXB]
  have e8 : (Go.bits .and .u16 F 1 != 0) = decide (G % 2 = 1) := by rw [bit0 F hFl]; simp only [hFG]
  have e9 := bit0 G hGl
  clear hS hS2 hSB hAA hN1 hNN hN1' hX hXB hF hG hFG hBe
  go_enter Try.func9, Try.ntmps9
  go_wp2_with fail
  refine (do_c 1 a b false wide (by omega) (by omega) _).mono ?_
  rintro e w' ⟨rfl, rfl⟩
  go_wp2_with fail
  refine (do_c 6 S b false wide (by omega) (by omega) _).mono ?_
  rintro e w' ⟨rfl, rfl⟩
  go_wp2_with fail
  refine (do_c 6 a a true wide (by omega) (by omega) _).mono ?_
  rintro e w' ⟨rfl, rfl⟩
  go_wp2_with fail
  refine (one_c 85 a 0 wide (by omega) (by omega) _).mono ?_
  rintro e w' ⟨rfl, rfl⟩
  go_wp2_with fail
  refine (one_c 85 N1 0 wide (by omega) (by omega) _).mono ?_
  rintro e w' ⟨rfl, rfl⟩
  go_wp2_with fail
  refine (do_c 7 S b false wide (by omega) (by omega) _).mono ?_
  rintro e w' ⟨rfl, rfl⟩
  go_wp2_with fail
  refine (do_c 7 X b false wide (by omega) (by omega) _).mono ?_
  rintro e w' ⟨rfl, rfl⟩
  go_wp2_with (first
    | (go_at_call 26; refine (awake08_c _).mono ?_; rintro e w' ⟨rfl, rfl⟩)
    | (go_at_call 29; refine (cut_c _ _ (by omega) _).mono ?_; rintro e w' ⟨rfl, rfl⟩))
  go_ret
  exact ⟨rfl, Below.refl _ _⟩
end Go.Proofs.Ytefdfcdgghoknaa.My
