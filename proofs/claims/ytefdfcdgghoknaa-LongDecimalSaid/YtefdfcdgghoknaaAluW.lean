/- Contracts of the walks of layer 8 (alu): each function answers as the plain arithmetic of the bits does; nothing is written. -/
import Derived.Test.YtefdfcdgghoknaaBitsW
import Derived.Test.YtefdfcdgghoknaaR08
namespace Go.Proofs.Ytefdfcdgghoknaa.My
open Go.RowKit Go.Proofs.YtefdfcdgghoknaaW.PrintWords Go.Proofs.YtefdfcdgghoknaaW.PrintLast Go.Proofs.YtefdfcdgghoknaaW.PrintMore
set_option linter.unusedVariables false
set_option linter.unusedSimpArgs false

theorem onesM_nat (k : Nat) : ∀ n : Nat, onesM (n : Int) k = (onesN n k : Int) := by
  induction k with
  | zero => intro n; rfl
  | succ k ih =>
    intro n
    simp only [onesM, onesN]
    rw [show (n : Int) / 2 = ((n / 2 : Nat) : Int) by omega, ih]
    omega
theorem evenM_nat (n : Nat) : evenM (n : Int) = decide (onesN n 8 % 2 = 0) := by
  unfold evenM; rw [onesM_nat, Bool.eq_iff_iff]; simp; omega
theorem cut_c (v : Nat) (wide : Bool) (hv : v < 65536) (w : World) : Calls Try.prog 29 #[.int .u16 v, .bool wide] w fun e w' => e = .returned (.int .u16 (cutN v wide : Nat)) ∧ w = w' := by
  cases wide
  · go_enter Try.func29, Try.ntmps29
    go_wp2
    go_ret
    refine ⟨ri ?_, rfl⟩
    rw [u16_and _ _ (by omega) (by omega) (by omega) (by omega), show (255 : Int).toNat = 2 ^ 8 - 1 from rfl, Nat.and_two_pow_sub_one_eq_mod]
    rfl
  · go_enter Try.func29, Try.ntmps29
    go_wp2
    go_ret
    refine ⟨ri ?_, rfl⟩
    unfold cutN MM
    rw [if_pos rfl, Nat.mod_eq_of_lt hv]
theorem top_c (wide : Bool) (w : World) : Calls Try.prog 45 #[.bool wide] w fun e w' => e = .returned (.int .u16 (HH wide : Nat)) ∧ w = w' := by
  cases wide
  all_goals
    go_enter Try.func45, Try.ntmps45
    go_wp2
    go_ret
    exact ⟨rfl, rfl⟩
def flagV (f : Int) (b : Bool) : Int := if b then f else 0
theorem flag_c (f : Int) (b : Bool) (w : World) : Calls Try.prog 41 #[.int .u16 f, .bool b] w fun e w' => e = .returned (.int .u16 (flagV f b)) ∧ w = w' := by
  cases b
  all_goals
    go_enter Try.func41, Try.ntmps41
    go_wp2
    go_ret
    exact ⟨rfl, rfl⟩
/-- The sign's bit of a number, as the program asks for it. -/
theorem top_bit (v : Nat) (wide : Bool) (hv : v < 65536) : Go.bits .and .u16 v (HH wide : Nat) = if cutN v wide / HH wide = 1 then (HH wide : Int) else 0 := by
  have hH : HH wide < 65536 := by unfold HH; cases wide <;> decide
  rw [u16_and_nat v (HH wide) hv hH, HH_pow, nat_bit, ← HH_pow]
  unfold cutN MM HH
  cases wide
  · simp only [Bool.false_eq_true, if_false, szN]
    split <;> omega
  · simp only [if_true, szN]
    split <;> omega
theorem signs_c (v : Nat) (wide : Bool) (hv : v < 65536) (w : World) : Calls Try.prog 27 #[.int .u16 v, .bool wide] w fun e w' => e = .returned (.int .u16 (signsN v wide : Nat)) ∧ w = w' := by
  have ht := top_bit v wide hv
  have hc := cutN_lt v wide
  have hlow : cutN v wide % 256 = v % 256 := by unfold cutN MM; cases wide <;> simp <;> omega
  have hE := evenM_nat (v % 256)
  have hS : signsN v wide = (if cutN v wide / HH wide = 1 then 128 else 0) + (if cutN v wide = 0 then 64 else 0) + (if onesN (v % 256) 8 % 2 = 0 then 4 else 0) := by unfold signsN; rw [hlow]
  have HS := Aside0.mk hS
  clear hS hlow
  have hH : 0 < HH wide := by unfold HH; cases wide <;> decide
  by_cases c1 : cutN v wide / HH wide = 1 <;> by_cases c2 : cutN v wide = 0 <;> by_cases c3 : onesN (v % 256) 8 % 2 = 0
  all_goals
    have C1 := Aside0.mk c1
    have C2 := Aside0.mk c2
    have C3 := Aside0.mk c3
    have b1 : (Go.bits .and .u16 v (HH wide : Nat) != 0) = decide (cutN v wide / HH wide = 1) := by rw [ht]; first | (rw [if_pos c1, decide_eq_true c1]; exact bne_iff_ne.2 (by omega)) | (rw [if_neg c1, decide_eq_false c1]; rfl)
    have b2 : (((cutN v wide : Nat) : Int) == 0) = decide (cutN v wide = 0) := by rw [Bool.eq_iff_iff]; simp
    have b3 : evenM ((v : Int) % 256) = decide (onesN (v % 256) 8 % 2 = 0) := hE
    first | rw [decide_eq_true c1] at b1 | rw [decide_eq_false c1] at b1
    first | rw [decide_eq_true c2] at b2 | rw [decide_eq_false c2] at b2
    first | rw [decide_eq_true c3] at b3 | rw [decide_eq_false c3] at b3
    clear ht hE c1 c2 c3
    go_enter Try.func27, Try.ntmps27
    go_wp2_with (first
      | (go_at_call 45; refine (top_c _ _).mono ?_; rintro e w' ⟨rfl, rfl⟩)
      | (go_at_call 29; refine (cut_c _ _ hv _).mono ?_; rintro e w' ⟨rfl, rfl⟩)
      | (go_at_call 37; refine (low_c _ _).mono ?_; rintro e w' ⟨rfl, rfl⟩)
      | (go_at_call 46; refine (even_c _ (by omega) (by omega) _).mono ?_; rintro e w' ⟨rfl, rfl⟩))
    go_ret
    exact ⟨ri (by rw [HS.out]; (first | rw [if_pos C1.out] | rw [if_neg C1.out]); (first | rw [if_pos C2.out] | rw [if_neg C2.out]); (first | rw [if_pos C3.out] | rw [if_neg C3.out]); decide), rfl⟩

theorem cut_i (v : Int) (wide : Bool) (h0 : 0 ≤ v) (h1 : v < 65536) (w : World) : Calls Try.prog 29 #[.int .u16 v, .bool wide] w fun e w' => e = .returned (.int .u16 (cutN v.toNat wide : Nat)) ∧ w = w' := by
  obtain ⟨n, rfl⟩ := Int.eq_ofNat_of_zero_le h0
  exact cut_c n wide (by omega) w
theorem signs_i (v : Int) (wide : Bool) (h0 : 0 ≤ v) (h1 : v < 65536) (w : World) : Calls Try.prog 27 #[.int .u16 v, .bool wide] w fun e w' => e = .returned (.int .u16 (signsN v.toNat wide : Nat)) ∧ w = w' := by
  obtain ⟨n, rfl⟩ := Int.eq_ofNat_of_zero_le h0
  exact signs_c n wide (by omega) w
theorem cutN_b (v : Nat) (wide : Bool) : (cutN v wide : Int) < 65536 := by have := cutN_lt v wide; omega

/-! ### the flags of sums and differences, as the program asks for them -/
theorem flags_join (v : Nat) (wide : Bool) (x y z : Bool) : Go.bits .or .u16 (Go.bits .or .u16 (signsN v wide : Nat) (flagV 1 x)) (Go.bits .or .u16 (flagV 16 y) (flagV 2048 z)) = (signsN v wide : Int) + flagV 1 x + flagV 16 y + flagV 2048 z := by
  unfold signsN
  by_cases c1 : cutN v wide / HH wide = 1
  all_goals (first | rw [if_pos c1] | rw [if_neg c1])
  all_goals by_cases c2 : cutN v wide = 0
  all_goals (first | rw [if_pos c2] | rw [if_neg c2])
  all_goals by_cases c3 : onesN (cutN v wide % 256) 8 % 2 = 0
  all_goals (first | rw [if_pos c3] | rw [if_neg c3])
  all_goals (cases x <;> cases y <;> cases z <;> decide)
theorem bit_of_mod (s i : Nat) : s % 2 ^ (i + 1) / 2 ^ i % 2 = s / 2 ^ i % 2 := by
  rw [mod_succ, Nat.add_mul_div_left _ _ (Nat.two_pow_pos i), Nat.div_eq_of_lt (Nat.mod_lt _ (Nat.two_pow_pos i))]
  omega
theorem cut_small (v : Nat) (wide : Bool) (h : v < MM wide) : cutN v wide = v := Nat.mod_eq_of_lt h
theorem MM_le (wide : Bool) : MM wide ≤ 65536 := by unfold MM; cases wide <;> decide
theorem cut_wrap (s : Nat) (wide : Bool) : cutN (s % 65536) wide = cutN s wide := by
  unfold cutN MM; cases wide <;> simp <;> omega
theorem and_lt_MM (x y : Nat) (wide : Bool) (hx : x < MM wide) : x &&& y < MM wide := Nat.lt_of_le_of_lt Nat.and_le_left hx
theorem xor_lt_MM (x y : Nat) (wide : Bool) (hx : x < MM wide) (hy : y < MM wide) : x ^^^ y < MM wide := by
  rw [MM_pow] at *; exact Nat.xor_lt_two_pow hx hy
/-- The sign's bit is 1. -/
theorem top_is (x : Nat) (wide : Bool) (hx : x < MM wide) : (Go.bits .and .u16 x (HH wide : Nat) != 0) = decide (x / 2 ^ (szN wide - 1) % 2 = 1) := by
  have hle := MM_le wide
  have hH : 0 < HH wide := by unfold HH; cases wide <;> decide
  rw [top_bit x wide (by omega), cut_small x wide hx, ← HH_pow]
  have : x / HH wide % 2 = x / HH wide := by unfold MM HH at *; cases wide <;> simp at * <;> omega
  rw [this]
  by_cases h : x / HH wide = 1
  · rw [if_pos h, decide_eq_true h]; exact bne_iff_ne.2 (by omega)
  · rw [if_neg h, decide_eq_false h]; rfl
theorem over_add (a b c : Nat) (wide : Bool) (ha : a < MM wide) (hb : b < MM wide) (hc : c ≤ 1) : (Go.bits .and .u16 (Go.bits .and .u16 (Go.bits .xor .u16 a (cutN (a + b + c) wide : Nat)) (Go.bits .xor .u16 b (cutN (a + b + c) wide : Nat))) (HH wide : Nat) != 0) = decide (carryN a b c (szN wide) ≠ carryN a b c (szN wide - 1)) := by
  have hle := MM_le wide
  have hM : 0 < MM wide := by unfold MM; cases wide <;> decide
  have hv : cutN (a + b + c) wide < MM wide := Nat.mod_lt _ hM
  have hsz := sz_b wide
  have hbit : cutN (a + b + c) wide / 2 ^ (szN wide - 1) % 2 = (a + b + c) / 2 ^ (szN wide - 1) % 2 := by
    unfold cutN; rw [MM_pow]
    have := bit_of_mod (a + b + c) (szN wide - 1)
    rwa [show szN wide - 1 + 1 = szN wide by omega] at this
  have hsum := sum_bit a b c (szN wide - 1)
  have hcs := carryN_succ a b c (szN wide - 1)
  rw [show szN wide - 1 + 1 = szN wide by omega] at hcs
  generalize cutN (a + b + c) wide = v at *
  have x1 := xor_lt_MM a v wide ha hv
  have x2 := xor_lt_MM b v wide hb hv
  rw [u16_xor_nat a v (by omega) (by omega), u16_xor_nat b v (by omega) (by omega), u16_and_nat _ _ (by omega) (by omega), top_is _ wide (and_lt_MM _ _ wide x1), bit_and, bit_xor, bit_xor, hbit, hsum, hcs]
  have h3 : carryN a b c (szN wide - 1) = 0 ∨ carryN a b c (szN wide - 1) = 1 := by have := carryN_le a b c (szN wide - 1) hc; omega
  generalize carryN a b c (szN wide - 1) = γ at *
  have h1 := Nat.mod_two_eq_zero_or_one (a / 2 ^ (szN wide - 1))
  have h2 := Nat.mod_two_eq_zero_or_one (b / 2 ^ (szN wide - 1))
  generalize a / 2 ^ (szN wide - 1) % 2 = α at *
  generalize b / 2 ^ (szN wide - 1) % 2 = β at *
  rcases h1 with rfl | rfl <;> rcases h2 with rfl | rfl <;> rcases h3 with rfl | rfl <;> decide
theorem over_sub (a b c : Nat) (wide : Bool) (ha : a < MM wide) (hb : b < MM wide) (hc : c ≤ 1) : (Go.bits .and .u16 (Go.bits .and .u16 (Go.bits .xor .u16 a b) (Go.bits .xor .u16 a (cutN (subS a b c) wide : Nat))) (HH wide : Nat) != 0) = decide (borN a b c (szN wide) ≠ borN a b c (szN wide - 1)) := by
  have hle := MM_le wide
  have hM : 0 < MM wide := by unfold MM; cases wide <;> decide
  have hv : cutN (subS a b c) wide < MM wide := Nat.mod_lt _ hM
  have hsz := sz_b wide
  have hbit : cutN (subS a b c) wide / 2 ^ (szN wide - 1) % 2 = (subS a b c) / 2 ^ (szN wide - 1) % 2 := by
    unfold cutN; rw [MM_pow]
    have := bit_of_mod (subS a b c) (szN wide - 1)
    rwa [show szN wide - 1 + 1 = szN wide by omega] at this
  have hsum := sum_bit a (cmpl b) (1 - c) (szN wide - 1)
  have hcs := carryN_succ a (cmpl b) (1 - c) (szN wide - 1)
  rw [show szN wide - 1 + 1 = szN wide by omega] at hcs
  rw [cmpl_bit b _ (by omega) (by omega)] at hsum hcs
  have hs2 : subS a b c = a + cmpl b + (1 - c) := rfl
  rw [hs2] at hbit hv ⊢
  generalize cutN (a + cmpl b + (1 - c)) wide = v at *
  have x1 := xor_lt_MM a b wide ha hb
  have x2 := xor_lt_MM a v wide ha hv
  unfold borN
  rw [u16_xor_nat a b (by omega) (by omega), u16_xor_nat a v (by omega) (by omega), u16_and_nat _ _ (by omega) (by omega), top_is _ wide (and_lt_MM _ _ wide x1), bit_and, bit_xor, bit_xor, hbit, hsum, hcs]
  have h3 : carryN a (cmpl b) (1 - c) (szN wide - 1) = 0 ∨ carryN a (cmpl b) (1 - c) (szN wide - 1) = 1 := by have := carryN_le a (cmpl b) (1 - c) (szN wide - 1) (by omega); omega
  generalize carryN a (cmpl b) (1 - c) (szN wide - 1) = γ at *
  have h1 := Nat.mod_two_eq_zero_or_one (a / 2 ^ (szN wide - 1))
  have h2 := Nat.mod_two_eq_zero_or_one (b / 2 ^ (szN wide - 1))
  generalize a / 2 ^ (szN wide - 1) % 2 = α at *
  generalize b / 2 ^ (szN wide - 1) % 2 = β at *
  rcases h1 with rfl | rfl <;> rcases h2 with rfl | rfl <;> rcases h3 with rfl | rfl <;> decide
theorem and15 (a : Nat) (ha : a < 65536) : Go.bits .and .u16 a 15 = ((a % 16 : Nat) : Int) := by
  rw [u16_and _ _ (by omega) (by omega) (by omega) (by omega), show (15 : Int).toNat = 2 ^ 4 - 1 from rfl, Nat.and_two_pow_sub_one_eq_mod]
  rfl
theorem flagN (f : Nat) (x : Bool) : flagV f x = ((if x = true then f else 0 : Nat) : Int) := by cases x <;> simp [flagV]
theorem add_flags (a b c : Nat) (wide : Bool) (ha : a < MM wide) (hb : b < MM wide) (hc : c ≤ 1) :
    Go.bits .or .u16 (Go.bits .or .u16 (signsN (cutN (IntKind.u16.wrap ((a : Int) + b + c)).toNat wide) wide : Nat) (flagV 1 (decide (((cutN 65535 wide : Nat) : Int) % 4294967296 < (a : Int) + b + c))))
      (Go.bits .or .u16 (flagV 16 (decide (15 < IntKind.u16.wrap (IntKind.u16.wrap (Go.bits .and .u16 a 15 + Go.bits .and .u16 b 15) + c))))
        (flagV 2048 (Go.bits .and .u16 (Go.bits .and .u16 (Go.bits .xor .u16 a (cutN (IntKind.u16.wrap ((a : Int) + b + c)).toNat wide : Nat)) (Go.bits .xor .u16 b (cutN (IntKind.u16.wrap ((a : Int) + b + c)).toNat wide : Nat))) (HH wide : Nat) != 0))) = (addF a b c wide : Nat) := by
  have hle := MM_le wide
  have e1 : (IntKind.u16.wrap ((a : Int) + b + c)).toNat = (a + b + c) % 65536 := by rw [IntKind.wrap_u16]; omega
  rw [e1, cut_wrap, flags_join, over_add a b c wide ha hb hc, and15 a (by omega), and15 b (by omega)]
  have eA : decide (15 < IntKind.u16.wrap (IntKind.u16.wrap (((a % 16 : Nat) : Int) + ((b % 16 : Nat) : Int)) + (c : Int))) = decide (carryN a b c 4 = 1) := by
    rw [w16 (a := ((a % 16 : Nat) : Int) + ((b % 16 : Nat) : Int)) (by omega) (by omega), w16 (by omega) (by omega)]
    unfold carryN
    rw [Bool.eq_iff_iff]; simp only [decide_eq_true_eq]; omega
  have eC : decide (((cutN 65535 wide : Nat) : Int) % 4294967296 < (a : Int) + b + c) = decide (carryN a b c (szN wide) = 1) := by
    unfold carryN
    rw [← MM_pow, Nat.mod_eq_of_lt ha, Nat.mod_eq_of_lt hb, Bool.eq_iff_iff]
    unfold cutN MM at *
    cases wide <;> simp at * <;> omega
  rw [eA, eC]
  have f1 := flagN 1 (decide (carryN a b c (szN wide) = 1))
  have f2 := flagN 16 (decide (carryN a b c 4 = 1))
  have f3 := flagN 2048 (decide (carryN a b c (szN wide) ≠ carryN a b c (szN wide - 1)))
  simp only [decide_eq_true_eq] at f1 f2 f3
  have g1 : flagV 1 (decide (carryN a b c (szN wide) = 1)) = _ := f1
  have g2 : flagV 16 (decide (carryN a b c 4 = 1)) = _ := f2
  have g3 : flagV 2048 (decide (carryN a b c (szN wide) ≠ carryN a b c (szN wide - 1))) = _ := f3
  rw [g1, g2, g3]
  unfold addF
  have hn : (if carryN a b c (szN wide) ≠ carryN a b c (szN wide - 1) then 2048 else 0) = (if carryN a b c (szN wide) = carryN a b c (szN wide - 1) then 0 else 2048 : Nat) := by split <;> simp_all
  rw [hn]
  have hs : signsN (cutN (a + b + c) wide) wide = signsN (cutN (a + b + c) wide) wide := rfl
  omega
theorem sub_flags (a b c : Nat) (wide : Bool) (ha : a < MM wide) (hb : b < MM wide) (hc : c ≤ 1) :
    Go.bits .or .u16 (Go.bits .or .u16 (signsN (cutN (IntKind.u16.wrap (IntKind.u16.wrap ((a : Int) - b) - c)).toNat wide) wide : Nat) (flagV 1 (decide ((a : Int) < b + c))))
      (Go.bits .or .u16 (flagV 16 (decide (Go.bits .and .u16 a 15 < IntKind.u16.wrap (Go.bits .and .u16 b 15 + c))))
        (flagV 2048 (Go.bits .and .u16 (Go.bits .and .u16 (Go.bits .xor .u16 a b) (Go.bits .xor .u16 a (cutN (IntKind.u16.wrap (IntKind.u16.wrap ((a : Int) - b) - c)).toNat wide : Nat))) (HH wide : Nat) != 0))) = (subF a b c wide : Nat) := by
  have hle := MM_le wide
  have e1 : (IntKind.u16.wrap (IntKind.u16.wrap ((a : Int) - b) - c)).toNat = subS a b c % 65536 := by rw [IntKind.wrap_u16, IntKind.wrap_u16]; unfold subS cmpl; omega
  rw [e1, cut_wrap, flags_join, over_sub a b c wide ha hb hc, and15 a (by omega), and15 b (by omega)]
  have eA : decide (((a % 16 : Nat) : Int) < IntKind.u16.wrap (((b % 16 : Nat) : Int) + (c : Int))) = decide (borN a b c 4 = 1) := by
    rw [w16 (by omega) (by omega)]
    unfold borN carryN cmpl
    rw [Bool.eq_iff_iff]; simp only [decide_eq_true_eq]; omega
  have eC : decide ((a : Int) < b + c) = decide (borN a b c (szN wide) = 1) := by
    unfold borN carryN cmpl
    rw [← MM_pow, Bool.eq_iff_iff]
    unfold MM at *
    cases wide <;> simp at * <;> omega
  rw [eA, eC]
  have f1 := flagN 1 (decide (borN a b c (szN wide) = 1))
  have f2 := flagN 16 (decide (borN a b c 4 = 1))
  have f3 := flagN 2048 (decide (borN a b c (szN wide) ≠ borN a b c (szN wide - 1)))
  simp only [decide_eq_true_eq] at f1 f2 f3
  have g1 : flagV 1 (decide (borN a b c (szN wide) = 1)) = _ := f1
  have g2 : flagV 16 (decide (borN a b c 4 = 1)) = _ := f2
  have g3 : flagV 2048 (decide (borN a b c (szN wide) ≠ borN a b c (szN wide - 1))) = _ := f3
  rw [g1, g2, g3]
  unfold subF
  have hn : (if borN a b c (szN wide) ≠ borN a b c (szN wide - 1) then 2048 else 0) = (if borN a b c (szN wide) = borN a b c (szN wide - 1) then 0 else 2048 : Nat) := by split <;> simp_all
  rw [hn]
  omega
theorem r2 {k l : IntKind} {a b c d : Int} (h : a = c) (h2 : b = d) : Ending.returned (.tuple #[.int k a, .int l b]) = Ending.returned (.tuple #[.int k c, .int l d]) := by rw [h, h2]

set_option maxHeartbeats 1000000 in
theorem sum_c (a b c : Nat) (wide : Bool) (ha : a < MM wide) (hb : b < MM wide) (hc : c ≤ 1) (w : World) : Calls Try.prog 42 #[.int .u16 a, .int .u16 b, .int .u16 c, .bool wide] w fun e w' => e = .returned (.tuple #[.int .u16 (cutN (a + b + c) wide : Nat), .int .u16 (addF a b c wide : Nat)]) ∧ w = w' := by
  have ha' : (a : Int) < 65536 := by have : MM wide ≤ 65536 := by unfold MM; cases wide <;> decide
                                     omega
  have hb' : (b : Int) < 65536 := by have : MM wide ≤ 65536 := by unfold MM; cases wide <;> decide
                                     omega
  have hc' : (c : Int) ≤ 1 := by omega
  go_enter Try.func42, Try.ntmps42
  go_wp2_with (first
    | (go_at_call 29; refine (cut_i _ _ (by first | omega | (rw [IntKind.wrap_u16]; omega)) (by first | omega | (rw [IntKind.wrap_u16]; omega)) _).mono ?_; rintro e w' ⟨rfl, rfl⟩)
    | (go_at_call 27; refine (signs_i _ _ (by omega) (cutN_b _ _) _).mono ?_; rintro e w' ⟨rfl, rfl⟩)
    | (go_at_call 41; refine (flag_c _ _ _).mono ?_; rintro e w' ⟨rfl, rfl⟩)
    | (go_at_call 45; refine (top_c _ _).mono ?_; rintro e w' ⟨rfl, rfl⟩))
  go_ret2
  exact ⟨r2 (by rw [show (IntKind.u16.wrap ((a : Int) + b + c)).toNat = (a + b + c) % 65536 by rw [IntKind.wrap_u16]; omega, cut_wrap]) (add_flags a b c wide ha hb hc), rfl⟩
set_option maxHeartbeats 1000000 in
theorem less_c (a b c : Nat) (wide : Bool) (ha : a < MM wide) (hb : b < MM wide) (hc : c ≤ 1) (w : World) : Calls Try.prog 43 #[.int .u16 a, .int .u16 b, .int .u16 c, .bool wide] w fun e w' => e = .returned (.tuple #[.int .u16 (cutN (subS a b c) wide : Nat), .int .u16 (subF a b c wide : Nat)]) ∧ w = w' := by
  have ha' : (a : Int) < 65536 := by have : MM wide ≤ 65536 := by unfold MM; cases wide <;> decide
                                     omega
  have hb' : (b : Int) < 65536 := by have : MM wide ≤ 65536 := by unfold MM; cases wide <;> decide
                                     omega
  have hc' : (c : Int) ≤ 1 := by omega
  go_enter Try.func43, Try.ntmps43
  go_wp2_with (first
    | (go_at_call 29; refine (cut_i _ _ (by first | omega | (rw [IntKind.wrap_u16]; omega)) (by first | omega | (rw [IntKind.wrap_u16]; omega)) _).mono ?_; rintro e w' ⟨rfl, rfl⟩)
    | (go_at_call 27; refine (signs_i _ _ (by omega) (cutN_b _ _) _).mono ?_; rintro e w' ⟨rfl, rfl⟩)
    | (go_at_call 41; refine (flag_c _ _ _).mono ?_; rintro e w' ⟨rfl, rfl⟩)
    | (go_at_call 45; refine (top_c _ _).mono ?_; rintro e w' ⟨rfl, rfl⟩))
  go_ret2
  exact ⟨r2 (by rw [show (IntKind.u16.wrap (IntKind.u16.wrap ((a : Int) - b) - c)).toNat = subS a b c % 65536 by rw [IntKind.wrap_u16, IntKind.wrap_u16]; unfold subS cmpl; omega, cut_wrap]) (sub_flags a b c wide ha hb hc), rfl⟩
end Go.Proofs.Ytefdfcdgghoknaa.My
