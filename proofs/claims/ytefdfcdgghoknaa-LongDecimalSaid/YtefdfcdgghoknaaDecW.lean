/- Contracts of the walks of long.Decimal and long.Adjust. -/
import Derived.Test.YtefdfcdgghoknaaLongV
namespace Go.Proofs.Ytefdfcdgghoknaa.My
open Go.RowKit Go.Proofs.YtefdfcdgghoknaaW.PrintWords Go.Proofs.YtefdfcdgghoknaaW.PrintLast Go.Proofs.YtefdfcdgghoknaaW.PrintMore
set_option linter.unusedVariables false
set_option linter.unusedSimpArgs false
def halfB (AL was : Nat) : Bool := decide (9 < AL % 16) || decide (was / 16 % 2 = 1)
def wholeB (AL was : Nat) : Bool := decide (153 < AL) || decide (was % 2 = 1)
def byN (hf wh : Bool) : Nat := (if hf then 6 else 0) + (if wh then 96 else 0)
def decX (name AL : Nat) (hf wh : Bool) : Nat :=
  if name = 13 then (if hf then (AL + 6) % 16 else AL % 16)
  else if name = 14 then (if hf then (AL + 250) % 16 else AL % 16)
  else if name = 11 then (AL + byN hf wh) % 256 else (AL + 256 - byN hf wh) % 256
def decY (name AH : Nat) (hf : Bool) : Nat :=
  if name = 13 then (if hf then (AH + 1) % 256 else AH) else if name = 14 then (if hf then (AH + 255) % 256 else AH) else AH
def decF (name X was : Nat) (hf wh : Bool) : Nat :=
  if name = 13 ∨ name = 14 then (if hf then ((was &&& 2261) &&& 65518) ||| 17 else (was &&& 2261) &&& 65518)
  else ((((was &&& 2261) &&& 2048) ||| (if hf then 16 else 0)) ||| (if wh then 1 else 0)) ||| signsN X false
theorem decX_lt (name AL : Nat) (hf wh : Bool) : decX name AL hf wh < 256 := by
  unfold decX; split; (split <;> omega); split; (split <;> omega); split <;> omega
theorem bit4 (n : Nat) (h : n < 65536) : (Go.bits .and .u16 n 16 != 0) = decide (n / 16 % 2 = 1) := by
  have := u16_and_nat n 16 h (by omega)
  rw [show ((16 : Nat) : Int) = 16 from rfl, show (16 : Nat) = 2 ^ 4 from rfl, nat_bit] at this
  rw [this, Bool.eq_iff_iff, bne_iff_ne, decide_eq_true_eq]
  omega
theorem bit0' (n : Nat) (h : n < 65536) : (Go.bits .and .u16 n 1 != 0) = decide (n % 2 = 1) := by
  have := u16_and_nat n 1 h (by omega)
  rw [show ((1 : Nat) : Int) = 1 from rfl] at this
  rw [this, nat_mask1, Bool.eq_iff_iff, bne_iff_ne, decide_eq_true_eq]
  omega
theorem small_bit (x i : Nat) (h : x < 65536) (hi : 16 ≤ i) : x.testBit i = false := Nat.testBit_lt_two_pow (Nat.lt_of_lt_of_le h (Nat.pow_le_pow_right (n := 2) (i := 16) (by decide) hi))
/-- Two words are alike, if their bits are. -/
theorem word_ext (x y : Nat) (hx : x < 65536) (hy : y < 65536) (h : ∀ i, i < 16 → x.testBit i = y.testBit i) : x = y := by
  apply Nat.eq_of_testBit_eq
  intro i
  by_cases hi : i < 16
  · exact h i hi
  · rw [small_bit x i hx (by omega), small_bit y i hy (by omega)]
theorem or17 (k : Nat) (h : k < 65536) : (k ||| 16) ||| 1 = (k &&& 65518) ||| 17 := by
  refine word_ext _ _ (Nat.or_lt_two_pow (n := 16) (Nat.or_lt_two_pow h (by decide)) (by decide)) (Nat.or_lt_two_pow (n := 16) (Nat.and_lt_two_pow _ (by decide)) (by decide)) fun i hi => ?_
  simp only [Nat.testBit_or, Nat.testBit_and]
  generalize k.testBit i = b
  rcases (show i = 0 ∨ i = 1 ∨ i = 2 ∨ i = 3 ∨ i = 4 ∨ i = 5 ∨ i = 6 ∨ i = 7 ∨ i = 8 ∨ i = 9 ∨ i = 10 ∨ i = 11 ∨ i = 12 ∨ i = 13 ∨ i = 14 ∨ i = 15 by omega) with rfl | rfl | rfl | rfl | rfl | rfl | rfl | rfl | rfl | rfl | rfl | rfl | rfl | rfl | rfl | rfl <;> cases b <;> decide
theorem and2048 (k : Nat) : (k &&& 2261) &&& 2048 = k &&& 2048 := by rw [Nat.and_assoc]; rfl
theorem or_1716 (x : Nat) : x ||| 17 = (x ||| 16) ||| 1 := by rw [Nat.or_assoc]; rfl
theorem decF_da (name : Nat) (n1 : name ≠ 13) (n2 : name ≠ 14) (X was : Nat) (hf wh : Bool) : decF name X was hf wh = (((was &&& 2048) ||| (if hf then 16 else 0)) ||| (if wh then 1 else 0)) ||| signsN X false := by
  unfold decF; rw [if_neg (by omega), and2048]
theorem andNot17 (k : Nat) (h : k < 65536) : Go.bits .andNot .u16 k 17 = ((k &&& 65518 : Nat) : Int) := u16_andNot_nat k 17 h (by decide)
theorem andN (k c : Nat) (h : k < 65536) (hc : c < 65536) : Go.bits .and .u16 k (c : Int) = ((k &&& c : Nat) : Int) := u16_and_nat k c h hc
theorem orN (k c : Nat) (h : k < 65536) (hc : c < 65536) : Go.bits .or .u16 k (c : Int) = ((k ||| c : Nat) : Int) := u16_or_nat k c h hc
theorem or16 (k : Nat) (h : k < 65536) : Go.bits .or .u16 k 16 = ((k ||| 16 : Nat) : Int) := orN k 16 h (by decide)
theorem or1 (k : Nat) (h : k < 65536) : Go.bits .or .u16 k 1 = ((k ||| 1 : Nat) : Int) := orN k 1 h (by decide)
theorem or17' (k : Nat) (h : k < 65536) : Go.bits .or .u16 k 17 = ((k ||| 17 : Nat) : Int) := orN k 17 h (by decide)
theorem or0 (k : Nat) (h : k < 65536) : Go.bits .or .u16 k 0 = (k : Int) := (orN k 0 h (by decide)).trans (by rw [Nat.or_zero])
theorem and2k (k : Nat) (h : k < 65536) : Go.bits .and .u16 k 2048 = ((k &&& 2048 : Nat) : Int) := andN k 2048 h (by decide)

set_option maxRecDepth 100000 in
set_option maxHeartbeats 8000000 in
theorem dec_13 (ax was : Nat) (h1 : ax < 65536) (h2 : was < 65536) (w : World) : Calls Try.prog 20 #[.int .i64 13, .int .u16 ax, .int .u16 was] w fun e w' =>
    e = .returned (.tuple #[.int .u16 (decX 13 (ax % 256) (halfB (ax % 256) was) (wholeB (ax % 256) was) + 256 * decY 13 (ax / 256) (halfB (ax % 256) was) : Nat), .int .u16 (decF 13 (decX 13 (ax % 256) (halfB (ax % 256) was) (wholeB (ax % 256) was)) was (halfB (ax % 256) was) (wholeB (ax % 256) was) : Nat), .bool true]) ∧ w = w' := by
  have b4 := bit4 was h2
  have b0 := bit0' was h2
  have hAX := Aside0.mk (show ax = ax % 256 + 256 * (ax / 256) by omega)
  obtain ⟨AL, hAL⟩ : ∃ AL : Nat, ax % 256 = AL := ⟨_, rfl⟩
  obtain ⟨AH, hAH⟩ : ∃ AH : Nat, ax / 256 = AH := ⟨_, rfl⟩
  have l1 : AL < 256 := by omega
  have l2 : AH < 256 := by omega
  have hL : (ax : Int) % 256 = (AL : Int) := by omega
  have hH : (ax : Int) / 256 = (AH : Int) := by omega
  rw [hAL, hAH] at hAX ⊢
  clear hAL hAH
  have kl : was &&& 2261 < 65536 := Nat.and_lt_two_pow (n := 16) _ (by decide)
  have HK := Aside0.mk (show Go.bits .and .u16 was 2261 = ((was &&& 2261 : Nat) : Int) from andN was 2261 h2 (by decide))
  obtain ⟨K, hK⟩ : ∃ K, was &&& 2261 = K := ⟨_, rfl⟩
  rw [hK] at HK kl
  have KK := Aside0.mk hK
  clear hK
  clear b0
  by_cases s : 9 < AL % 16
  · have HF := Aside0.mk (show halfB AL was = true by simp [halfB, s])
    clear b4
    go_enter Try.func20, Try.ntmps20
    go_wp2_with (first
      | (go_at_call 37; refine (low_c _ _).mono ?_; rintro e w' ⟨rfl, rfl⟩)
      | (go_at_call 38; refine (high_c _ _).mono ?_; rintro e w' ⟨rfl, rfl⟩)
      | (go_at_call 39; refine (word_c _ _ (by omega) (by omega) (by omega) (by omega) _).mono ?_; rintro e w' ⟨rfl, rfl⟩)
      | (go_at_call 27; refine (signs_i _ _ (by omega) (by omega) _).mono ?_; rintro e w' ⟨rfl, rfl⟩))
    go_ret3
    refine ⟨r3' ?_ ?_ rfl, rfl⟩
    · rw [HF.out]; have := hAX.out; simp [decX, decY]; omega
    · rw [HF.out]; rw [HK.out]; simp only [decF]; rw [KK.out]; rw [or16 K kl, or1 _ (Nat.or_lt_two_pow (n := 16) kl (by decide)), or17 K kl]; rfl
  by_cases a : was / 16 % 2 = 1
  · have HF := Aside0.mk (show halfB AL was = true by simp [halfB, a])
    rw [decide_eq_true a] at b4
    clear a
    go_enter Try.func20, Try.ntmps20
    go_wp2_with (first
      | (go_at_call 37; refine (low_c _ _).mono ?_; rintro e w' ⟨rfl, rfl⟩)
      | (go_at_call 38; refine (high_c _ _).mono ?_; rintro e w' ⟨rfl, rfl⟩)
      | (go_at_call 39; refine (word_c _ _ (by omega) (by omega) (by omega) (by omega) _).mono ?_; rintro e w' ⟨rfl, rfl⟩)
      | (go_at_call 27; refine (signs_i _ _ (by omega) (by omega) _).mono ?_; rintro e w' ⟨rfl, rfl⟩))
    go_ret3
    refine ⟨r3' ?_ ?_ rfl, rfl⟩
    · rw [HF.out]; have := hAX.out; simp [decX, decY]; omega
    · rw [HF.out]; rw [HK.out]; simp only [decF]; rw [KK.out]; rw [or16 K kl, or1 _ (Nat.or_lt_two_pow (n := 16) kl (by decide)), or17 K kl]; rfl
  · have HF := Aside0.mk (show halfB AL was = false by simp [halfB, a]; omega)
    rw [decide_eq_false a] at b4
    clear a
    have e0 : Go.bits .and .u16 (ax : Int) 65295 = ((AH * 256 + AL % 16 : Nat) : Int) := by
      rw [hAX.out, show (65295 : Int) = ((65295 : Nat) : Int) from rfl, andN _ 65295 (by omega) (by decide)]
      congr 1
      have hh : ∀ l : Nat, l < 256 → l &&& 15 = l % 16 := fun l hl => Nat.and_two_pow_sub_one_eq_mod l 4
      have : AL + 256 * AH = AH * 2 ^ 8 + AL := by omega
      rw [this]
      have hj := nat_join 8 (AH * 2 ^ 8) AL (by omega) (by omega)
      rw [← hj, Nat.and_or_distrib_right]
      have p1 : AH * 2 ^ 8 &&& 65295 = AH * 2 ^ 8 := by
        refine word_ext _ _ (Nat.and_lt_two_pow (n := 16) _ (by decide)) (by omega) fun i hi => ?_
        rw [Nat.testBit_and, ← Nat.shiftLeft_eq, Nat.testBit_shiftLeft]
        rcases (show i = 0 ∨ i = 1 ∨ i = 2 ∨ i = 3 ∨ i = 4 ∨ i = 5 ∨ i = 6 ∨ i = 7 ∨ i = 8 ∨ i = 9 ∨ i = 10 ∨ i = 11 ∨ i = 12 ∨ i = 13 ∨ i = 14 ∨ i = 15 by omega) with rfl | rfl | rfl | rfl | rfl | rfl | rfl | rfl | rfl | rfl | rfl | rfl | rfl | rfl | rfl | rfl <;> simp <;> (intros; decide)
      have p2 : AL &&& 65295 = AL % 16 := by
        have : AL &&& 65295 = AL &&& 15 := by
          refine word_ext _ _ (Nat.and_lt_two_pow (n := 16) _ (by decide)) (Nat.and_lt_two_pow (n := 16) _ (by decide)) fun i hi => ?_
          rw [Nat.testBit_and, Nat.testBit_and]
          by_cases q : i < 8
          · rcases (show i = 0 ∨ i = 1 ∨ i = 2 ∨ i = 3 ∨ i = 4 ∨ i = 5 ∨ i = 6 ∨ i = 7 by omega) with rfl | rfl | rfl | rfl | rfl | rfl | rfl | rfl <;> rfl
          · have : AL.testBit i = false := Nat.testBit_lt_two_pow (Nat.lt_of_lt_of_le l1 (Nat.pow_le_pow_right (n := 2) (i := 8) (by decide) (by omega)))
            simp [this]
        rw [this]; exact Nat.and_two_pow_sub_one_eq_mod AL 4
      rw [p1, p2, nat_join 8 _ _ (by omega) (by omega)]
    go_enter Try.func20, Try.ntmps20
    go_wp2_with (first
      | (go_at_call 37; refine (low_c _ _).mono ?_; rintro e w' ⟨rfl, rfl⟩)
      | (go_at_call 38; refine (high_c _ _).mono ?_; rintro e w' ⟨rfl, rfl⟩)
      | (go_at_call 39; refine (word_c _ _ (by omega) (by omega) (by omega) (by omega) _).mono ?_; rintro e w' ⟨rfl, rfl⟩)
      | (go_at_call 27; refine (signs_i _ _ (by omega) (by omega) _).mono ?_; rintro e w' ⟨rfl, rfl⟩))
    go_ret3
    refine ⟨r3' ?_ ?_ rfl, rfl⟩
    · rw [HF.out]; simp [decX, decY]; omega
    · rw [HF.out]; rw [HK.out]; simp only [decF]; rw [KK.out]; rw [andNot17 K kl]; rfl

set_option maxRecDepth 100000 in
set_option maxHeartbeats 8000000 in
theorem dec_14 (ax was : Nat) (h1 : ax < 65536) (h2 : was < 65536) (w : World) : Calls Try.prog 20 #[.int .i64 14, .int .u16 ax, .int .u16 was] w fun e w' =>
    e = .returned (.tuple #[.int .u16 (decX 14 (ax % 256) (halfB (ax % 256) was) (wholeB (ax % 256) was) + 256 * decY 14 (ax / 256) (halfB (ax % 256) was) : Nat), .int .u16 (decF 14 (decX 14 (ax % 256) (halfB (ax % 256) was) (wholeB (ax % 256) was)) was (halfB (ax % 256) was) (wholeB (ax % 256) was) : Nat), .bool true]) ∧ w = w' := by
  have b4 := bit4 was h2
  have b0 := bit0' was h2
  have hAX := Aside0.mk (show ax = ax % 256 + 256 * (ax / 256) by omega)
  obtain ⟨AL, hAL⟩ : ∃ AL : Nat, ax % 256 = AL := ⟨_, rfl⟩
  obtain ⟨AH, hAH⟩ : ∃ AH : Nat, ax / 256 = AH := ⟨_, rfl⟩
  have l1 : AL < 256 := by omega
  have l2 : AH < 256 := by omega
  have hL : (ax : Int) % 256 = (AL : Int) := by omega
  have hH : (ax : Int) / 256 = (AH : Int) := by omega
  rw [hAL, hAH] at hAX ⊢
  clear hAL hAH
  have kl : was &&& 2261 < 65536 := Nat.and_lt_two_pow (n := 16) _ (by decide)
  have HK := Aside0.mk (show Go.bits .and .u16 was 2261 = ((was &&& 2261 : Nat) : Int) from andN was 2261 h2 (by decide))
  obtain ⟨K, hK⟩ : ∃ K, was &&& 2261 = K := ⟨_, rfl⟩
  rw [hK] at HK kl
  have KK := Aside0.mk hK
  clear hK
  clear b0
  by_cases s : 9 < AL % 16
  · have HF := Aside0.mk (show halfB AL was = true by simp [halfB, s])
    clear b4
    go_enter Try.func20, Try.ntmps20
    go_wp2_with (first
      | (go_at_call 37; refine (low_c _ _).mono ?_; rintro e w' ⟨rfl, rfl⟩)
      | (go_at_call 38; refine (high_c _ _).mono ?_; rintro e w' ⟨rfl, rfl⟩)
      | (go_at_call 39; refine (word_c _ _ (by omega) (by omega) (by omega) (by omega) _).mono ?_; rintro e w' ⟨rfl, rfl⟩)
      | (go_at_call 27; refine (signs_i _ _ (by omega) (by omega) _).mono ?_; rintro e w' ⟨rfl, rfl⟩))
    go_ret3
    refine ⟨r3' ?_ ?_ rfl, rfl⟩
    · rw [HF.out]; have := hAX.out; simp [decX, decY]; omega
    · rw [HF.out]; rw [HK.out]; simp only [decF]; rw [KK.out]; rw [or16 K kl, or1 _ (Nat.or_lt_two_pow (n := 16) kl (by decide)), or17 K kl]; rfl
  by_cases a : was / 16 % 2 = 1
  · have HF := Aside0.mk (show halfB AL was = true by simp [halfB, a])
    rw [decide_eq_true a] at b4
    clear a
    go_enter Try.func20, Try.ntmps20
    go_wp2_with (first
      | (go_at_call 37; refine (low_c _ _).mono ?_; rintro e w' ⟨rfl, rfl⟩)
      | (go_at_call 38; refine (high_c _ _).mono ?_; rintro e w' ⟨rfl, rfl⟩)
      | (go_at_call 39; refine (word_c _ _ (by omega) (by omega) (by omega) (by omega) _).mono ?_; rintro e w' ⟨rfl, rfl⟩)
      | (go_at_call 27; refine (signs_i _ _ (by omega) (by omega) _).mono ?_; rintro e w' ⟨rfl, rfl⟩))
    go_ret3
    refine ⟨r3' ?_ ?_ rfl, rfl⟩
    · rw [HF.out]; have := hAX.out; simp [decX, decY]; omega
    · rw [HF.out]; rw [HK.out]; simp only [decF]; rw [KK.out]; rw [or16 K kl, or1 _ (Nat.or_lt_two_pow (n := 16) kl (by decide)), or17 K kl]; rfl
  · have HF := Aside0.mk (show halfB AL was = false by simp [halfB, a]; omega)
    rw [decide_eq_false a] at b4
    clear a
    have e0 : Go.bits .and .u16 (ax : Int) 65295 = ((AH * 256 + AL % 16 : Nat) : Int) := by
      rw [hAX.out, show (65295 : Int) = ((65295 : Nat) : Int) from rfl, andN _ 65295 (by omega) (by decide)]
      congr 1
      have hh : ∀ l : Nat, l < 256 → l &&& 15 = l % 16 := fun l hl => Nat.and_two_pow_sub_one_eq_mod l 4
      have : AL + 256 * AH = AH * 2 ^ 8 + AL := by omega
      rw [this]
      have hj := nat_join 8 (AH * 2 ^ 8) AL (by omega) (by omega)
      rw [← hj, Nat.and_or_distrib_right]
      have p1 : AH * 2 ^ 8 &&& 65295 = AH * 2 ^ 8 := by
        refine word_ext _ _ (Nat.and_lt_two_pow (n := 16) _ (by decide)) (by omega) fun i hi => ?_
        rw [Nat.testBit_and, ← Nat.shiftLeft_eq, Nat.testBit_shiftLeft]
        rcases (show i = 0 ∨ i = 1 ∨ i = 2 ∨ i = 3 ∨ i = 4 ∨ i = 5 ∨ i = 6 ∨ i = 7 ∨ i = 8 ∨ i = 9 ∨ i = 10 ∨ i = 11 ∨ i = 12 ∨ i = 13 ∨ i = 14 ∨ i = 15 by omega) with rfl | rfl | rfl | rfl | rfl | rfl | rfl | rfl | rfl | rfl | rfl | rfl | rfl | rfl | rfl | rfl <;> simp <;> (intros; decide)
      have p2 : AL &&& 65295 = AL % 16 := by
        have : AL &&& 65295 = AL &&& 15 := by
          refine word_ext _ _ (Nat.and_lt_two_pow (n := 16) _ (by decide)) (Nat.and_lt_two_pow (n := 16) _ (by decide)) fun i hi => ?_
          rw [Nat.testBit_and, Nat.testBit_and]
          by_cases q : i < 8
          · rcases (show i = 0 ∨ i = 1 ∨ i = 2 ∨ i = 3 ∨ i = 4 ∨ i = 5 ∨ i = 6 ∨ i = 7 by omega) with rfl | rfl | rfl | rfl | rfl | rfl | rfl | rfl <;> rfl
          · have : AL.testBit i = false := Nat.testBit_lt_two_pow (Nat.lt_of_lt_of_le l1 (Nat.pow_le_pow_right (n := 2) (i := 8) (by decide) (by omega)))
            simp [this]
        rw [this]; exact Nat.and_two_pow_sub_one_eq_mod AL 4
      rw [p1, p2, nat_join 8 _ _ (by omega) (by omega)]
    go_enter Try.func20, Try.ntmps20
    go_wp2_with (first
      | (go_at_call 37; refine (low_c _ _).mono ?_; rintro e w' ⟨rfl, rfl⟩)
      | (go_at_call 38; refine (high_c _ _).mono ?_; rintro e w' ⟨rfl, rfl⟩)
      | (go_at_call 39; refine (word_c _ _ (by omega) (by omega) (by omega) (by omega) _).mono ?_; rintro e w' ⟨rfl, rfl⟩)
      | (go_at_call 27; refine (signs_i _ _ (by omega) (by omega) _).mono ?_; rintro e w' ⟨rfl, rfl⟩))
    go_ret3
    refine ⟨r3' ?_ ?_ rfl, rfl⟩
    · rw [HF.out]; simp [decX, decY]; omega
    · rw [HF.out]; rw [HK.out]; simp only [decF]; rw [KK.out]; rw [andNot17 K kl]; rfl
end Go.Proofs.Ytefdfcdgghoknaa.My
