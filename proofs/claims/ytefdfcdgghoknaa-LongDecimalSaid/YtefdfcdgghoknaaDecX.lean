/- Contracts of the walks of long.Decimal and long.Adjust. -/
import Derived.Test.YtefdfcdgghoknaaDecW
namespace Go.Proofs.Ytefdfcdgghoknaa.My
open Go.RowKit Go.Proofs.YtefdfcdgghoknaaW.PrintWords Go.Proofs.YtefdfcdgghoknaaW.PrintLast Go.Proofs.YtefdfcdgghoknaaW.PrintMore
set_option linter.unusedVariables false
set_option linter.unusedSimpArgs false

set_option maxRecDepth 100000 in
set_option maxHeartbeats 8000000 in
theorem dec_11 (ax was : Nat) (h1 : ax < 65536) (h2 : was < 65536) (w : World) : Calls Try.prog 20 #[.int .i64 11, .int .u16 ax, .int .u16 was] w fun e w' =>
    e = .returned (.tuple #[.int .u16 (decX 11 (ax % 256) (halfB (ax % 256) was) (wholeB (ax % 256) was) + 256 * decY 11 (ax / 256) (halfB (ax % 256) was) : Nat), .int .u16 (decF 11 (decX 11 (ax % 256) (halfB (ax % 256) was) (wholeB (ax % 256) was)) was (halfB (ax % 256) was) (wholeB (ax % 256) was) : Nat), .bool true]) ∧ w = w' := by
  have b4 := bit4 was h2
  have b0 := bit0' was h2
  have hAX := Aside0.mk (show ax = ax % 256 + 256 * (ax / 256) by omega)
  obtain ⟨AL, hAL⟩ : ∃ AL : Nat, ax % 256 = AL := ⟨_, rfl⟩
  obtain ⟨AH, hAH⟩ : ∃ AH : Nat, ax / 256 = AH := ⟨_, rfl⟩
  have l1 : AL < 256 := by omega
  have l2 : AH < 256 := by omega
  have hL : (ax : Int) % 256 = (AL : Int) := by omega
  have hH : (ax : Int) / 256 = (AH : Int) := by omega
  rw [hAL, hAH] at hAX ⊢
  clear hAL hAH
  have kl : was &&& 2261 < 65536 := Nat.and_lt_two_pow (n := 16) _ (by decide)
  have HK := Aside0.mk (show Go.bits .and .u16 was 2261 = ((was &&& 2261 : Nat) : Int) from andN was 2261 h2 (by decide))
  obtain ⟨K, hK⟩ : ∃ K, was &&& 2261 = K := ⟨_, rfl⟩
  rw [hK] at HK kl
  have KK := Aside0.mk hK
  clear hK
  have wl : was &&& 2048 < 65536 := Nat.and_lt_two_pow (n := 16) _ (by decide)
  have e16 : Go.bits .or .u16 16 1 = 17 := by decide +kernel
  have e01 : Go.bits .or .u16 0 1 = 1 := by decide +kernel
  by_cases hc : 9 < AL % 16 ∧ 153 < AL
  · have HF := Aside0.mk (show halfB AL was = true by simp [halfB]; omega)
    have HW := Aside0.mk (show wholeB AL was = true by simp [wholeB]; omega)
    clear b4
    clear b0
    have s1' : 9 < AL % 16 := by omega
    have s2' : 153 < AL := by omega
    clear hc
    go_enter Try.func20, Try.ntmps20
    go_wp2_with (first
      | (go_at_call 37; refine (low_c _ _).mono ?_; rintro e w' ⟨rfl, rfl⟩)
      | (go_at_call 38; refine (high_c _ _).mono ?_; rintro e w' ⟨rfl, rfl⟩)
      | (go_at_call 39; refine (word_c _ _ (by omega) (by omega) (by omega) (by omega) _).mono ?_; rintro e w' ⟨rfl, rfl⟩)
      | (go_at_call 27; refine (signs_i _ _ (by omega) (by omega) _).mono ?_; rintro e w' ⟨rfl, rfl⟩))
    go_ret3
    refine ⟨r3' ?_ ?_ rfl, rfl⟩
    · rw [HF.out, HW.out]; simp [decX, decY, byN]; omega
    · rw [HF.out, HW.out, and2k was h2, or17' _ wl]
      refine (orN _ _ (Nat.or_lt_two_pow (n := 16) wl (by decide)) (Nat.lt_of_le_of_lt (signsN_le _ _) (by decide))).trans ?_
      rw [decF_da 11 (by decide) (by decide)]
      have hY : ∀ y, y = decX 11 AL true true → signsN y false = signsN (decX 11 AL true true) false := fun y h => by rw [h]
      rw [hY _ (by simp [decX, byN] <;> omega)]
      simp [or_1716]
  by_cases hc : 9 < AL % 16 ∧ (AL ≤ 153 ∧ was % 2 = 1)
  · have HF := Aside0.mk (show halfB AL was = true by simp [halfB]; omega)
    have HW := Aside0.mk (show wholeB AL was = true by simp [wholeB]; omega)
    clear b4
    rw [decide_eq_true (by omega)] at b0
    have s1' : 9 < AL % 16 := by omega
    have s2' : AL ≤ 153 := by omega
    clear hc
    go_enter Try.func20, Try.ntmps20
    go_wp2_with (first
      | (go_at_call 37; refine (low_c _ _).mono ?_; rintro e w' ⟨rfl, rfl⟩)
      | (go_at_call 38; refine (high_c _ _).mono ?_; rintro e w' ⟨rfl, rfl⟩)
      | (go_at_call 39; refine (word_c _ _ (by omega) (by omega) (by omega) (by omega) _).mono ?_; rintro e w' ⟨rfl, rfl⟩)
      | (go_at_call 27; refine (signs_i _ _ (by omega) (by omega) _).mono ?_; rintro e w' ⟨rfl, rfl⟩))
    go_ret3
    refine ⟨r3' ?_ ?_ rfl, rfl⟩
    · rw [HF.out, HW.out]; simp [decX, decY, byN]; omega
    · rw [HF.out, HW.out, and2k was h2, or17' _ wl]
      refine (orN _ _ (Nat.or_lt_two_pow (n := 16) wl (by decide)) (Nat.lt_of_le_of_lt (signsN_le _ _) (by decide))).trans ?_
      rw [decF_da 11 (by decide) (by decide)]
      have hY : ∀ y, y = decX 11 AL true true → signsN y false = signsN (decX 11 AL true true) false := fun y h => by rw [h]
      rw [hY _ (by simp [decX, byN] <;> omega)]
      simp [or_1716]
  by_cases hc : 9 < AL % 16 ∧ (AL ≤ 153 ∧ ¬ was % 2 = 1)
  · have HF := Aside0.mk (show halfB AL was = true by simp [halfB]; omega)
    have HW := Aside0.mk (show wholeB AL was = false by simp [wholeB]; omega)
    clear b4
    rw [decide_eq_false (by omega)] at b0
    have s1' : 9 < AL % 16 := by omega
    have s2' : AL ≤ 153 := by omega
    clear hc
    go_enter Try.func20, Try.ntmps20
    go_wp2_with (first
      | (go_at_call 37; refine (low_c _ _).mono ?_; rintro e w' ⟨rfl, rfl⟩)
      | (go_at_call 38; refine (high_c _ _).mono ?_; rintro e w' ⟨rfl, rfl⟩)
      | (go_at_call 39; refine (word_c _ _ (by omega) (by omega) (by omega) (by omega) _).mono ?_; rintro e w' ⟨rfl, rfl⟩)
      | (go_at_call 27; refine (signs_i _ _ (by omega) (by omega) _).mono ?_; rintro e w' ⟨rfl, rfl⟩))
    go_ret3
    refine ⟨r3' ?_ ?_ rfl, rfl⟩
    · rw [HF.out, HW.out]; simp [decX, decY, byN]; omega
    · rw [HF.out, HW.out, and2k was h2, or16 _ wl]
      refine (orN _ _ (Nat.or_lt_two_pow (n := 16) wl (by decide)) (Nat.lt_of_le_of_lt (signsN_le _ _) (by decide))).trans ?_
      rw [decF_da 11 (by decide) (by decide)]
      have hY : ∀ y, y = decX 11 AL true false → signsN y false = signsN (decX 11 AL true false) false := fun y h => by rw [h]
      rw [hY _ (by simp [decX, byN] <;> omega)]
      simp [or_1716]
  by_cases hc : (AL % 16 ≤ 9 ∧ was / 16 % 2 = 1) ∧ 153 < AL
  · have HF := Aside0.mk (show halfB AL was = true by simp [halfB]; omega)
    have HW := Aside0.mk (show wholeB AL was = true by simp [wholeB]; omega)
    rw [decide_eq_true (by omega)] at b4
    clear b0
    have s1' : AL % 16 ≤ 9 := by omega
    have s2' : 153 < AL := by omega
    clear hc
    go_enter Try.func20, Try.ntmps20
    go_wp2_with (first
      | (go_at_call 37; refine (low_c _ _).mono ?_; rintro e w' ⟨rfl, rfl⟩)
      | (go_at_call 38; refine (high_c _ _).mono ?_; rintro e w' ⟨rfl, rfl⟩)
      | (go_at_call 39; refine (word_c _ _ (by omega) (by omega) (by omega) (by omega) _).mono ?_; rintro e w' ⟨rfl, rfl⟩)
      | (go_at_call 27; refine (signs_i _ _ (by omega) (by omega) _).mono ?_; rintro e w' ⟨rfl, rfl⟩))
    go_ret3
    refine ⟨r3' ?_ ?_ rfl, rfl⟩
    · rw [HF.out, HW.out]; simp [decX, decY, byN]; omega
    · rw [HF.out, HW.out, and2k was h2, or17' _ wl]
      refine (orN _ _ (Nat.or_lt_two_pow (n := 16) wl (by decide)) (Nat.lt_of_le_of_lt (signsN_le _ _) (by decide))).trans ?_
      rw [decF_da 11 (by decide) (by decide)]
      have hY : ∀ y, y = decX 11 AL true true → signsN y false = signsN (decX 11 AL true true) false := fun y h => by rw [h]
      rw [hY _ (by simp [decX, byN] <;> omega)]
      simp [or_1716]
  by_cases hc : (AL % 16 ≤ 9 ∧ was / 16 % 2 = 1) ∧ (AL ≤ 153 ∧ was % 2 = 1)
  · have HF := Aside0.mk (show halfB AL was = true by simp [halfB]; omega)
    have HW := Aside0.mk (show wholeB AL was = true by simp [wholeB]; omega)
    rw [decide_eq_true (by omega)] at b4
    rw [decide_eq_true (by omega)] at b0
    have s1' : AL % 16 ≤ 9 := by omega
    have s2' : AL ≤ 153 := by omega
    clear hc
    go_enter Try.func20, Try.ntmps20
    go_wp2_with (first
      | (go_at_call 37; refine (low_c _ _).mono ?_; rintro e w' ⟨rfl, rfl⟩)
      | (go_at_call 38; refine (high_c _ _).mono ?_; rintro e w' ⟨rfl, rfl⟩)
      | (go_at_call 39; refine (word_c _ _ (by omega) (by omega) (by omega) (by omega) _).mono ?_; rintro e w' ⟨rfl, rfl⟩)
      | (go_at_call 27; refine (signs_i _ _ (by omega) (by omega) _).mono ?_; rintro e w' ⟨rfl, rfl⟩))
    go_ret3
    refine ⟨r3' ?_ ?_ rfl, rfl⟩
    · rw [HF.out, HW.out]; simp [decX, decY, byN]; omega
    · rw [HF.out, HW.out, and2k was h2, or17' _ wl]
      refine (orN _ _ (Nat.or_lt_two_pow (n := 16) wl (by decide)) (Nat.lt_of_le_of_lt (signsN_le _ _) (by decide))).trans ?_
      rw [decF_da 11 (by decide) (by decide)]
      have hY : ∀ y, y = decX 11 AL true true → signsN y false = signsN (decX 11 AL true true) false := fun y h => by rw [h]
      rw [hY _ (by simp [decX, byN] <;> omega)]
      simp [or_1716]
  by_cases hc : (AL % 16 ≤ 9 ∧ was / 16 % 2 = 1) ∧ (AL ≤ 153 ∧ ¬ was % 2 = 1)
  · have HF := Aside0.mk (show halfB AL was = true by simp [halfB]; omega)
    have HW := Aside0.mk (show wholeB AL was = false by simp [wholeB]; omega)
    rw [decide_eq_true (by omega)] at b4
    rw [decide_eq_false (by omega)] at b0
    have s1' : AL % 16 ≤ 9 := by omega
    have s2' : AL ≤ 153 := by omega
    clear hc
    go_enter Try.func20, Try.ntmps20
    go_wp2_with (first
      | (go_at_call 37; refine (low_c _ _).mono ?_; rintro e w' ⟨rfl, rfl⟩)
      | (go_at_call 38; refine (high_c _ _).mono ?_; rintro e w' ⟨rfl, rfl⟩)
      | (go_at_call 39; refine (word_c _ _ (by omega) (by omega) (by omega) (by omega) _).mono ?_; rintro e w' ⟨rfl, rfl⟩)
      | (go_at_call 27; refine (signs_i _ _ (by omega) (by omega) _).mono ?_; rintro e w' ⟨rfl, rfl⟩))
    go_ret3
    refine ⟨r3' ?_ ?_ rfl, rfl⟩
    · rw [HF.out, HW.out]; simp [decX, decY, byN]; omega
    · rw [HF.out, HW.out, and2k was h2, or16 _ wl]
      refine (orN _ _ (Nat.or_lt_two_pow (n := 16) wl (by decide)) (Nat.lt_of_le_of_lt (signsN_le _ _) (by decide))).trans ?_
      rw [decF_da 11 (by decide) (by decide)]
      have hY : ∀ y, y = decX 11 AL true false → signsN y false = signsN (decX 11 AL true false) false := fun y h => by rw [h]
      rw [hY _ (by simp [decX, byN] <;> omega)]
      simp [or_1716]
  by_cases hc : (AL % 16 ≤ 9 ∧ ¬ was / 16 % 2 = 1) ∧ 153 < AL
  · have HF := Aside0.mk (show halfB AL was = false by simp [halfB]; omega)
    have HW := Aside0.mk (show wholeB AL was = true by simp [wholeB]; omega)
    rw [decide_eq_false (by omega)] at b4
    clear b0
    have s1' : AL % 16 ≤ 9 := by omega
    have s2' : 153 < AL := by omega
    clear hc
    go_enter Try.func20, Try.ntmps20
    go_wp2_with (first
      | (go_at_call 37; refine (low_c _ _).mono ?_; rintro e w' ⟨rfl, rfl⟩)
      | (go_at_call 38; refine (high_c _ _).mono ?_; rintro e w' ⟨rfl, rfl⟩)
      | (go_at_call 39; refine (word_c _ _ (by omega) (by omega) (by omega) (by omega) _).mono ?_; rintro e w' ⟨rfl, rfl⟩)
      | (go_at_call 27; refine (signs_i _ _ (by omega) (by omega) _).mono ?_; rintro e w' ⟨rfl, rfl⟩))
    go_ret3
    refine ⟨r3' ?_ ?_ rfl, rfl⟩
    · rw [HF.out, HW.out]; simp [decX, decY, byN]; omega
    · rw [HF.out, HW.out, and2k was h2, or1 _ wl]
      refine (orN _ _ (Nat.or_lt_two_pow (n := 16) wl (by decide)) (Nat.lt_of_le_of_lt (signsN_le _ _) (by decide))).trans ?_
      rw [decF_da 11 (by decide) (by decide)]
      have hY : ∀ y, y = decX 11 AL false true → signsN y false = signsN (decX 11 AL false true) false := fun y h => by rw [h]
      rw [hY _ (by simp [decX, byN] <;> omega)]
      simp [or_1716]
  by_cases hc : (AL % 16 ≤ 9 ∧ ¬ was / 16 % 2 = 1) ∧ (AL ≤ 153 ∧ was % 2 = 1)
  · have HF := Aside0.mk (show halfB AL was = false by simp [halfB]; omega)
    have HW := Aside0.mk (show wholeB AL was = true by simp [wholeB]; omega)
    rw [decide_eq_false (by omega)] at b4
    rw [decide_eq_true (by omega)] at b0
    have s1' : AL % 16 ≤ 9 := by omega
    have s2' : AL ≤ 153 := by omega
    clear hc
    go_enter Try.func20, Try.ntmps20
    go_wp2_with (first
      | (go_at_call 37; refine (low_c _ _).mono ?_; rintro e w' ⟨rfl, rfl⟩)
      | (go_at_call 38; refine (high_c _ _).mono ?_; rintro e w' ⟨rfl, rfl⟩)
      | (go_at_call 39; refine (word_c _ _ (by omega) (by omega) (by omega) (by omega) _).mono ?_; rintro e w' ⟨rfl, rfl⟩)
      | (go_at_call 27; refine (signs_i _ _ (by omega) (by omega) _).mono ?_; rintro e w' ⟨rfl, rfl⟩))
    go_ret3
    refine ⟨r3' ?_ ?_ rfl, rfl⟩
    · rw [HF.out, HW.out]; simp [decX, decY, byN]; omega
    · rw [HF.out, HW.out, and2k was h2, or1 _ wl]
      refine (orN _ _ (Nat.or_lt_two_pow (n := 16) wl (by decide)) (Nat.lt_of_le_of_lt (signsN_le _ _) (by decide))).trans ?_
      rw [decF_da 11 (by decide) (by decide)]
      have hY : ∀ y, y = decX 11 AL false true → signsN y false = signsN (decX 11 AL false true) false := fun y h => by rw [h]
      rw [hY _ (by simp [decX, byN] <;> omega)]
      simp [or_1716]
  by_cases hc : (AL % 16 ≤ 9 ∧ ¬ was / 16 % 2 = 1) ∧ (AL ≤ 153 ∧ ¬ was % 2 = 1)
  · have HF := Aside0.mk (show halfB AL was = false by simp [halfB]; omega)
    have HW := Aside0.mk (show wholeB AL was = false by simp [wholeB]; omega)
    rw [decide_eq_false (by omega)] at b4
    rw [decide_eq_false (by omega)] at b0
    have s1' : AL % 16 ≤ 9 := by omega
    have s2' : AL ≤ 153 := by omega
    clear hc
    go_enter Try.func20, Try.ntmps20
    go_wp2_with (first
      | (go_at_call 37; refine (low_c _ _).mono ?_; rintro e w' ⟨rfl, rfl⟩)
      | (go_at_call 38; refine (high_c _ _).mono ?_; rintro e w' ⟨rfl, rfl⟩)
      | (go_at_call 39; refine (word_c _ _ (by omega) (by omega) (by omega) (by omega) _).mono ?_; rintro e w' ⟨rfl, rfl⟩)
      | (go_at_call 27; refine (signs_i _ _ (by omega) (by omega) _).mono ?_; rintro e w' ⟨rfl, rfl⟩))
    go_ret3
    refine ⟨r3' ?_ ?_ rfl, rfl⟩
    · rw [HF.out, HW.out]; simp [decX, decY, byN]; omega
    · rw [HF.out, HW.out, and2k was h2, or0 _ wl]
      refine (orN _ _ wl (Nat.lt_of_le_of_lt (signsN_le _ _) (by decide))).trans ?_
      rw [decF_da 11 (by decide) (by decide)]
      have hY : ∀ y, y = decX 11 AL false false → signsN y false = signsN (decX 11 AL false false) false := fun y h => by rw [h]
      rw [hY _ (by simp [decX, byN] <;> omega)]
      simp [or_1716]
  · exfalso; omega

set_option maxRecDepth 100000 in
set_option maxHeartbeats 8000000 in
theorem dec_12 (ax was : Nat) (h1 : ax < 65536) (h2 : was < 65536) (w : World) : Calls Try.prog 20 #[.int .i64 12, .int .u16 ax, .int .u16 was] w fun e w' =>
    e = .returned (.tuple #[.int .u16 (decX 12 (ax % 256) (halfB (ax % 256) was) (wholeB (ax % 256) was) + 256 * decY 12 (ax / 256) (halfB (ax % 256) was) : Nat), .int .u16 (decF 12 (decX 12 (ax % 256) (halfB (ax % 256) was) (wholeB (ax % 256) was)) was (halfB (ax % 256) was) (wholeB (ax % 256) was) : Nat), .bool true]) ∧ w = w' := by
  have b4 := bit4 was h2
  have b0 := bit0' was h2
  have hAX := Aside0.mk (show ax = ax % 256 + 256 * (ax / 256) by omega)
  obtain ⟨AL, hAL⟩ : ∃ AL : Nat, ax % 256 = AL := ⟨_, rfl⟩
  obtain ⟨AH, hAH⟩ : ∃ AH : Nat, ax / 256 = AH := ⟨_, rfl⟩
  have l1 : AL < 256 := by omega
  have l2 : AH < 256 := by omega
  have hL : (ax : Int) % 256 = (AL : Int) := by omega
  have hH : (ax : Int) / 256 = (AH : Int) := by omega
  rw [hAL, hAH] at hAX ⊢
  clear hAL hAH
  have kl : was &&& 2261 < 65536 := Nat.and_lt_two_pow (n := 16) _ (by decide)
  have HK := Aside0.mk (show Go.bits .and .u16 was 2261 = ((was &&& 2261 : Nat) : Int) from andN was 2261 h2 (by decide))
  obtain ⟨K, hK⟩ : ∃ K, was &&& 2261 = K := ⟨_, rfl⟩
  rw [hK] at HK kl
  have KK := Aside0.mk hK
  clear hK
  have wl : was &&& 2048 < 65536 := Nat.and_lt_two_pow (n := 16) _ (by decide)
  have e16 : Go.bits .or .u16 16 1 = 17 := by decide +kernel
  have e01 : Go.bits .or .u16 0 1 = 1 := by decide +kernel
  by_cases hc : 9 < AL % 16 ∧ 153 < AL
  · have HF := Aside0.mk (show halfB AL was = true by simp [halfB]; omega)
    have HW := Aside0.mk (show wholeB AL was = true by simp [wholeB]; omega)
    clear b4
    clear b0
    have s1' : 9 < AL % 16 := by omega
    have s2' : 153 < AL := by omega
    clear hc
    go_enter Try.func20, Try.ntmps20
    go_wp2_with (first
      | (go_at_call 37; refine (low_c _ _).mono ?_; rintro e w' ⟨rfl, rfl⟩)
      | (go_at_call 38; refine (high_c _ _).mono ?_; rintro e w' ⟨rfl, rfl⟩)
      | (go_at_call 39; refine (word_c _ _ (by omega) (by omega) (by omega) (by omega) _).mono ?_; rintro e w' ⟨rfl, rfl⟩)
      | (go_at_call 27; refine (signs_i _ _ (by omega) (by omega) _).mono ?_; rintro e w' ⟨rfl, rfl⟩))
    go_ret3
    refine ⟨r3' ?_ ?_ rfl, rfl⟩
    · rw [HF.out, HW.out]; simp [decX, decY, byN]; omega
    · rw [HF.out, HW.out, and2k was h2, or17' _ wl]
      refine (orN _ _ (Nat.or_lt_two_pow (n := 16) wl (by decide)) (Nat.lt_of_le_of_lt (signsN_le _ _) (by decide))).trans ?_
      rw [decF_da 12 (by decide) (by decide)]
      have hY : ∀ y, y = decX 12 AL true true → signsN y false = signsN (decX 12 AL true true) false := fun y h => by rw [h]
      rw [hY _ (by simp [decX, byN] <;> omega)]
      simp [or_1716]
  by_cases hc : 9 < AL % 16 ∧ (AL ≤ 153 ∧ was % 2 = 1)
  · have HF := Aside0.mk (show halfB AL was = true by simp [halfB]; omega)
    have HW := Aside0.mk (show wholeB AL was = true by simp [wholeB]; omega)
    clear b4
    rw [decide_eq_true (by omega)] at b0
    have s1' : 9 < AL % 16 := by omega
    have s2' : AL ≤ 153 := by omega
    clear hc
    go_enter Try.func20, Try.ntmps20
    go_wp2_with (first
      | (go_at_call 37; refine (low_c _ _).mono ?_; rintro e w' ⟨rfl, rfl⟩)
      | (go_at_call 38; refine (high_c _ _).mono ?_; rintro e w' ⟨rfl, rfl⟩)
      | (go_at_call 39; refine (word_c _ _ (by omega) (by omega) (by omega) (by omega) _).mono ?_; rintro e w' ⟨rfl, rfl⟩)
      | (go_at_call 27; refine (signs_i _ _ (by omega) (by omega) _).mono ?_; rintro e w' ⟨rfl, rfl⟩))
    go_ret3
    refine ⟨r3' ?_ ?_ rfl, rfl⟩
    · rw [HF.out, HW.out]; simp [decX, decY, byN]; omega
    · rw [HF.out, HW.out, and2k was h2, or17' _ wl]
      refine (orN _ _ (Nat.or_lt_two_pow (n := 16) wl (by decide)) (Nat.lt_of_le_of_lt (signsN_le _ _) (by decide))).trans ?_
      rw [decF_da 12 (by decide) (by decide)]
      have hY : ∀ y, y = decX 12 AL true true → signsN y false = signsN (decX 12 AL true true) false := fun y h => by rw [h]
      rw [hY _ (by simp [decX, byN] <;> omega)]
      simp [or_1716]
  by_cases hc : 9 < AL % 16 ∧ (AL ≤ 153 ∧ ¬ was % 2 = 1)
  · have HF := Aside0.mk (show halfB AL was = true by simp [halfB]; omega)
    have HW := Aside0.mk (show wholeB AL was = false by simp [wholeB]; omega)
    clear b4
    rw [decide_eq_false (by omega)] at b0
    have s1' : 9 < AL % 16 := by omega
    have s2' : AL ≤ 153 := by omega
    clear hc
    go_enter Try.func20, Try.ntmps20
    go_wp2_with (first
      | (go_at_call 37; refine (low_c _ _).mono ?_; rintro e w' ⟨rfl, rfl⟩)
      | (go_at_call 38; refine (high_c _ _).mono ?_; rintro e w' ⟨rfl, rfl⟩)
      | (go_at_call 39; refine (word_c _ _ (by omega) (by omega) (by omega) (by omega) _).mono ?_; rintro e w' ⟨rfl, rfl⟩)
      | (go_at_call 27; refine (signs_i _ _ (by omega) (by omega) _).mono ?_; rintro e w' ⟨rfl, rfl⟩))
    go_ret3
    refine ⟨r3' ?_ ?_ rfl, rfl⟩
    · rw [HF.out, HW.out]; simp [decX, decY, byN]; omega
    · rw [HF.out, HW.out, and2k was h2, or16 _ wl]
      refine (orN _ _ (Nat.or_lt_two_pow (n := 16) wl (by decide)) (Nat.lt_of_le_of_lt (signsN_le _ _) (by decide))).trans ?_
      rw [decF_da 12 (by decide) (by decide)]
      have hY : ∀ y, y = decX 12 AL true false → signsN y false = signsN (decX 12 AL true false) false := fun y h => by rw [h]
      rw [hY _ (by simp [decX, byN] <;> omega)]
      simp [or_1716]
  by_cases hc : (AL % 16 ≤ 9 ∧ was / 16 % 2 = 1) ∧ 153 < AL
  · have HF := Aside0.mk (show halfB AL was = true by simp [halfB]; omega)
    have HW := Aside0.mk (show wholeB AL was = true by simp [wholeB]; omega)
    rw [decide_eq_true (by omega)] at b4
    clear b0
    have s1' : AL % 16 ≤ 9 := by omega
    have s2' : 153 < AL := by omega
    clear hc
    go_enter Try.func20, Try.ntmps20
    go_wp2_with (first
      | (go_at_call 37; refine (low_c _ _).mono ?_; rintro e w' ⟨rfl, rfl⟩)
      | (go_at_call 38; refine (high_c _ _).mono ?_; rintro e w' ⟨rfl, rfl⟩)
      | (go_at_call 39; refine (word_c _ _ (by omega) (by omega) (by omega) (by omega) _).mono ?_; rintro e w' ⟨rfl, rfl⟩)
      | (go_at_call 27; refine (signs_i _ _ (by omega) (by omega) _).mono ?_; rintro e w' ⟨rfl, rfl⟩))
    go_ret3
    refine ⟨r3' ?_ ?_ rfl, rfl⟩
    · rw [HF.out, HW.out]; simp [decX, decY, byN]; omega
    · rw [HF.out, HW.out, and2k was h2, or17' _ wl]
      refine (orN _ _ (Nat.or_lt_two_pow (n := 16) wl (by decide)) (Nat.lt_of_le_of_lt (signsN_le _ _) (by decide))).trans ?_
      rw [decF_da 12 (by decide) (by decide)]
      have hY : ∀ y, y = decX 12 AL true true → signsN y false = signsN (decX 12 AL true true) false := fun y h => by rw [h]
      rw [hY _ (by simp [decX, byN] <;> omega)]
      simp [or_1716]
  by_cases hc : (AL % 16 ≤ 9 ∧ was / 16 % 2 = 1) ∧ (AL ≤ 153 ∧ was % 2 = 1)
  · have HF := Aside0.mk (show halfB AL was = true by simp [halfB]; omega)
    have HW := Aside0.mk (show wholeB AL was = true by simp [wholeB]; omega)
    rw [decide_eq_true (by omega)] at b4
    rw [decide_eq_true (by omega)] at b0
    have s1' : AL % 16 ≤ 9 := by omega
    have s2' : AL ≤ 153 := by omega
    clear hc
    go_enter Try.func20, Try.ntmps20
    go_wp2_with (first
      | (go_at_call 37; refine (low_c _ _).mono ?_; rintro e w' ⟨rfl, rfl⟩)
      | (go_at_call 38; refine (high_c _ _).mono ?_; rintro e w' ⟨rfl, rfl⟩)
      | (go_at_call 39; refine (word_c _ _ (by omega) (by omega) (by omega) (by omega) _).mono ?_; rintro e w' ⟨rfl, rfl⟩)
      | (go_at_call 27; refine (signs_i _ _ (by omega) (by omega) _).mono ?_; rintro e w' ⟨rfl, rfl⟩))
    go_ret3
    refine ⟨r3' ?_ ?_ rfl, rfl⟩
    · rw [HF.out, HW.out]; simp [decX, decY, byN]; omega
    · rw [HF.out, HW.out, and2k was h2, or17' _ wl]
      refine (orN _ _ (Nat.or_lt_two_pow (n := 16) wl (by decide)) (Nat.lt_of_le_of_lt (signsN_le _ _) (by decide))).trans ?_
      rw [decF_da 12 (by decide) (by decide)]
      have hY : ∀ y, y = decX 12 AL true true → signsN y false = signsN (decX 12 AL true true) false := fun y h => by rw [h]
      rw [hY _ (by simp [decX, byN] <;> omega)]
      simp [or_1716]
  by_cases hc : (AL % 16 ≤ 9 ∧ was / 16 % 2 = 1) ∧ (AL ≤ 153 ∧ ¬ was % 2 = 1)
  · have HF := Aside0.mk (show halfB AL was = true by simp [halfB]; omega)
    have HW := Aside0.mk (show wholeB AL was = false by simp [wholeB]; omega)
    rw [decide_eq_true (by omega)] at b4
    rw [decide_eq_false (by omega)] at b0
    have s1' : AL % 16 ≤ 9 := by omega
    have s2' : AL ≤ 153 := by omega
    clear hc
    go_enter Try.func20, Try.ntmps20
    go_wp2_with (first
      | (go_at_call 37; refine (low_c _ _).mono ?_; rintro e w' ⟨rfl, rfl⟩)
      | (go_at_call 38; refine (high_c _ _).mono ?_; rintro e w' ⟨rfl, rfl⟩)
      | (go_at_call 39; refine (word_c _ _ (by omega) (by omega) (by omega) (by omega) _).mono ?_; rintro e w' ⟨rfl, rfl⟩)
      | (go_at_call 27; refine (signs_i _ _ (by omega) (by omega) _).mono ?_; rintro e w' ⟨rfl, rfl⟩))
    go_ret3
    refine ⟨r3' ?_ ?_ rfl, rfl⟩
    · rw [HF.out, HW.out]; simp [decX, decY, byN]; omega
    · rw [HF.out, HW.out, and2k was h2, or16 _ wl]
      refine (orN _ _ (Nat.or_lt_two_pow (n := 16) wl (by decide)) (Nat.lt_of_le_of_lt (signsN_le _ _) (by decide))).trans ?_
      rw [decF_da 12 (by decide) (by decide)]
      have hY : ∀ y, y = decX 12 AL true false → signsN y false = signsN (decX 12 AL true false) false := fun y h => by rw [h]
      rw [hY _ (by simp [decX, byN] <;> omega)]
      simp [or_1716]
  by_cases hc : (AL % 16 ≤ 9 ∧ ¬ was / 16 % 2 = 1) ∧ 153 < AL
  · have HF := Aside0.mk (show halfB AL was = false by simp [halfB]; omega)
    have HW := Aside0.mk (show wholeB AL was = true by simp [wholeB]; omega)
    rw [decide_eq_false (by omega)] at b4
    clear b0
    have s1' : AL % 16 ≤ 9 := by omega
    have s2' : 153 < AL := by omega
    clear hc
    go_enter Try.func20, Try.ntmps20
    go_wp2_with (first
      | (go_at_call 37; refine (low_c _ _).mono ?_; rintro e w' ⟨rfl, rfl⟩)
      | (go_at_call 38; refine (high_c _ _).mono ?_; rintro e w' ⟨rfl, rfl⟩)
      | (go_at_call 39; refine (word_c _ _ (by omega) (by omega) (by omega) (by omega) _).mono ?_; rintro e w' ⟨rfl, rfl⟩)
      | (go_at_call 27; refine (signs_i _ _ (by omega) (by omega) _).mono ?_; rintro e w' ⟨rfl, rfl⟩))
    go_ret3
    refine ⟨r3' ?_ ?_ rfl, rfl⟩
    · rw [HF.out, HW.out]; simp [decX, decY, byN]; omega
    · rw [HF.out, HW.out, and2k was h2, or1 _ wl]
      refine (orN _ _ (Nat.or_lt_two_pow (n := 16) wl (by decide)) (Nat.lt_of_le_of_lt (signsN_le _ _) (by decide))).trans ?_
      rw [decF_da 12 (by decide) (by decide)]
      have hY : ∀ y, y = decX 12 AL false true → signsN y false = signsN (decX 12 AL false true) false := fun y h => by rw [h]
      rw [hY _ (by simp [decX, byN] <;> omega)]
      simp [or_1716]
  by_cases hc : (AL % 16 ≤ 9 ∧ ¬ was / 16 % 2 = 1) ∧ (AL ≤ 153 ∧ was % 2 = 1)
  · have HF := Aside0.mk (show halfB AL was = false by simp [halfB]; omega)
    have HW := Aside0.mk (show wholeB AL was = true by simp [wholeB]; omega)
    rw [decide_eq_false (by omega)] at b4
    rw [decide_eq_true (by omega)] at b0
    have s1' : AL % 16 ≤ 9 := by omega
    have s2' : AL ≤ 153 := by omega
    clear hc
    go_enter Try.func20, Try.ntmps20
    go_wp2_with (first
      | (go_at_call 37; refine (low_c _ _).mono ?_; rintro e w' ⟨rfl, rfl⟩)
      | (go_at_call 38; refine (high_c _ _).mono ?_; rintro e w' ⟨rfl, rfl⟩)
      | (go_at_call 39; refine (word_c _ _ (by omega) (by omega) (by omega) (by omega) _).mono ?_; rintro e w' ⟨rfl, rfl⟩)
      | (go_at_call 27; refine (signs_i _ _ (by omega) (by omega) _).mono ?_; rintro e w' ⟨rfl, rfl⟩))
    go_ret3
    refine ⟨r3' ?_ ?_ rfl, rfl⟩
    · rw [HF.out, HW.out]; simp [decX, decY, byN]; omega
    · rw [HF.out, HW.out, and2k was h2, or1 _ wl]
      refine (orN _ _ (Nat.or_lt_two_pow (n := 16) wl (by decide)) (Nat.lt_of_le_of_lt (signsN_le _ _) (by decide))).trans ?_
      rw [decF_da 12 (by decide) (by decide)]
      have hY : ∀ y, y = decX 12 AL false true → signsN y false = signsN (decX 12 AL false true) false := fun y h => by rw [h]
      rw [hY _ (by simp [decX, byN] <;> omega)]
      simp [or_1716]
  by_cases hc : (AL % 16 ≤ 9 ∧ ¬ was / 16 % 2 = 1) ∧ (AL ≤ 153 ∧ ¬ was % 2 = 1)
  · have HF := Aside0.mk (show halfB AL was = false by simp [halfB]; omega)
    have HW := Aside0.mk (show wholeB AL was = false by simp [wholeB]; omega)
    rw [decide_eq_false (by omega)] at b4
    rw [decide_eq_false (by omega)] at b0
    have s1' : AL % 16 ≤ 9 := by omega
    have s2' : AL ≤ 153 := by omega
    clear hc
    go_enter Try.func20, Try.ntmps20
    go_wp2_with (first
      | (go_at_call 37; refine (low_c _ _).mono ?_; rintro e w' ⟨rfl, rfl⟩)
      | (go_at_call 38; refine (high_c _ _).mono ?_; rintro e w' ⟨rfl, rfl⟩)
      | (go_at_call 39; refine (word_c _ _ (by omega) (by omega) (by omega) (by omega) _).mono ?_; rintro e w' ⟨rfl, rfl⟩)
      | (go_at_call 27; refine (signs_i _ _ (by omega) (by omega) _).mono ?_; rintro e w' ⟨rfl, rfl⟩))
    go_ret3
    refine ⟨r3' ?_ ?_ rfl, rfl⟩
    · rw [HF.out, HW.out]; simp [decX, decY, byN]; omega
    · rw [HF.out, HW.out, and2k was h2, or0 _ wl]
      refine (orN _ _ wl (Nat.lt_of_le_of_lt (signsN_le _ _) (by decide))).trans ?_
      rw [decF_da 12 (by decide) (by decide)]
      have hY : ∀ y, y = decX 12 AL false false → signsN y false = signsN (decX 12 AL false false) false := fun y h => by rw [h]
      rw [hY _ (by simp [decX, byN] <;> omega)]
      simp [or_1716]
  · exfalso; omega
end Go.Proofs.Ytefdfcdgghoknaa.My
