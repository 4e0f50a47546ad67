/- The walk of the law LongDecimal. -/
import Derived.Test.YtefdfcdgghoknaaDecX
namespace Go.Proofs.Ytefdfcdgghoknaa.My
open Go.RowKit Go.Proofs.YtefdfcdgghoknaaW.PrintWords Go.Proofs.YtefdfcdgghoknaaW.PrintLast Go.Proofs.YtefdfcdgghoknaaW.PrintMore
set_option linter.unusedVariables false
set_option linter.unusedSimpArgs false

theorem and2065 (k : Nat) : (k &&& 2261) &&& 2065 = k &&& 2065 := by rw [Nat.and_assoc]; rfl
theorem and2065c (k : Nat) (h : k < 65536) : Go.bits .and .u16 k 2065 = ((k &&& 2065 : Nat) : Int) := andN k 2065 h (by decide)

set_option maxRecDepth 100000 in
set_option maxHeartbeats 2000000 in
theorem adj_70 (ax was AL AH : Nat) (h1 : ax < 65536) (h2 : was < 65536) (hAL : ax % 256 = AL) (hAH : ax / 256 = AH) (w : World) : Calls Try.prog 21 #[.int .i64 70, .int .u16 ax, .int .u16 was] w fun e w' =>
    e = .returned (.tuple #[.int .u16 (AL % 10 + 256 * (AL / 10) : Nat), .int .u16 ((was &&& 2065) ||| signsN (AL % 10) false : Nat), .bool true]) ∧ w = w' := by
  have l1 : AL < 256 := by omega
  have l2 : AH < 256 := by omega
  have hL : (ax : Int) % 256 = (AL : Int) := by omega
  have hH : (ax : Int) / 256 = (AH : Int) := by omega
  clear hAL hAH
  go_enter Try.func21, Try.ntmps21
  go_wp2_with (first
    | (go_at_call 37; refine (low_c _ _).mono ?_; rintro e w' ⟨rfl, rfl⟩)
    | (go_at_call 38; refine (high_c _ _).mono ?_; rintro e w' ⟨rfl, rfl⟩)
    | (go_at_call 39; refine (word_c _ _ (by omega) (by omega) (by omega) (by omega) _).mono ?_; rintro e w' ⟨rfl, rfl⟩)
    | (go_at_call 27; refine (signs_i _ _ (by omega) (by omega) _).mono ?_; rintro e w' ⟨rfl, rfl⟩))
  go_ret3
  refine ⟨r3' ?_ ?_ rfl, rfl⟩
  · simp <;> omega
  · rw [and2065c was h2]
    refine (orN _ _ (Nat.and_lt_two_pow (n := 16) _ (by decide)) (Nat.lt_of_le_of_lt (signsN_le _ _) (by decide))).trans ?_
    have hY : ∀ y, y = AL % 10 → signsN y false = signsN (AL % 10) false := fun y h => by rw [h]
    rw [hY _ (by omega)]

set_option maxRecDepth 100000 in
set_option maxHeartbeats 2000000 in
theorem adj_71 (ax was AL AH : Nat) (h1 : ax < 65536) (h2 : was < 65536) (hAL : ax % 256 = AL) (hAH : ax / 256 = AH) (w : World) : Calls Try.prog 21 #[.int .i64 71, .int .u16 ax, .int .u16 was] w fun e w' =>
    e = .returned (.tuple #[.int .u16 ((AL + 10 * AH) % 256 : Nat), .int .u16 ((was &&& 2065) ||| signsN ((AL + 10 * AH) % 256) false : Nat), .bool true]) ∧ w = w' := by
  have l1 : AL < 256 := by omega
  have l2 : AH < 256 := by omega
  have hL : (ax : Int) % 256 = (AL : Int) := by omega
  have hH : (ax : Int) / 256 = (AH : Int) := by omega
  clear hAL hAH
  go_enter Try.func21, Try.ntmps21
  go_wp2_with (first
    | (go_at_call 37; refine (low_c _ _).mono ?_; rintro e w' ⟨rfl, rfl⟩)
    | (go_at_call 38; refine (high_c _ _).mono ?_; rintro e w' ⟨rfl, rfl⟩)
    | (go_at_call 39; refine (word_c _ _ (by omega) (by omega) (by omega) (by omega) _).mono ?_; rintro e w' ⟨rfl, rfl⟩)
    | (go_at_call 27; refine (signs_i _ _ (by omega) (by omega) _).mono ?_; rintro e w' ⟨rfl, rfl⟩))
  go_ret3
  refine ⟨r3' ?_ ?_ rfl, rfl⟩
  · simp <;> omega
  · rw [and2065c was h2]
    refine (orN _ _ (Nat.and_lt_two_pow (n := 16) _ (by decide)) (Nat.lt_of_le_of_lt (signsN_le _ _) (by decide))).trans ?_
    have hY : ∀ y, y = (AL + 10 * AH) % 256 → signsN y false = signsN ((AL + 10 * AH) % 256) false := fun y h => by rw [h]
    rw [hY _ (by omega)]

set_option maxRecDepth 100000 in
theorem adj_no (name : Int) (ax was : Nat) (n1 : (name == 70) = false) (n2 : (name == 71) = false) (w : World) : Calls Try.prog 21 #[.int .i64 name, .int .u16 ax, .int .u16 was] w fun e w' =>
    e = .returned (.tuple #[.int .u16 0, .int .u16 0, .bool false]) ∧ w = w' := by
  go_enter Try.func21, Try.ntmps21
  go_wp2_with (first
    | (go_at_call 37; refine (low_c _ _).mono ?_; rintro e w' ⟨rfl, rfl⟩)
    | (go_at_call 38; refine (high_c _ _).mono ?_; rintro e w' ⟨rfl, rfl⟩)
    | (go_at_call 39; refine (word_c _ _ (by omega) (by omega) (by omega) (by omega) _).mono ?_; rintro e w' ⟨rfl, rfl⟩)
    | (go_at_call 27; refine (signs_i _ _ (by omega) (by omega) _).mono ?_; rintro e w' ⟨rfl, rfl⟩))
  go_ret3
  exact ⟨rfl, rfl⟩
end Go.Proofs.Ytefdfcdgghoknaa.My
