/- Quotients of small numbers and their order, with signs. -/
import Derived.Test.YtdhingmjnhhjnaaFloatS
namespace Go.Proofs.Ytdhingmjnhhjnaa.My
set_option linter.unusedVariables false
set_option linter.unusedSimpArgs false
/-- The word of a quotient. -/
def quoW (x y : Nat) : Nat := (FloatKind.f64.format.div (floatOfInt .f64 x) (floatOfInt .f64 y)).getD 0
theorem quoW_spec (x y : Nat) (x2 : x ≤ 16777216) (y1 : 1 ≤ y) (y2 : y ≤ 16777216) :
    quoW x y < 9218868437227405312 ∧ ∀ s : Bool, FloatKind.f64.format.div (if s then floatOfInt .f64 x + 9223372036854775808 else floatOfInt .f64 x) (floatOfInt .f64 y) = some (sgnW s (quoW x y)) := by
  by_cases h0 : x = 0
  · subst h0
    have h := div_zero_l false y y1 (by omega)
    rw [if_neg (by decide), if_neg (by decide)] at h
    have e : quoW 0 y = 0 := by unfold quoW; rw [h]; rfl
    rw [e]
    refine ⟨by omega, fun s => ?_⟩
    rw [div_zero_l s y y1 (by omega)]
    unfold sgnW; rw [Nat.zero_add]
  · obtain ⟨W, hW, hd⟩ := div_some x y (by omega) (by omega) y1 (by omega)
    have h := hd false
    rw [if_neg (by decide), if_neg (by decide)] at h
    have e : quoW x y = W := by unfold quoW; rw [h]; rfl
    rw [e]
    exact ⟨hW, hd⟩
theorem quoW_div (x y : Nat) (x2 : x ≤ 16777216) (y1 : 1 ≤ y) (y2 : y ≤ 16777216) : FloatKind.f64.format.div (floatOfInt .f64 x) (floatOfInt .f64 y) = some (quoW x y) := by
  have := (quoW_spec x y x2 y1 y2).2 false
  rw [if_neg (by decide)] at this
  exact this
theorem quoW_zero (y : Nat) (y1 : 1 ≤ y) (y2 : y ≤ 16777216) : quoW 0 y = 0 := by
  have h := div_zero_l false y y1 (by omega)
  rw [if_neg (by decide), if_neg (by decide)] at h
  unfold quoW; rw [h]; rfl
theorem quoW_pos (x y : Nat) (x1 : 1 ≤ x) (x2 : x ≤ 16777216) (y1 : 1 ≤ y) (y2 : y ≤ 16777216) : 0 < quoW x y := by
  obtain ⟨p, q, pq, hp, hq, n1, n2⟩ := norm_ex x y x1 (by omega) y1 (by omega)
  have d1 := div_ref false x y p q x1 (by omega) y1 (by omega) n1 n2 hp
  rw [if_neg (by decide), if_neg (by decide), quoW_div x y x2 y1 y2] at d1
  have e1 := Option.some.inj d1
  have r2 : 4503599627370496 ≤ rne (x * 2 ^ p * 9007199254740992) (y * 2 ^ q) := rne_ge _ _ _ (by omega) (by omega)
  obtain ⟨R, hR⟩ : ∃ R, rne (x * 2 ^ p * 9007199254740992) (y * 2 ^ q) = R := ⟨_, rfl⟩
  rw [hR] at e1 r2
  rw [e1]; clear e1 d1 hR n1 n2; omega
theorem quoW_same (x y v w : Nat) (x1 : 1 ≤ x) (x2 : x ≤ 16777216) (y1 : 1 ≤ y) (y2 : y ≤ 16777216) (v1 : 1 ≤ v) (v2 : v ≤ 16777216) (w1 : 1 ≤ w) (w2 : w ≤ 16777216) (he : x * w = v * y) : quoW x y = quoW v w := by
  obtain ⟨p, q, pq, hp, hq, n1, n2⟩ := norm_ex x y x1 (by omega) y1 (by omega)
  have a1 : (v * 2 ^ p) * y = (x * 2 ^ p) * w := by
    calc (v * 2 ^ p) * y = v * y * 2 ^ p := by ac_rfl
      _ = x * w * 2 ^ p := by rw [he]
      _ = (x * 2 ^ p) * w := by ac_rfl
  have a2 : (w * 2 ^ q) * y = (y * 2 ^ q) * w := by ac_rfl
  have m1 : v * 2 ^ p < w * 2 ^ q := by
    apply Nat.lt_of_mul_lt_mul_right (a := y)
    rw [a1, a2]; exact Nat.mul_lt_mul_of_pos_right n1 w1
  have m2 : w * 2 ^ q ≤ 2 * (v * 2 ^ p) := by
    apply Nat.le_of_mul_le_mul_right (c := y) _ y1
    have k := Nat.mul_le_mul_right w n2
    rw [a2, Nat.mul_assoc 2 (v * 2 ^ p) y, a1, ← Nat.mul_assoc 2]; exact k
  have d1 := div_ref false x y p q x1 (by omega) y1 (by omega) n1 n2 hp
  have d2 := div_ref false v w p q v1 (by omega) w1 (by omega) m1 m2 hp
  rw [if_neg (by decide), if_neg (by decide), quoW_div x y x2 y1 y2] at d1
  rw [if_neg (by decide), if_neg (by decide), quoW_div v w v2 w1 w2] at d2
  have hr : rne (x * 2 ^ p * 9007199254740992) (y * 2 ^ q) = rne (v * 2 ^ p * 9007199254740992) (w * 2 ^ q) := by
    obtain ⟨K, hK⟩ : ∃ K, (9007199254740992 : Nat) = K := ⟨_, rfl⟩
    rw [hK]
    rw [← rne_scale w (x * 2 ^ p * K) (y * 2 ^ q) w1, ← rne_scale y (v * 2 ^ p * K) (w * 2 ^ q) y1]
    rw [show w * (x * 2 ^ p * K) = x * 2 ^ p * w * K by ac_rfl, ← a1, show y * (v * 2 ^ p * K) = v * 2 ^ p * y * K by ac_rfl, show w * (y * 2 ^ q) = y * (w * 2 ^ q) by ac_rfl]
  rw [Option.some.inj d1, Option.some.inj d2, hr]
theorem quoW_lt (x y v w : Nat) (x2 : x ≤ 16777216) (y1 : 1 ≤ y) (y2 : y ≤ 16777216) (v2 : v ≤ 16777216) (w1 : 1 ≤ w) (w2 : w ≤ 16777216) : quoW x y < quoW v w ↔ x * w < v * y := by
  by_cases hx : x = 0
  · subst hx
    rw [quoW_zero y y1 y2, Nat.zero_mul]
    by_cases hv : v = 0
    · subst hv; rw [quoW_zero w w1 w2, Nat.zero_mul]
    · exact ⟨fun _ => Nat.mul_pos (by omega) y1, fun _ => quoW_pos v w (by omega) v2 w1 w2⟩
  · by_cases hv : v = 0
    · subst hv
      rw [quoW_zero w w1 w2, Nat.zero_mul]
      exact ⟨fun h => by omega, fun h => by omega⟩
    · rcases Nat.lt_trichotomy (x * w) (v * y) with h | h | h
      · have := strict x y v w _ _ (by omega) x2 y1 y2 (by omega) v2 w1 w2 h (quoW_div x y x2 y1 y2) (quoW_div v w v2 w1 w2)
        exact ⟨fun _ => h, fun _ => this⟩
      · rw [quoW_same x y v w (by omega) x2 y1 y2 (by omega) v2 w1 w2 h, h]
        exact ⟨fun h => absurd h (Nat.lt_irrefl _), fun h => absurd h (Nat.lt_irrefl _)⟩
      · have := strict v w x y _ _ (by omega) v2 w1 w2 (by omega) x2 y1 y2 h (quoW_div v w v2 w1 w2) (quoW_div x y x2 y1 y2)
        exact ⟨fun k => absurd k (by omega), fun k => absurd k (by omega)⟩
theorem quoW_pos_iff (x y : Nat) (x2 : x ≤ 16777216) (y1 : 1 ≤ y) (y2 : y ≤ 16777216) (w : Nat) (w1 : 1 ≤ w) : 0 < quoW x y ↔ 0 < x * w := by
  by_cases hx : x = 0
  · subst hx; rw [quoW_zero y y1 y2, Nat.zero_mul]
  · exact ⟨fun _ => Nat.mul_pos (by omega) w1, fun _ => quoW_pos x y (by omega) x2 y1 y2⟩
/-- Less, of two quotients with signs. -/
theorem less_quo (s t : Bool) (x y v w : Nat) (x2 : x ≤ 16777216) (y1 : 1 ≤ y) (y2 : y ≤ 16777216) (v2 : v ≤ 16777216) (w1 : 1 ≤ w) (w2 : w ≤ 16777216) :
    (ordF (sgnW s (quoW x y)) (sgnW t (quoW v w)) == some .lt) = (match s, t with | false, false => decide (x * w < v * y) | true, false => decide (0 < x * w ∨ 0 < v * y) | false, true => false | true, true => decide (v * y < x * w)) := by
  rw [ord_words s t _ _ (quoW_spec x y x2 y1 y2).1 (quoW_spec v w v2 w1 w2).1]
  have e1 := quoW_lt x y v w x2 y1 y2 v2 w1 w2
  have e2 := quoW_lt v w x y v2 w1 w2 x2 y1 y2
  have e3 := quoW_pos_iff x y x2 y1 y2 w w1
  have e4 := quoW_pos_iff v w v2 w1 w2 y y1
  cases s <;> cases t
  · exact decide_eq_decide.2 e1
  · rfl
  · exact decide_eq_decide.2 (or_congr e3 e4)
  · exact decide_eq_decide.2 e2
theorem ord_nan_l (b : Nat) : ordF 9221120237041090560 b = none := by
  show (Ieee.double.read 9221120237041090560).order (Ieee.double.read b) = none
  rw [show Ieee.double.read 9221120237041090560 = .nan false 2251799813685248 from by decide +kernel]
  rfl
theorem ord_nan_r (a : Nat) : ordF a 9221120237041090560 = none := by
  show (Ieee.double.read a).order (Ieee.double.read 9221120237041090560) = none
  rw [show Ieee.double.read 9221120237041090560 = .nan false 2251799813685248 from by decide +kernel]
  cases Ieee.double.read a <;> rfl
theorem ord_inf (s : Bool) (W : Nat) (h : W < 9218868437227405312) : (ordF (sgnW s W) 9218868437227405312 == some .lt) = true := by
  obtain ⟨m, K, r1, _⟩ := read_word s W h
  show ((Ieee.double.read _).order (Ieee.double.read 9218868437227405312) == _) = _
  rw [r1, show Ieee.double.read 9218868437227405312 = .infinity false from by decide +kernel]
  rfl
end Go.Proofs.Ytdhingmjnhhjnaa.My
