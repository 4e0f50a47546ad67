/- Plain facts on the bits of floats: what is a number, what is without end, what is none. -/
import Derived.Laws.FloatArith
namespace Go.Proofs.Ytdhingmjnhhjnaa.My
set_option linter.unusedVariables false
set_option linter.unusedSimpArgs false
def ordF (a b : Nat) : Option Ordering := FloatKind.f64.format.order a b
/-- 0 a number, 1 without end, 2 none. -/
def kindF (b : Nat) : Nat := if b % 9223372036854775808 < 9218868437227405312 then 0 else if b % 9223372036854775808 = 9218868437227405312 then 1 else 2
theorem dbl_sw : Ieee.double.signWeight = 9223372036854775808 := by decide +kernel
theorem dbl_bin : Ieee.double.binade = 4503599627370496 := by decide +kernel
theorem dbl_inf : Ieee.double.infRung = 9218868437227405312 := by decide +kernel
theorem dbl_lp : Ieee.double.leastPlace = -1074 := by decide +kernel
theorem cmp_self (x : Int) : compare x x = .eq := by simp [compare, compareOfLessAndEq]
/-- What bits read as. -/
theorem read_cases (b : Nat) : (kindF b = 0 ∧ ∃ s m p, Ieee.double.read b = .number s m p) ∨ (kindF b = 1 ∧ ∃ s, Ieee.double.read b = .infinity s) ∨ (kindF b = 2 ∧ ∃ s t, Ieee.double.read b = .nan s t) := by
  unfold Ieee.Format.read kindF
  simp only [dbl_sw, dbl_bin, dbl_inf]
  by_cases h1 : b % 9223372036854775808 < 4503599627370496
  · left; rw [if_pos (by omega), if_pos h1]; exact ⟨rfl, _, _, _, rfl⟩
  · by_cases h2 : b % 9223372036854775808 < 9218868437227405312
    · left; rw [if_pos h2, if_neg h1, if_pos h2]; exact ⟨rfl, _, _, _, rfl⟩
    · by_cases h3 : b % 9223372036854775808 = 9218868437227405312
      · right; left; rw [if_neg h2, if_pos h3, if_neg h1, if_neg h2, if_pos h3]; exact ⟨rfl, _, rfl⟩
      · right; right; rw [if_neg h2, if_neg h3, if_neg h1, if_neg h2, if_neg h3]; exact ⟨rfl, _, _, rfl⟩
theorem ord_self (b : Nat) : (ordF b b != some .eq) = decide (kindF b = 2) := by
  unfold ordF Ieee.Format.order
  show ((Ieee.double.read b).order (Ieee.double.read b) != some .eq) = _
  rcases read_cases b with ⟨h, s, m, p, e⟩ | ⟨h, s, e⟩ | ⟨h, s, t, e⟩
  · rw [e, h]; simp [Ieee.Datum.order, cmp_self]
  · rw [e, h]; cases s <;> simp [Ieee.Datum.order] <;> decide
  · rw [e, h]; simp [Ieee.Datum.order]
theorem read_num (b : Nat) (hb : b < 9223372036854775808) (h : kindF b = 0) : ∃ (m : Nat) (p : Int), Ieee.double.read b = .number false m p ∧ m ≤ 9007199254740991 ∧ p ≤ 971 := by
  have hm : b % 9223372036854775808 = b := Nat.mod_eq_of_lt hb
  have hs : (b / 9223372036854775808 % 2 == 1) = false := by rw [Nat.div_eq_of_lt hb]; rfl
  unfold kindF at h
  rw [hm] at h
  have h2 : b < 9218868437227405312 := by
    by_cases q : b < 9218868437227405312
    · exact q
    · rw [if_neg q] at h; split at h <;> omega
  unfold Ieee.Format.read
  simp only [dbl_sw, dbl_bin, dbl_inf, dbl_lp, hm, hs]
  by_cases h1 : b < 4503599627370496
  · rw [if_pos h1]; exact ⟨_, _, rfl, by omega, by omega⟩
  · rw [if_neg h1, if_pos h2]; exact ⟨_, _, rfl, by omega, by omega⟩
theorem read_max : Ieee.double.read 9218868437227405311 = .number false 9007199254740991 971 := by decide +kernel
theorem shl_eq (m k : Nat) : ((m <<< k : Nat) : Int) = ((m * 2 ^ k : Nat) : Int) := by rw [Nat.shiftLeft_eq]
theorem cmp_le (x y : Int) (h : x ≤ y) : (some (compare x y) == some Ordering.gt) = false := by
  by_cases e : x = y
  · subst e; rw [cmp_self]; rfl
  · have : compare x y = .lt := by simp only [compare, compareOfLessAndEq]; rw [if_pos (by omega)]
    rw [this]; rfl
theorem ord_max (b : Nat) (hb : b < 9223372036854775808) : (ordF b 9218868437227405311 == some .gt) = decide (kindF b = 1) := by
  unfold ordF Ieee.Format.order
  show ((Ieee.double.read b).order (Ieee.double.read 9218868437227405311) == some .gt) = _
  rw [read_max]
  rcases read_cases b with ⟨h, _⟩ | ⟨h, s, e⟩ | ⟨h, s, t, e⟩
  · obtain ⟨m, p, e, hm, hp⟩ := read_num b hb h
    rw [e, h]
    simp only [Ieee.Datum.order]
    refine (cmp_le _ _ ?_).trans (by decide)
    unfold Ieee.signed
    rw [if_neg (by decide), if_neg (by decide), shl_eq, shl_eq]
    have e1 : (p - min p 971).toNat = 0 := by omega
    rw [e1]
    have h2 : 1 ≤ 2 ^ (971 - min p 971).toNat := Nat.one_le_two_pow
    have h3 := Nat.mul_le_mul_left 9007199254740991 h2
    generalize 2 ^ (971 - min p 971).toNat = q at *
    omega
  · rw [e, h]
    have hs : s = false := by
      have hq : (b / 9223372036854775808 % 2 == 1) = false := by rw [Nat.div_eq_of_lt hb]; rfl
      unfold Ieee.Format.read at e
      simp only [dbl_sw, hq] at e
      split at e
      · cases e
      · split at e
        · cases e
        · split at e
          · cases e; rfl
          · cases e
    subst hs
    decide
  · rw [e, h]; simp [Ieee.Datum.order]
end Go.Proofs.Ytdhingmjnhhjnaa.My
