/- The order of two words of the format is the order of the words below their signs. -/
import Derived.Test.YtdhingmjnhhjnaaFloatK
namespace Go.Proofs.Ytdhingmjnhhjnaa.My
set_option linter.unusedVariables false
set_option linter.unusedSimpArgs false
/-- A word with a sign. -/
def sgnW (s : Bool) (W : Nat) : Nat := if s then W + 9223372036854775808 else W
theorem read_word (s : Bool) (W : Nat) (h : W < 9218868437227405312) : ∃ m K : Nat, Ieee.double.read (sgnW s W) = .number s m (-1074 + (K : Int)) ∧ W = m + K * 4503599627370496 ∧ m < 9007199254740992 ∧ (1 ≤ K → 4503599627370496 ≤ m) := by
  have e1 : sgnW s W % 9223372036854775808 = W := by unfold sgnW; cases s <;> simp <;> omega
  have e2 : (sgnW s W / 9223372036854775808 % 2 == 1) = s := by unfold sgnW; cases s <;> simp <;> omega
  unfold Ieee.Format.read
  rw [dbl_sw, dbl_bin, dbl_inf, dbl_lp, e1, e2]
  simp only []
  by_cases hb : W < 4503599627370496
  · rw [if_pos hb]
    exact ⟨W, 0, by rw [Int.ofNat_zero, Int.add_zero], by omega, by omega, by omega⟩
  · rw [if_neg hb, if_pos h]
    exact ⟨4503599627370496 + W % 4503599627370496, W / 4503599627370496 - 1, rfl, by omega, by omega, by omega⟩
theorem mul_lt_of_pow (m n d : Nat) (h1 : m < 9007199254740992) (h2 : 4503599627370496 ≤ n) (hd : 1 ≤ d) : m < n * 2 ^ d := by
  have h3 : 2 ^ 1 ≤ 2 ^ d := Nat.pow_le_pow_right (by decide) hd
  have h4 : n * 2 ^ 1 ≤ n * 2 ^ d := Nat.mul_le_mul_left _ h3
  omega
theorem low_words (m n K L : Nat) (m2 : m < 9007199254740992) (n2 : n < 9007199254740992) (hK : 1 ≤ K → 4503599627370496 ≤ m) (hL : 1 ≤ L → 4503599627370496 ≤ n) :
    (m * 2 ^ (K - min K L) < n * 2 ^ (L - min K L) ↔ m + K * 4503599627370496 < n + L * 4503599627370496) := by
  rcases Nat.lt_trichotomy K L with h | h | h
  · have e := mul_lt_of_pow m n (L - K) m2 (hL (by omega)) (by omega)
    have hn := hL (by omega)
    rw [Nat.min_eq_left (by omega), Nat.sub_self, Nat.pow_zero, Nat.mul_one]
    exact ⟨fun _ => by omega, fun _ => e⟩
  · subst h
    rw [Nat.min_self, Nat.sub_self, Nat.pow_zero, Nat.mul_one, Nat.mul_one]
    omega
  · have e := mul_lt_of_pow n m (K - L) n2 (hK (by omega)) (by omega)
    have hn := hK (by omega)
    rw [Nat.min_eq_right (by omega), Nat.sub_self, Nat.pow_zero, Nat.mul_one]
    exact ⟨fun _ => by omega, fun _ => by omega⟩
theorem cmp_lt (x y : Int) : (some (compare x y) == some Ordering.lt) = decide (x < y) := by
  by_cases h : x < y
  · simp [compare, compareOfLessAndEq, h]
  · by_cases h2 : x = y
    · simp [compare, compareOfLessAndEq, h, h2]
    · simp [compare, compareOfLessAndEq, h, h2]
/-- Less, of two words with signs. -/
theorem ord_words (s t : Bool) (V W : Nat) (hV : V < 9218868437227405312) (hW : W < 9218868437227405312) :
    (ordF (sgnW s V) (sgnW t W) == some .lt) = (match s, t with | false, false => decide (V < W) | true, false => decide (0 < V ∨ 0 < W) | false, true => false | true, true => decide (W < V)) := by
  obtain ⟨m, K, r1, eV, m2, hK⟩ := read_word s V hV
  obtain ⟨n, L, r2, eW, n2, hL⟩ := read_word t W hW
  show ((Ieee.double.read _).order (Ieee.double.read _) == _) = _
  rw [r1, r2]
  unfold Ieee.Datum.order
  simp only []
  have hmn : min (-1074 + (K : Int)) (-1074 + (L : Int)) = -1074 + ((min K L : Nat) : Int) := by omega
  rw [hmn, show (-1074 + (K : Int) - (-1074 + ((min K L : Nat) : Int))).toNat = K - min K L by omega, show (-1074 + (L : Int) - (-1074 + ((min K L : Nat) : Int))).toNat = L - min K L by omega]
  have l1 := low_words m n K L m2 n2 hK hL
  have l2 := low_words n m L K n2 m2 hL hK
  rw [Nat.min_comm L K] at l2
  rw [← eV, ← eW] at l1 l2
  have z1 : 0 < m * 2 ^ (K - min K L) ↔ 0 < V := by
    rw [Nat.mul_pos_iff_of_pos_right (Nat.two_pow_pos _)]
    constructor
    · intro h; omega
    · intro h
      by_cases hk : 1 ≤ K
      · have := hK hk; omega
      · have : K = 0 := by omega
        subst this; omega
  have z2 : 0 < n * 2 ^ (L - min K L) ↔ 0 < W := by
    rw [Nat.mul_pos_iff_of_pos_right (Nat.two_pow_pos _)]
    constructor
    · intro h; omega
    · intro h
      by_cases hk : 1 ≤ L
      · have := hL hk; omega
      · have : L = 0 := by omega
        subst this; omega
  unfold Ieee.signed
  rw [Nat.shiftLeft_eq, Nat.shiftLeft_eq]
  clear hmn eV eW r1 r2 hK hL
  generalize m * 2 ^ (K - min K L) = A at *
  generalize n * 2 ^ (L - min K L) = B at *
  clear m2 n2
  cases s <;> cases t
  · simp only [Bool.false_eq_true, if_false]
    rw [cmp_lt]; rw [decide_eq_decide, ← l1]; omega
  · simp only [Bool.false_eq_true, if_false, if_true]
    rw [cmp_lt]; rw [decide_eq_false]; omega
  · simp only [Bool.false_eq_true, if_false, if_true]
    rw [cmp_lt]; rw [decide_eq_decide, ← z1, ← z2]; omega
  · simp only [if_true]
    rw [cmp_lt]; rw [decide_eq_decide, ← l2]; omega
end Go.Proofs.Ytdhingmjnhhjnaa.My
