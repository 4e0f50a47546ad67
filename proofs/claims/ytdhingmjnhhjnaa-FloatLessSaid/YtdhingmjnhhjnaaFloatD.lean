/- The quotient of two whole numbers as the format divides them: rounded once, from the exact fraction. -/
import Derived.Test.YtdhingmjnhhjnaaFloatP
namespace Go.Proofs.Ytdhingmjnhhjnaa.My
set_option linter.unusedVariables false
set_option linter.unusedSimpArgs false
/-- A fraction made whole: to the nearest, between two the even one. -/
def rne (P B : Nat) : Nat := P / B + (if B < 2 * (P % B) ∨ (B = 2 * (P % B) ∧ P / B % 2 = 1) then 1 else 0)
theorem rne_scale (c P B : Nat) (hc : 0 < c) : rne (c * P) (c * B) = rne P B := by
  unfold rne
  rw [Nat.mul_div_mul_left P B hc, Nat.mul_mod_mul_left]
  have h1 : c * B < 2 * (c * (P % B)) ↔ B < 2 * (P % B) := by
    rw [Nat.mul_left_comm]; exact Nat.mul_lt_mul_left hc
  have h2 : c * B = 2 * (c * (P % B)) ↔ B = 2 * (P % B) := by
    rw [Nat.mul_left_comm]; exact Nat.mul_right_inj (by omega)
  simp only [h1, h2]
theorem ite_iff {p q : Prop} [Decidable p] [Decidable q] (h : p ↔ q) : (if p then 1 else 0 : Nat) = if q then 1 else 0 := by
  by_cases hp : p
  · rw [if_pos hp, if_pos (h.1 hp)]
  · rw [if_neg hp, if_neg (fun hq => hp (h.2 hq))]
theorem rne_sticky (P N k : Nat) (hN : 0 < N) (hk : 1 ≤ k) : rne (2 * (P / N) + (P % N != 0).toNat) (2 ^ (k + 1)) = rne P (N * 2 ^ k) := by
  obtain ⟨G, hG, hG0⟩ : ∃ G, 2 ^ k = 2 * G ∧ 0 < G := ⟨2 ^ (k - 1), by rw [← Nat.pow_succ', show (k - 1).succ = k by omega], Nat.two_pow_pos _⟩
  have hr : P % N < N := Nat.mod_lt _ hN
  have eP : P % (N * 2 ^ k) = P % N + N * (P / N % 2 ^ k) := Nat.mod_mul
  have dP : P / (N * 2 ^ k) = P / N / 2 ^ k := (Nat.div_div_eq_div_mul P N (2 ^ k)).symm
  unfold rne
  rw [eP, dP, Nat.pow_succ, Nat.mul_comm (2 ^ k) 2, hG]
  generalize P % N = r at *
  generalize P / N = q at *
  have hs : (r != 0).toNat = if r = 0 then 0 else 1 := by by_cases h : r = 0 <;> simp [h]
  rw [hs]
  have hq := Nat.div_add_mod q (2 * G)
  have hsl : q % (2 * G) < 2 * G := Nat.mod_lt _ (by omega)
  generalize q % (2 * G) = s at *
  have e1 : (2 * q + if r = 0 then 0 else 1) / (2 * (2 * G)) = q / (2 * G) := by
    rw [← Nat.div_div_eq_div_mul]; congr 1; split <;> omega
  have e2 : (2 * q + if r = 0 then 0 else 1) % (2 * (2 * G)) = 2 * s + if r = 0 then 0 else 1 := by
    have := Nat.div_add_mod (2 * q + if r = 0 then 0 else 1) (2 * (2 * G))
    rw [e1, Nat.mul_assoc 2 (2 * G)] at this
    omega
  rw [e1, e2]
  congr 1
  have hm : ∀ x, N * x ≤ N * G ↔ x ≤ G := fun x => Nat.mul_le_mul_left_iff hN
  have hs2 : N * (2 * G) = 2 * (N * G) := Nat.mul_left_comm _ _ _
  rw [hs2]
  by_cases h0 : r = 0
  · subst h0
    have a1 : N * G < N * s ↔ G < s := Nat.mul_lt_mul_left hN
    have a2 : N * G = N * s ↔ G = s := Nat.mul_right_inj (by omega)
    simp only [if_true]
    refine ite_iff (or_congr ?_ (and_congr ?_ Iff.rfl))
    · rw [show (2 * (N * G) < 2 * (0 + N * s)) ↔ N * G < N * s by omega, a1]; omega
    · rw [show (2 * (N * G) = 2 * (0 + N * s)) ↔ N * G = N * s by omega, a2]; omega
  · simp only [if_neg h0]
    refine ite_iff (or_congr ?_ (and_congr ?_ Iff.rfl))
    · constructor
      · intro h
        have : N * G ≤ N * s := Nat.mul_le_mul_left N (by omega)
        omega
      · intro h
        by_cases hh : G ≤ s
        · omega
        · have : N * (s + 1) ≤ N * G := Nat.mul_le_mul_left N (by omega)
          rw [Nat.mul_add] at this; omega
    · constructor
      · intro h; omega
      · intro h
        exfalso
        by_cases hh : G ≤ s
        · have : N * G ≤ N * s := Nat.mul_le_mul_left N hh
          omega
        · have : N * (s + 1) ≤ N * G := Nat.mul_le_mul_left N (by omega)
          rw [Nat.mul_add] at this; omega
theorem cut_rne (n d : Nat) (h : d ≤ n.log2 + 2) : Ieee.Toward.even.cut false n d = rne n (2 ^ d) := by
  have e : min d (n.log2 + 2) = d := Nat.min_eq_left h
  unfold Ieee.Toward.cut rne
  rw [e, Nat.one_shiftLeft]
  simp only []
  congr 1
  by_cases h1 : 2 ^ d < 2 * (n % 2 ^ d)
  · simp [h1]
  · by_cases h2 : 2 ^ d = 2 * (n % 2 ^ d)
    · by_cases h3 : n / 2 ^ d % 2 = 1
      · rw [if_pos (Or.inr ⟨h2, h3⟩), ← h2]; simp [h3]
      · rw [if_neg (by rintro (h | ⟨_, h⟩); exact h1 h; exact h3 h), decide_eq_false h1]
        simp [h3]
    · rw [if_neg (by rintro (h | ⟨h, _⟩); exact h1 h; exact h2 h), decide_eq_false h1, beq_eq_false_iff_ne.2 h2]
      rfl
theorem rne_one (n : Nat) : rne n 1 = n := by unfold rne; simp [Nat.mod_one]
/-- A whole number in the format: its digits moved to the highest place. -/
theorem near_max : floatOfInt .f64 (9007199254740992 : Nat) = (1075 - 0) * 4503599627370496 + 4503599627370496 := by decide +kernel
theorem pow52 : 2 ^ 52 = 4503599627370496 := by decide +kernel
theorem pow53 : 2 ^ 53 = 9007199254740992 := by decide +kernel
theorem near_eq (a : Nat) : floatOfInt .f64 a = Ieee.Format.nearest Ieee.double false a 0 := by
  show Ieee.Format.nearest Ieee.double (decide ((a : Int) < 0)) (a : Int).natAbs 0 = _
  rw [show decide ((a : Int) < 0) = false by simp, Int.natAbs_natCast]
theorem near_low (a L : Nat) (h0 : a ≠ 0) (hL : a.log2 = L) (h : L ≤ 52) (hM : a * 2 ^ (52 - L) < 9007199254740992) : Ieee.Format.nearest Ieee.double false a 0 = (L + 1022) * 4503599627370496 + a * 2 ^ (52 - L) := by
  unfold Ieee.Format.nearest
  rw [if_neg h0, dbl_bin, dbl_inf, dbl_lp, hL]
  have hf : (Ieee.double.fractionBits : Int) = 52 := rfl
  have hlast : max ((0 : Int) + L - Ieee.double.fractionBits) (-1074) = (L : Int) - 52 := by rw [hf]; omega
  rw [hlast]
  simp only []
  rw [show ((0 : Int) - ((L : Int) - 52)).toNat = 52 - L by omega, show ((L : Int) - 52 - 0).toNat = 0 by omega, cut_rne _ _ (by omega), Nat.pow_zero, rne_one, Nat.shiftLeft_eq]
  generalize a * 2 ^ (52 - L) = M at *
  rw [show ((L : Int) - 52 - -1074).toNat = L + 1022 by omega, Nat.min_eq_left (by omega)]
  unfold Ieee.Format.word
  rw [if_neg (by decide)]
theorem near_int (a : Nat) (h1 : 1 ≤ a) (h2 : a ≤ 9007199254740992) : ∃ M u : Nat, 2 * M = a * 2 ^ u ∧ u ≤ 53 ∧ 4503599627370496 ≤ M ∧ M < 9007199254740992 ∧ floatOfInt .f64 a = (1075 - u) * 4503599627370496 + M := by
  by_cases hm : a = 9007199254740992
  · subst hm
    exact ⟨4503599627370496, 0, by omega, by omega, by omega, by omega, near_max⟩
  have hlt : a < 9007199254740992 := by omega
  have hL : a.log2 < 53 := (Nat.log2_lt (by omega)).2 (by rw [pow53]; exact hlt)
  have l1 : 2 ^ a.log2 ≤ a := Nat.log2_self_le (by omega)
  have l2 : a < 2 ^ (a.log2 + 1) := Nat.lt_log2_self
  obtain ⟨L, hLe⟩ : ∃ L, a.log2 = L := ⟨_, rfl⟩
  rw [hLe] at hL l1 l2
  have b1 : 2 ^ L * 2 ^ (52 - L) = 4503599627370496 := by rw [← Nat.pow_add, show L + (52 - L) = 52 by omega, pow52]
  have b2 : 2 ^ (L + 1) * 2 ^ (52 - L) = 9007199254740992 := by rw [← Nat.pow_add, show L + 1 + (52 - L) = 53 by omega, pow53]
  have m1 := Nat.mul_le_mul_right (2 ^ (52 - L)) l1
  have m2 := Nat.mul_lt_mul_of_pos_right l2 (Nat.two_pow_pos (52 - L))
  rw [b1] at m1
  rw [b2] at m2
  refine ⟨a * 2 ^ (52 - L), 53 - L, ?_, by omega, m1, m2, ?_⟩
  · rw [show 53 - L = (52 - L) + 1 by omega, Nat.pow_succ]; simp only [Nat.mul_comm, Nat.mul_left_comm]
  · rw [near_eq, near_low a L (by omega) hLe (by omega) m2]
    congr 2
    omega
theorem read_int (M u : Nat) (s : Bool) (hu : u ≤ 53) (m1 : 4503599627370496 ≤ M) (m2 : M < 9007199254740992) :
    Ieee.double.read (if s then (1075 - u) * 4503599627370496 + M + 9223372036854775808 else (1075 - u) * 4503599627370496 + M) = .number s M (1 - u) := by
  have e0 : ∀ X, X < 9223372036854775808 → (if s then X + 9223372036854775808 else X) % 9223372036854775808 = X ∧ ((if s then X + 9223372036854775808 else X) / 9223372036854775808 % 2 == 1) = s := by
    intro X hX
    cases s
    · exact ⟨by simp; omega, by simp; omega⟩
    · exact ⟨by simp; omega, by simp; omega⟩
  obtain ⟨e1, e2⟩ := e0 ((1075 - u) * 4503599627370496 + M) (by omega)
  unfold Ieee.Format.read
  rw [dbl_sw, dbl_bin, dbl_inf, dbl_lp, e1, e2]
  simp only []
  rw [if_neg (by omega), if_pos (by omega)]
  congr 1 <;> omega
end Go.Proofs.Ytdhingmjnhhjnaa.My
