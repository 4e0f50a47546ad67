/- The quotient of two whole numbers: what the format's division answers, in any normal form of the fraction. -/
import Derived.Test.YtdhingmjnhhjnaaFloatD
namespace Go.Proofs.Ytdhingmjnhhjnaa.My
set_option linter.unusedVariables false
set_option linter.unusedSimpArgs false
theorem norm_le (a b p q p' q' : Nat) (h1 : a * 2 ^ p < b * 2 ^ q) (h2 : b * 2 ^ q ≤ 2 * (a * 2 ^ p)) (h1' : a * 2 ^ p' < b * 2 ^ q') (h2' : b * 2 ^ q' ≤ 2 * (a * 2 ^ p')) : p' + q ≤ p + q' := by
  apply Nat.le_of_not_lt
  intro h
  have e1 : (a * 2 ^ p') * (b * 2 ^ q) = a * b * 2 ^ (p' + q) := by rw [Nat.pow_add]; ac_rfl
  have e2 : (a * 2 ^ p) * (b * 2 ^ q') = a * b * 2 ^ (p + q') := by rw [Nat.pow_add]; ac_rfl
  have e3 : a * b * 2 ^ (p + q' + 1) ≤ a * b * 2 ^ (p' + q) := Nat.mul_le_mul_left _ (Nat.pow_le_pow_right (by decide) h)
  rw [Nat.pow_succ, ← Nat.mul_assoc, ← e2, ← e1] at e3
  have e4 : (a * 2 ^ p') * (b * 2 ^ q) ≤ (a * 2 ^ p') * (2 * (a * 2 ^ p)) := Nat.mul_le_mul_left _ h2
  have e5 : (a * 2 ^ p) * (a * 2 ^ p') < (a * 2 ^ p) * (b * 2 ^ q') := Nat.mul_lt_mul_of_pos_left h1' (by omega)
  have e6 : (a * 2 ^ p') * (2 * (a * 2 ^ p)) = 2 * ((a * 2 ^ p) * (a * 2 ^ p')) := by ac_rfl
  rw [e6] at e4
  omega
theorem norm_eq (a b p q p' q' : Nat) (h1 : a * 2 ^ p < b * 2 ^ q) (h2 : b * 2 ^ q ≤ 2 * (a * 2 ^ p)) (h1' : a * 2 ^ p' < b * 2 ^ q') (h2' : b * 2 ^ q' ≤ 2 * (a * 2 ^ p')) : p' + q = p + q' :=
  Nat.le_antisymm (norm_le a b p q p' q' h1 h2 h1' h2') (norm_le a b p' q' p q h1' h2' h1 h2)
theorem norm_rne (a b p q p' q' K : Nat) (h : p' + q = p + q') : rne (a * 2 ^ p * K) (b * 2 ^ q) = rne (a * 2 ^ p' * K) (b * 2 ^ q') := by
  rw [← rne_scale (2 ^ q') (a * 2 ^ p * K) (b * 2 ^ q) (Nat.two_pow_pos _), ← rne_scale (2 ^ q) (a * 2 ^ p' * K) (b * 2 ^ q') (Nat.two_pow_pos _)]
  have e1 : 2 ^ q' * (a * 2 ^ p * K) = a * K * 2 ^ (p + q') := by rw [Nat.pow_add]; ac_rfl
  have e2 : 2 ^ q * (a * 2 ^ p' * K) = a * K * 2 ^ (p' + q) := by rw [Nat.pow_add]; ac_rfl
  rw [e1, e2, h, show 2 ^ q' * (b * 2 ^ q) = 2 ^ q * (b * 2 ^ q') by ac_rfl]
theorem log_52 (M : Nat) (m1 : 4503599627370496 ≤ M) (m2 : M < 9007199254740992) : M.log2 = 52 := by
  have h1 : M.log2 < 53 := (Nat.log2_lt (by omega)).2 (by rw [pow53]; exact m2)
  have h2 : ¬ M.log2 < 52 := fun h => by have := (Nat.log2_lt (k := 52) (by omega)).1 h; rw [pow52] at this; omega
  omega
theorem log_le (n k : Nat) (h0 : n ≠ 0) (h : n < 2 ^ (k + 1)) (h' : 2 ^ k ≤ n) : n.log2 = k := by
  have h1 : n.log2 < k + 1 := (Nat.log2_lt h0).2 h
  have h2 : ¬ n.log2 < k := fun h => by have := (Nat.log2_lt h0).1 h; omega
  omega
theorem rne_le (P B K : Nat) (hB : 0 < B) (h : P ≤ B * K) : rne P B ≤ K := by
  unfold rne
  have hd := Nat.div_add_mod P B
  have hr : P % B < B := Nat.mod_lt _ hB
  by_cases hk : P / B < K
  · split <;> omega
  · have h1 : B * K ≤ B * (P / B) := Nat.mul_le_mul_left _ (by omega)
    have h2 : P / B ≤ K := Nat.le_of_mul_le_mul_left (by omega) hB
    have h3 : P % B = 0 := by omega
    rw [h3, if_neg (by omega)]; omega
theorem rne_ge (P B K : Nat) (hB : 0 < B) (h : B * K ≤ P) : K ≤ rne P B := by
  have : K ≤ P / B := (Nat.le_div_iff_mul_le hB).2 (by rw [Nat.mul_comm]; exact h)
  unfold rne; omega
/-- The written quotient of two moved numbers. -/
theorem near_quot (s : Bool) (mag P N k : Nat) (place : Int) (hN : 0 < N) (hk : 1 ≤ k) (k2 : k ≤ 2) (hm : mag = 2 * (P / N) + (P % N != 0).toNat) (m1 : 2 ^ (k + 53) ≤ mag) (m2 : mag < 2 ^ (k + 54)) (t : Nat)
    (hp : place + k + 1 + 1074 = t) (ht : t ≤ 1100) (hr : rne P (N * 2 ^ k) ≤ 9007199254740992) :
    Ieee.Format.nearest Ieee.double s mag place = if s then t * 4503599627370496 + rne P (N * 2 ^ k) + 9223372036854775808 else t * 4503599627370496 + rne P (N * 2 ^ k) := by
  have hl : mag.log2 = k + 53 := log_le mag (k + 53) (by have := Nat.two_pow_pos (k + 53); omega) m2 m1
  unfold Ieee.Format.nearest
  rw [if_neg (by have := Nat.two_pow_pos (k + 53); omega), dbl_bin, dbl_inf, dbl_lp, hl]
  have hf : (Ieee.double.fractionBits : Int) = 52 := rfl
  have hlast : max (place + ((k + 53 : Nat) : Int) - Ieee.double.fractionBits) (-1074) = (t : Int) - 1074 := by rw [hf]; omega
  rw [hlast]
  simp only []
  have hc : ∀ n d, Ieee.Toward.even.cut s n d = Ieee.Toward.even.cut false n d := fun n d => rfl
  rw [hc, show (place - ((t : Int) - 1074)).toNat = 0 by omega, show ((t : Int) - 1074 - place).toNat = k + 1 by omega, Nat.shiftLeft_zero, cut_rne _ _ (by rw [hl]; omega), hm, rne_sticky P N k hN hk]
  generalize rne P (N * 2 ^ k) = R at *
  rw [show ((t : Int) - 1074 - -1074).toNat = t by omega, Nat.min_eq_left (by omega)]
  unfold Ieee.Format.word
  rw [dbl_sw]
  cases s
  · simp only [Bool.false_eq_true, if_false]
  · simp only [if_true]; omega
theorem div_moved (s : Bool) (M N u v : Nat) (x y : Nat) (hx : Ieee.double.read x = .number s M (1 - u)) (hy : Ieee.double.read y = .number false N (1 - v)) (hu : u ≤ 53) (hv : v ≤ 53)
    (m1 : 4503599627370496 ≤ M) (m2 : M < 9007199254740992) (n1 : 4503599627370496 ≤ N) (n2 : N < 9007199254740992) :
    FloatKind.f64.format.div x y = some (
      if N ≤ M then (if s then (v + 1022 - u) * 4503599627370496 + rne (M * 18014398509481984) (N * 4) + 9223372036854775808 else (v + 1022 - u) * 4503599627370496 + rne (M * 18014398509481984) (N * 4))
      else (if s then (v + 1021 - u) * 4503599627370496 + rne (M * 18014398509481984) (N * 2) + 9223372036854775808 else (v + 1021 - u) * 4503599627370496 + rne (M * 18014398509481984) (N * 2))) := by
  show ((Ieee.double.read x).quotient 54 (Ieee.double.read y)).map Ieee.double.write = _
  rw [hx, hy]
  unfold Ieee.Datum.quotient
  simp only []
  rw [if_neg (by omega), log_52 M m1 m2, log_52 N n1 n2, show 54 + 52 - 52 = 54 from rfl, Nat.shiftLeft_eq, show 2 ^ 54 = 18014398509481984 from by decide +kernel, Bool.xor_false]
  show some (Ieee.Format.nearest Ieee.double s _ _) = _
  have hst : (M * 18014398509481984 % N != 0).toNat ≤ 1 := Bool.toNat_le _
  have hd := Nat.div_add_mod (M * 18014398509481984) N
  have hr : M * 18014398509481984 % N < N := Nat.mod_lt _ (by omega)
  congr 1
  by_cases hc : N ≤ M
  · rw [if_pos hc]
    have q1 : 18014398509481984 ≤ M * 18014398509481984 / N := (Nat.le_div_iff_mul_le (by omega)).2 (by rw [Nat.mul_comm]; exact Nat.mul_le_mul_right _ hc)
    have q2 : M * 18014398509481984 / N < 36028797018963968 := (Nat.div_lt_iff_lt_mul (by omega)).2 (by omega)
    refine near_quot s _ _ N 2 _ (by omega) (by decide) (by decide) rfl ?_ ?_ (v + 1022 - u) ?_ (by omega) (rne_le _ _ _ (by omega) (by omega))
    · show 36028797018963968 ≤ _; omega
    · show _ < 72057594037927936; omega
    · omega
  · rw [if_neg hc]
    have q1 : 9007199254740992 ≤ M * 18014398509481984 / N := (Nat.le_div_iff_mul_le (by omega)).2 (by omega)
    have q2 : M * 18014398509481984 / N < 18014398509481984 := (Nat.div_lt_iff_lt_mul (by omega)).2 (by rw [Nat.mul_comm 18014398509481984]; exact Nat.mul_lt_mul_of_pos_right (by omega) (by decide))
    refine near_quot s _ _ N 1 _ (by omega) (by decide) (by decide) rfl ?_ ?_ (v + 1021 - u) ?_ (by omega) (rne_le _ _ _ (by omega) (by omega))
    · show 18014398509481984 ≤ _; omega
    · show _ < 36028797018963968; omega
    · omega
/-- The quotient of two whole numbers, of the fraction in the form that is at least a half and below 1. -/
theorem div_ref (s : Bool) (a b p q : Nat) (a1 : 1 ≤ a) (a2 : a ≤ 9007199254740992) (b1 : 1 ≤ b) (b2 : b ≤ 9007199254740992) (h1 : a * 2 ^ p < b * 2 ^ q) (h2 : b * 2 ^ q ≤ 2 * (a * 2 ^ p)) (hp : p ≤ 100) :
    FloatKind.f64.format.div (if s then floatOfInt .f64 a + 9223372036854775808 else floatOfInt .f64 a) (floatOfInt .f64 b) = some (if s then (q + 1021 - p) * 4503599627370496 + rne (a * 2 ^ p * 9007199254740992) (b * 2 ^ q) + 9223372036854775808 else (q + 1021 - p) * 4503599627370496 + rne (a * 2 ^ p * 9007199254740992) (b * 2 ^ q)) := by
  obtain ⟨M, u, eM, hu, m1, m2, fa⟩ := near_int a a1 a2
  obtain ⟨N, v, eN, hv, n1, n2, fb⟩ := near_int b b1 b2
  rw [fa, fb]
  have rb := read_int N v false hv n1 n2
  rw [if_neg (by decide)] at rb
  rw [div_moved s M N u v _ _ (read_int M u s hu m1 m2) rb hu hv m1 m2 n1 n2]
  congr 1
  by_cases hc : N ≤ M
  · rw [if_pos hc]
    have k1 : a * 2 ^ u < b * 2 ^ (v + 1) := by rw [Nat.pow_succ, ← Nat.mul_assoc, ← eM, ← eN]; omega
    have k2 : b * 2 ^ (v + 1) ≤ 2 * (a * 2 ^ u) := by rw [Nat.pow_succ, ← Nat.mul_assoc, ← eM, ← eN]; omega
    have ee := norm_eq a b u (v + 1) p q k1 k2 h1 h2
    rw [norm_rne a b p q u (v + 1) 9007199254740992 (by omega), Nat.pow_succ, ← Nat.mul_assoc, ← eM, ← eN, show 2 * M * 9007199254740992 = M * 18014398509481984 by omega, show 2 * N * 2 = N * 4 by omega, show q + 1021 - p = v + 1022 - u by omega]
  · rw [if_neg hc]
    have k1 : a * 2 ^ u < b * 2 ^ v := by rw [← eM, ← eN]; omega
    have k2 : b * 2 ^ v ≤ 2 * (a * 2 ^ u) := by rw [← eM, ← eN]; omega
    have ee := norm_eq a b u v p q k1 k2 h1 h2
    rw [norm_rne a b p q u v 9007199254740992 (by omega), ← eM, ← eN, show 2 * M * 9007199254740992 = M * 18014398509481984 by omega, show 2 * N = N * 2 by omega, show q + 1021 - p = v + 1021 - u by omega]
end Go.Proofs.Ytdhingmjnhhjnaa.My
