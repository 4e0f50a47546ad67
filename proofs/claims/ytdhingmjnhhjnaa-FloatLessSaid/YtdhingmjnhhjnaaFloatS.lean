/- Quotients of small numbers, rounded, stand as the quotients do. -/
import Derived.Test.YtdhingmjnhhjnaaFloatO
namespace Go.Proofs.Ytdhingmjnhhjnaa.My
set_option linter.unusedVariables false
set_option linter.unusedSimpArgs false
/-- The normal form with one power only. -/
theorem norm_ex (a b : Nat) (a1 : 1 ≤ a) (a2 : a ≤ 9007199254740992) (b1 : 1 ≤ b) (b2 : b ≤ 9007199254740992) : ∃ p q : Nat, (p = 0 ∨ q = 0) ∧ p ≤ 100 ∧ q ≤ 100 ∧ a * 2 ^ p < b * 2 ^ q ∧ b * 2 ^ q ≤ 2 * (a * 2 ^ p) := by
  obtain ⟨M, u, eM, hu, m1, m2, fa⟩ := near_int a a1 a2
  obtain ⟨N, v, eN, hv, n1, n2, fb⟩ := near_int b b1 b2
  obtain ⟨v', hv', h1, h2⟩ : ∃ v', v' ≤ 54 ∧ a * 2 ^ u < b * 2 ^ v' ∧ b * 2 ^ v' ≤ 2 * (a * 2 ^ u) := by
    by_cases hc : N ≤ M
    · exact ⟨v + 1, by omega, by rw [Nat.pow_succ, ← Nat.mul_assoc, ← eM, ← eN]; omega, by rw [Nat.pow_succ, ← Nat.mul_assoc, ← eM, ← eN]; omega⟩
    · exact ⟨v, by omega, by rw [← eM, ← eN]; omega, by rw [← eM, ← eN]; omega⟩
  by_cases hl : u ≤ v'
  · refine ⟨0, v' - u, Or.inl rfl, by omega, by omega, ?_, ?_⟩
    · rw [Nat.pow_zero, Nat.mul_one]
      apply Nat.lt_of_mul_lt_mul_right (a := 2 ^ u)
      rw [Nat.mul_assoc, ← Nat.pow_add, show v' - u + u = v' by omega]; exact h1
    · rw [Nat.pow_zero, Nat.mul_one]
      apply Nat.le_of_mul_le_mul_right (c := 2 ^ u) _ (Nat.two_pow_pos _)
      rw [Nat.mul_assoc, ← Nat.pow_add, show v' - u + u = v' by omega, Nat.mul_assoc]; exact h2
  · refine ⟨u - v', 0, Or.inr rfl, by omega, by omega, ?_, ?_⟩
    · rw [Nat.pow_zero, Nat.mul_one]
      apply Nat.lt_of_mul_lt_mul_right (a := 2 ^ v')
      rw [Nat.mul_assoc, ← Nat.pow_add, show u - v' + v' = u by omega]; exact h1
    · rw [Nat.pow_zero, Nat.mul_one]
      apply Nat.le_of_mul_le_mul_right (c := 2 ^ v') _ (Nat.two_pow_pos _)
      rw [Nat.mul_assoc, Nat.mul_assoc, ← Nat.pow_add, show u - v' + v' = u by omega]; exact h2
theorem rne_up (P B K : Nat) (hB : 0 < B) (h : 2 * P < B * (2 * K + 1)) : rne P B ≤ K := by
  unfold rne
  have hd := Nat.div_add_mod P B
  have hr : P % B < B := Nat.mod_lt _ hB
  have hs : B * (2 * K + 1) = 2 * (B * K) + B := by rw [Nat.mul_add, Nat.mul_one, Nat.mul_left_comm]
  rw [hs] at h
  generalize P % B = r at *
  rcases Nat.lt_trichotomy (P / B) K with hk | hk | hk
  · split <;> omega
  · rw [hk] at hd
    rw [hk, if_neg (by omega)]; omega
  · have : B * (K + 1) ≤ B * (P / B) := Nat.mul_le_mul_left _ hk
    rw [Nat.mul_add, Nat.mul_one] at this
    omega
theorem rne_gap (P B P' B' : Nat) (h : (P / B + 2) * B' ≤ P') (hB' : 0 < B') : rne P B < rne P' B' := by
  have h1 : P / B + 2 ≤ P' / B' := (Nat.le_div_iff_mul_le hB').2 h
  unfold rne
  split <;> split <;> omega
theorem step_a (x y v w p q p' q' : Nat) (hlt : x * w < v * y) (h2 : y * 2 ^ q ≤ 2 * (x * 2 ^ p)) (h1' : v * 2 ^ p' < w * 2 ^ q') (y1 : 1 ≤ y) (w1 : 1 ≤ w) : q + p' ≤ q' + p := by
  apply Nat.le_of_not_lt
  intro h
  have e1 : (y * 2 ^ q) * (w * 2 ^ q') ≤ 2 * (x * 2 ^ p) * (w * 2 ^ q') := Nat.mul_le_mul_right _ h2
  have e2 : (y * 2 ^ q) * (v * 2 ^ p') < (y * 2 ^ q) * (w * 2 ^ q') := Nat.mul_lt_mul_of_pos_left h1' (Nat.mul_pos (by omega) (Nat.two_pow_pos _))
  have e3 : (y * 2 ^ q) * (v * 2 ^ p') = v * y * 2 ^ (q + p') := by rw [Nat.pow_add]; ac_rfl
  have e4 : 2 * (x * 2 ^ p) * (w * 2 ^ q') = x * w * 2 ^ (q' + p + 1) := by rw [Nat.pow_succ, Nat.pow_add]; ac_rfl
  have e5 : x * w * 2 ^ (q' + p + 1) ≤ x * w * 2 ^ (q + p') := Nat.mul_le_mul_left _ (Nat.pow_le_pow_right (by decide) h)
  have e6 : x * w * 2 ^ (q + p') ≤ v * y * 2 ^ (q + p') := Nat.mul_le_mul_right _ (by omega)
  omega
theorem strict (x y v w W1 W2 : Nat) (x1 : 1 ≤ x) (x2 : x ≤ 16777216) (y1 : 1 ≤ y) (y2 : y ≤ 16777216) (v1 : 1 ≤ v) (v2 : v ≤ 16777216) (w1 : 1 ≤ w) (w2 : w ≤ 16777216) (hlt : x * w < v * y)
    (h1 : FloatKind.f64.format.div (floatOfInt .f64 x) (floatOfInt .f64 y) = some W1) (h2 : FloatKind.f64.format.div (floatOfInt .f64 v) (floatOfInt .f64 w) = some W2) : W1 < W2 := by
  obtain ⟨p, q, pq, hp, hq, n1, n2⟩ := norm_ex x y x1 (by omega) y1 (by omega)
  obtain ⟨p', q', pq', hp', hq', n1', n2'⟩ := norm_ex v w v1 (by omega) w1 (by omega)
  have d1 := div_ref false x y p q x1 (by omega) y1 (by omega) n1 n2 hp
  have d2 := div_ref false v w p' q' v1 (by omega) w1 (by omega) n1' n2' hp'
  rw [if_neg (by decide), if_neg (by decide), h1] at d1
  rw [if_neg (by decide), if_neg (by decide), h2] at d2
  have e1 := Option.some.inj d1
  have e2 := Option.some.inj d2
  clear d1 d2 h1 h2
  have sA := step_a x y v w p q p' q' hlt n2 n1' y1 w1
  have Y25 : y * 2 ^ q ≤ 33554432 := by
    rcases pq with h | h
    · rw [h, Nat.pow_zero, Nat.mul_one] at n2; omega
    · rw [h, Nat.pow_zero, Nat.mul_one]; omega
  have W25 : w * 2 ^ q' ≤ 33554432 := by
    rcases pq' with h | h
    · rw [h, Nat.pow_zero, Nat.mul_one] at n2'; omega
    · rw [h, Nat.pow_zero, Nat.mul_one]; omega
  by_cases he : q + p' = q' + p
  · have ep : p = p' := by omega
    have eq : q = q' := by omega
    subst ep; subst eq
    have hx : (x * 2 ^ p) * (w * 2 ^ q) < (v * 2 ^ p) * (y * 2 ^ q) := by
      have := Nat.mul_lt_mul_of_pos_right hlt (Nat.two_pow_pos (p + q))
      rw [Nat.pow_add] at this
      calc (x * 2 ^ p) * (w * 2 ^ q) = x * w * (2 ^ p * 2 ^ q) := by ac_rfl
        _ < v * y * (2 ^ p * 2 ^ q) := this
        _ = (v * 2 ^ p) * (y * 2 ^ q) := by ac_rfl
    have hY0 : 0 < y * 2 ^ q := by omega
    have hW0 : 0 < w * 2 ^ q := by omega
    have g := rne_gap (x * 2 ^ p * 9007199254740992) (y * 2 ^ q) (v * 2 ^ p * 9007199254740992) (w * 2 ^ q) ?_ hW0
    · rw [e1, e2]; omega
    · clear e1 e2 sA he pq pq' n1 n2 n1' n2'
      generalize x * 2 ^ p = X at *
      generalize y * 2 ^ q = Y at *
      generalize v * 2 ^ p = V at *
      generalize w * 2 ^ q = Z at *
      apply Nat.le_of_mul_le_mul_right (c := Y) _ hY0
      have hf : X * 9007199254740992 / Y * Y ≤ X * 9007199254740992 := Nat.div_mul_le_self _ _
      generalize X * 9007199254740992 / Y = f at *
      have k1 : f * Y * Z ≤ X * 9007199254740992 * Z := Nat.mul_le_mul_right _ hf
      have k2 : (f + 2) * Z * Y = f * Y * Z + 2 * (Y * Z) := by rw [Nat.add_mul, Nat.add_mul]; ac_rfl
      have k3 : X * 9007199254740992 * Z = X * Z * 9007199254740992 := by ac_rfl
      have k4 : V * 9007199254740992 * Y = V * Y * 9007199254740992 := by ac_rfl
      have k5 : Y * Z ≤ 33554432 * 33554432 := Nat.mul_le_mul Y25 W25
      rw [k2, k4]
      rw [k3] at k1
      generalize f * Y * Z = A at *
      generalize Y * Z = B at *
      generalize X * Z = C at *
      generalize V * Y = D at *
      omega
  · have r1 : rne (x * 2 ^ p * 9007199254740992) (y * 2 ^ q) ≤ 9007199254740991 := rne_up _ _ _ (by omega) (by omega)
    have r2 : 4503599627370496 ≤ rne (v * 2 ^ p' * 9007199254740992) (w * 2 ^ q') := rne_ge _ _ _ (by omega) (by omega)
    obtain ⟨R1, hR1⟩ : ∃ R1, rne (x * 2 ^ p * 9007199254740992) (y * 2 ^ q) = R1 := ⟨_, rfl⟩
    obtain ⟨R2, hR2⟩ : ∃ R2, rne (v * 2 ^ p' * 9007199254740992) (w * 2 ^ q') = R2 := ⟨_, rfl⟩
    rw [hR1] at r1 e1
    rw [hR2] at r2 e2
    rw [e1, e2]
    clear e1 e2 hR1 hR2 n1 n2 n1' n2' Y25 W25 hlt
    obtain ⟨T1, hT1⟩ : ∃ T1, q + 1021 - p = T1 := ⟨_, rfl⟩
    obtain ⟨T2, hT2⟩ : ∃ T2, q' + 1021 - p' = T2 := ⟨_, rfl⟩
    rw [hT1, hT2]
    have hT : T1 + 1 ≤ T2 := by omega
    have hT3 : (T1 + 1) * 4503599627370496 ≤ T2 * 4503599627370496 := Nat.mul_le_mul_right _ hT
    rw [Nat.add_mul, Nat.one_mul] at hT3
    clear hT hT1 hT2 sA he pq pq' hp hq hp' hq' x1 x2 y1 y2 v1 v2 w1 w2
    obtain ⟨A, hA⟩ : ∃ A, T1 * 4503599627370496 = A := ⟨_, rfl⟩
    obtain ⟨B, hB⟩ : ∃ B, T2 * 4503599627370496 = B := ⟨_, rfl⟩
    rw [hA, hB] at hT3 ⊢
    clear hA hB
    omega
end Go.Proofs.Ytdhingmjnhhjnaa.My
