/- The walk of the law FloatQuotient: it returns true at every input. -/
import Derived.Test.YtdhingmjnhhjnaaFloatC
namespace Go.Proofs.Ytdhingmjnhhjnaa.My
open Go.RowKit Go.Proofs.YtdhingmjnhhjnaaW.PrintWords Go.Proofs.YtdhingmjnhhjnaaW.PrintLast Go.Proofs.YtdhingmjnhhjnaaW.PrintMore
set_option linter.unusedVariables false
set_option linter.unusedSimpArgs false
theorem float_zero : floatOfInt .f64 ((0 : Nat) : Int) = 0 := by decide +kernel
theorem read_zero (s : Bool) : Ieee.double.read (if s then 0 + 9223372036854775808 else 0) = .number s 0 (-1074) := by cases s <;> decide +kernel
theorem float_lt (a : Nat) (h2 : a ≤ 9007199254740992) : floatOfInt .f64 a < 9223372036854775808 := by
  by_cases h0 : a = 0
  · subst h0; rw [float_zero]; omega
  · obtain ⟨M, u, _, hu, m1, m2, e⟩ := near_int a (by omega) h2
    rw [e]; omega
theorem div_some (a b : Nat) (a1 : 1 ≤ a) (a2 : a ≤ 9007199254740992) (b1 : 1 ≤ b) (b2 : b ≤ 9007199254740992) :
    ∃ W : Nat, W < 9218868437227405312 ∧ ∀ s : Bool, FloatKind.f64.format.div (if s then floatOfInt .f64 a + 9223372036854775808 else floatOfInt .f64 a) (floatOfInt .f64 b) = some (if s then W + 9223372036854775808 else W) := by
  obtain ⟨M, u, eM, hu, m1, m2, fa⟩ := near_int a a1 a2
  obtain ⟨N, v, eN, hv, n1, n2, fb⟩ := near_int b b1 b2
  rw [fa, fb]
  have rb := read_int N v false hv n1 n2
  rw [if_neg (by decide)] at rb
  by_cases hc : N ≤ M
  · refine ⟨(v + 1022 - u) * 4503599627370496 + rne (M * 18014398509481984) (N * 4), ?_, fun s => ?_⟩
    · have := rne_le (M * 18014398509481984) (N * 4) 9007199254740992 (by omega) (by omega)
      omega
    · rw [div_moved s M N u v _ _ (read_int M u s hu m1 m2) rb hu hv m1 m2 n1 n2, if_pos hc]
  · refine ⟨(v + 1021 - u) * 4503599627370496 + rne (M * 18014398509481984) (N * 2), ?_, fun s => ?_⟩
    · have := rne_le (M * 18014398509481984) (N * 2) 9007199254740992 (by omega) (by omega)
      omega
    · rw [div_moved s M N u v _ _ (read_int M u s hu m1 m2) rb hu hv m1 m2 n1 n2, if_neg hc]
theorem div_zero_r (s : Bool) (a : Nat) (a1 : 1 ≤ a) (a2 : a ≤ 9007199254740992) :
    FloatKind.f64.format.div (if s then floatOfInt .f64 a + 9223372036854775808 else floatOfInt .f64 a) (floatOfInt .f64 ((0 : Nat) : Int)) = some (if s then 18442240474082181120 else 9218868437227405312) := by
  obtain ⟨M, u, eM, hu, m1, m2, fa⟩ := near_int a a1 a2
  rw [fa, float_zero]
  show ((Ieee.double.read _).quotient 54 (Ieee.double.read 0)).map Ieee.double.write = _
  rw [read_int M u s hu m1 m2]
  have rz := read_zero false
  rw [if_neg (by decide)] at rz
  rw [rz]
  unfold Ieee.Datum.quotient
  simp only [if_true]
  rw [if_neg (by omega), Bool.xor_false]
  cases s <;> decide +kernel
theorem div_zero_l (s : Bool) (b : Nat) (b1 : 1 ≤ b) (b2 : b ≤ 9007199254740992) :
    FloatKind.f64.format.div (if s then floatOfInt .f64 ((0 : Nat) : Int) + 9223372036854775808 else floatOfInt .f64 ((0 : Nat) : Int)) (floatOfInt .f64 b) = some (if s then 9223372036854775808 else 0) := by
  obtain ⟨N, v, eN, hv, n1, n2, fb⟩ := near_int b b1 b2
  rw [fb, float_zero]
  show ((Ieee.double.read _).quotient 54 (Ieee.double.read _)).map Ieee.double.write = _
  have rb := read_int N v false hv n1 n2
  rw [if_neg (by decide)] at rb
  rw [rb, read_zero s]
  unfold Ieee.Datum.quotient
  simp only []
  rw [if_neg (by omega), Nat.zero_shiftLeft, Nat.zero_div, Nat.zero_mod, Bool.xor_false]
  show some (Ieee.Format.nearest Ieee.double s 0 _) = _
  unfold Ieee.Format.nearest
  rw [if_pos rfl]
  cases s <;> decide +kernel
theorem kindF_lt (W : Nat) (h : W < 9218868437227405312) (s : Bool) : kindF (if s then W + 9223372036854775808 else W) ≠ 2 := by
  have e : (if s then W + 9223372036854775808 else W) % 9223372036854775808 = W := by cases s <;> simp <;> omega
  unfold kindF
  rw [e, if_pos h]; omega
theorem cut35_c (a : Int) (x : Nat) (hx : (if 9007199254740992 < a then 9007199254740992 else a) = (x : Int)) (w : World) : Calls Try.prog 12 #[.int .u64 a] w fun e w' => e = .returned (.int .u64 x) ∧ w = w' := by
  go_enter Try.func12, Try.ntmps12
  go_wp2_with fail
  go_ret
  exact ⟨rfl, rfl⟩
end Go.Proofs.Ytdhingmjnhhjnaa.My
