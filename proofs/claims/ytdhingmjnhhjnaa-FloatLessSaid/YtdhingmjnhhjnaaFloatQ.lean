/- Contract of the walk of float.Quotient. -/
import Derived.Test.YtdhingmjnhhjnaaFloatA
namespace Go.Proofs.Ytdhingmjnhhjnaa.My
open Go.RowKit Go.Proofs.YtdhingmjnhhjnaaW.PrintWords Go.Proofs.YtdhingmjnhhjnaaW.PrintLast Go.Proofs.YtdhingmjnhhjnaaW.PrintMore
set_option linter.unusedVariables false
set_option linter.unusedSimpArgs false
/-- The bits of a number with a sign: the highest bit is set. -/
theorem minus_bits (a : Nat) (h : a < 9223372036854775808) : (Go.bits .or .u64 (Go.bits .andNot .u64 (a : Int) 9223372036854775808) (Go.bits .and .u64 13830554455654793216 9223372036854775808)).toNat = a + 9223372036854775808 := by
  have e1 := u64_andNot_nat a 9223372036854775808 (by omega) (by omega)
  rw [show ((9223372036854775808 : Nat) : Int) = 9223372036854775808 from rfl] at e1
  rw [show 18446744073709551615 - 9223372036854775808 = 2 ^ 63 - 1 from rfl, Nat.and_two_pow_sub_one_eq_mod, show (2 : Nat) ^ 63 = 9223372036854775808 from rfl, Nat.mod_eq_of_lt h] at e1
  have e2 : Go.bits .and .u64 13830554455654793216 9223372036854775808 = ((9223372036854775808 : Nat) : Int) := by decide +kernel
  rw [e1, e2, u64_or_nat a 9223372036854775808 (by omega) (by omega), Int.toNat_natCast, Nat.or_comm, nat_join 63 _ _ (by decide) (by omega), Nat.add_comm]
theorem copysign_m (a : Nat) (h : a < 9223372036854775808) (w : World) : Calls Try.prog 45 #[.float .f64 a, .float .f64 13830554455654793216] w fun e w' => e = .returned (.float .f64 (a + 9223372036854775808)) ∧ w = w' := by
  have h1 := fb_run
  have h2 := bf_run
  have H := Aside0.mk (minus_bits a h)
  clear h
  go_enter Try.func45, Try.ntmps45
  go_wp2_with fail
  go_ret
  exact ⟨by rw [← H.out]; rfl, rfl⟩
/-- Such a quotient that is a number, or without end. -/
theorem quot_c (minus : Bool) (a b : Int) (x y m r : Nat) (hx : (if 9007199254740992 < a then 9007199254740992 else a) = (x : Int)) (hy : (if 9007199254740992 < b then 9007199254740992 else b) = (y : Int))
    (hm : (if minus then floatOfInt .f64 x + 9223372036854775808 else floatOfInt .f64 x) = m) (hl : floatOfInt .f64 x < 9223372036854775808)
    (hq : FloatKind.f64.format.div m (floatOfInt .f64 y) = some r) (hr : kindF r ≠ 2) (w : World) :
    Calls Try.prog 14 #[.bool minus, .int .u64 a, .int .u64 b] w fun e w' => e = .returned (.int .u64 r) ∧ w = w' := by
  have h1 := fb_run
  have h2 := bf_run
  have h3 := fun w => run_float_arith (P := Try.prog) w .quo 73 .f64 m (floatOfInt .f64 y) r hq
  have HN := Aside0.mk (isnan_c r)
  rw [decide_eq_false hr] at HN
  have HC := Aside0.mk (copysign_m (floatOfInt .f64 x) hl)
  clear hq hr hl
  cases minus
  · simp only [Bool.false_eq_true, if_false] at hm
    subst hm
    go_enter Try.func14, Try.ntmps14
    go_wp2_with (go_at_call 46; (with_reducible refine (HN.out _).mono ?_); rintro e w' ⟨rfl, rfl⟩)
    go_ret
    exact ⟨rfl, rfl⟩
  · simp only [if_true] at hm
    have HM := Aside0.mk hm
    rw [hm] at HC
    clear hm
    go_enter Try.func14, Try.ntmps14
    go_wp2_with (first
      | (go_at_call 45; (with_reducible refine (HC.out _).mono ?_); rintro e w' ⟨rfl, rfl⟩)
      | (go_at_call 46; (with_reducible refine (HN.out _).mono ?_); rintro e w' ⟨rfl, rfl⟩))
    go_ret
    exact ⟨rfl, rfl⟩
/-- No number by no number: no number. -/
theorem nan_cut (x y t : Nat) : kindF ((Question.nanBits .f64 x y).cut t) = 2 := by
  have e : (Question.nanBits .f64 x y).cut t = t % 2 * 9223372036854775808 + 9218868437227405312 + 1 + t / 2 % 4503599627370495 := rfl
  rw [e]
  have h : (t % 2 * 9223372036854775808 + 9218868437227405312 + 1 + t / 2 % 4503599627370495) % 9223372036854775808 = 9218868437227405313 + t / 2 % 4503599627370495 := by omega
  unfold kindF
  rw [h, if_neg (by omega), if_neg (by omega)]
theorem run_nan (P : Program) (w : World) (t : TypeId) (x y : Nat) (d : FloatKind.f64.format.div x y = none) : (binOp .quo t (.float .f64 x) (.float .f64 y)).run P w = .ok (.float .f64 ((Question.nanBits .f64 x y).cut (w.tape w.drawn (Question.nanBits .f64 x y)))) w.drew := by
  simp [binOp, Op.floatArith, d, Question.forced]
theorem quot_nan (minus : Bool) (w : World) : Calls Try.prog 14 #[.bool minus, .int .u64 0, .int .u64 0] w fun e w' => e = .returned (.int .u64 9221120237041090560) ∧ Drawn0 w w' := by
  have h1 := fb_run
  have h2 := bf_run
  have z0 : floatOfInt .f64 0 = 0 := by decide +kernel
  have HC := Aside0.mk (copysign_m 0 (by omega))
  cases minus
  · have e0 := run_nan Try.prog w 73 0 0 (by decide +kernel)
    have hk := nan_cut 0 0 (w.tape w.drawn (Question.nanBits .f64 0 0))
    generalize (Question.nanBits .f64 0 0).cut (w.tape w.drawn (Question.nanBits .f64 0 0)) = N at *
    have HN := Aside0.mk (isnan_c N)
    rw [decide_eq_true hk] at HN
    clear hk
    go_enter Try.func14, Try.ntmps14
    go_wp2_with (go_at_call 46; (with_reducible refine (HN.out _).mono ?_); rintro e w' ⟨rfl, rfl⟩)
    go_ret
    exact ⟨rfl, ⟨1, rfl⟩⟩
  · have e0 := run_nan Try.prog w 73 (0 + 9223372036854775808) 0 (by decide +kernel)
    have hk := nan_cut (0 + 9223372036854775808) 0 (w.tape w.drawn (Question.nanBits .f64 (0 + 9223372036854775808) 0))
    generalize (Question.nanBits .f64 (0 + 9223372036854775808) 0).cut (w.tape w.drawn (Question.nanBits .f64 (0 + 9223372036854775808) 0)) = N at *
    have HN := Aside0.mk (isnan_c N)
    rw [decide_eq_true hk] at HN
    clear hk
    generalize 0 + 9223372036854775808 = M at *
    go_enter Try.func14, Try.ntmps14
    go_wp2_with (first
      | (go_at_call 45; (with_reducible refine (HC.out _).mono ?_); rintro e w' ⟨rfl, rfl⟩)
      | (go_at_call 46; (with_reducible refine (HN.out _).mono ?_); rintro e w' ⟨rfl, rfl⟩))
    go_ret
    exact ⟨rfl, ⟨1, rfl⟩⟩
theorem awake35_c (w : World) : Calls Try.prog 13 #[] w fun e w' => e = .returned (.bool true) ∧ Drawn0 w w' := by
  have q1 := quot_c false 1 2 1 2 _ 4602678819172646912 rfl rfl rfl (by decide +kernel) (by decide +kernel) (by decide +kernel)
  have q2 := quot_nan false
  have q3 := quot_c true 1 0 1 0 _ 18442240474082181120 rfl rfl rfl (by decide +kernel) (by decide +kernel) (by decide +kernel)
  have Q1 := Aside0.mk q1
  have Q2 := Aside0.mk q2
  have Q3 := Aside0.mk q3
  clear q1 q2 q3
  go_enter Try.func13, Try.ntmps13
  go_wp2_with fail
  refine (Q1.out _).mono ?_
  rintro e w' ⟨rfl, rfl⟩
  go_wp2_with fail
  refine (Q2.out _).mono ?_
  rintro e w' ⟨rfl, ⟨nd, rfl⟩⟩
  go_wp2_with fail
  refine (Q3.out _).mono ?_
  rintro e w' ⟨rfl, rfl⟩
  go_wp2_with fail
  go_ret
  exact ⟨rfl, ⟨nd, rfl⟩⟩
end Go.Proofs.Ytdhingmjnhhjnaa.My
