/- The walk of the law FloatQuotient: it returns true at every input. -/
import Derived.Test.YtdhingmjnhhjnaaFloatK
import Derived.Test.YtdhingmjnhhjnaaLem
namespace Go.Proofs.Ytdhingmjnhhjnaa.My
open Go.RowKit Go.Proofs.YtdhingmjnhhjnaaW.PrintWords Go.Proofs.YtdhingmjnhhjnaaW.PrintLast Go.Proofs.YtdhingmjnhhjnaaW.PrintMore
set_option linter.unusedVariables false
set_option linter.unusedSimpArgs false
theorem fq_nan (minus : Bool) (w : World) : Calls Try.prog 3 #[.bool minus, .int .u64 0, .int .u64 0] w fun e w' => e = .returned (.bool true) ∧ Below w.heap.size w w' := by
  have CX := Aside0.mk (cut35_c 0 0 (by decide))
  have QC := Aside0.mk (quot_nan minus)
  go_enter Try.func3, Try.ntmps3
  go_wp2_with (first
    | (go_at_call 12; (with_reducible refine (CX.out _).mono ?_); rintro e w' ⟨rfl, rfl⟩)
    | (go_at_call 13; (with_reducible refine (awake35_c _).mono ?_); rintro e w' ⟨rfl, ⟨nd, rfl⟩⟩)
    | (go_at_call 14; (with_reducible refine (QC.out _).mono ?_); rintro e w' ⟨rfl, ⟨nd2, rfl⟩⟩))
  go_ret
  exact ⟨rfl, by repeat (first | exact Below.refl _ _ | apply below_drew1 | apply pw_below_drewN)⟩
theorem fq_zr (minus : Bool) (a b : Int) (x : Nat) (hx : (if 9007199254740992 < a then 9007199254740992 else a) = (x : Int)) (hy : (if 9007199254740992 < b then 9007199254740992 else b) = ((0 : Nat) : Int)) (x1 : 1 ≤ x) (x2 : x ≤ 9007199254740992) (w : World) :
    Calls Try.prog 3 #[.bool minus, .int .u64 a, .int .u64 b] w fun e w' => e = .returned (.bool true) ∧ Below w.heap.size w w' := by
  have CX := Aside0.mk (cut35_c a x hx)
  have CY := Aside0.mk (cut35_c b 0 hy)
  have Q := quot_c minus a b x 0 _ _ hx hy rfl (float_lt x x2) (div_zero_r minus x x1 x2) (by cases minus <;> decide +kernel)
  clear hx hy
  have BT := 0
  cases minus
  · simp only [Bool.false_eq_true, if_false] at Q
    have QC := Aside0.mk Q
    clear Q
    go_enter Try.func3, Try.ntmps3
    go_wp2_with (first
    | (go_at_call 12; (first | (with_reducible refine (CX.out _).mono ?_) | (with_reducible refine (CY.out _).mono ?_)); rintro e w' ⟨rfl, rfl⟩)
    | (go_at_call 15; (with_reducible refine (BT.out _).mono ?_); rintro e w' ⟨rfl, rfl⟩)
    | (go_at_call 13; (with_reducible refine (awake35_c _).mono ?_); rintro e w' ⟨rfl, ⟨nd, rfl⟩⟩)
    | (go_at_call 14; (with_reducible refine (QC.out _).mono ?_); rintro e w' ⟨rfl, rfl⟩))
    go_ret
    exact ⟨rfl, by repeat (first | exact Below.refl _ _ | apply below_drew1 | apply pw_below_drewN)⟩
  · simp only [if_true] at Q
    have QC := Aside0.mk Q
    clear Q
    go_enter Try.func3, Try.ntmps3
    go_wp2_with (first
    | (go_at_call 12; (first | (with_reducible refine (CX.out _).mono ?_) | (with_reducible refine (CY.out _).mono ?_)); rintro e w' ⟨rfl, rfl⟩)
    | (go_at_call 15; (with_reducible refine (BT.out _).mono ?_); rintro e w' ⟨rfl, rfl⟩)
    | (go_at_call 13; (with_reducible refine (awake35_c _).mono ?_); rintro e w' ⟨rfl, ⟨nd, rfl⟩⟩)
    | (go_at_call 14; (with_reducible refine (QC.out _).mono ?_); rintro e w' ⟨rfl, rfl⟩))
    go_ret
    exact ⟨rfl, by repeat (first | exact Below.refl _ _ | apply below_drew1 | apply pw_below_drewN)⟩
theorem fq_zl (minus : Bool) (a b : Int) (y : Nat) (hx : (if 9007199254740992 < a then 9007199254740992 else a) = ((0 : Nat) : Int)) (hy : (if 9007199254740992 < b then 9007199254740992 else b) = (y : Int)) (y1 : 1 ≤ y) (y2 : y ≤ 9007199254740992) (w : World) :
    Calls Try.prog 3 #[.bool minus, .int .u64 a, .int .u64 b] w fun e w' => e = .returned (.bool true) ∧ Below w.heap.size w w' := by
  have CX := Aside0.mk (cut35_c a 0 hx)
  have CY := Aside0.mk (cut35_c b y hy)
  have Q := quot_c minus a b 0 y _ _ hx hy rfl (float_lt 0 (by omega)) (div_zero_l minus y y1 y2) (by cases minus <;> decide +kernel)
  clear hx hy
  have BT := 0
  cases minus
  · simp only [Bool.false_eq_true, if_false] at Q
    have QC := Aside0.mk Q
    clear Q
    go_enter Try.func3, Try.ntmps3
    go_wp2_with (first
    | (go_at_call 12; (first | (with_reducible refine (CX.out _).mono ?_) | (with_reducible refine (CY.out _).mono ?_)); rintro e w' ⟨rfl, rfl⟩)
    | (go_at_call 15; (with_reducible refine (BT.out _).mono ?_); rintro e w' ⟨rfl, rfl⟩)
    | (go_at_call 13; (with_reducible refine (awake35_c _).mono ?_); rintro e w' ⟨rfl, ⟨nd, rfl⟩⟩)
    | (go_at_call 14; (with_reducible refine (QC.out _).mono ?_); rintro e w' ⟨rfl, rfl⟩))
    go_ret
    exact ⟨rfl, by repeat (first | exact Below.refl _ _ | apply below_drew1 | apply pw_below_drewN)⟩
  · simp only [if_true] at Q
    have QC := Aside0.mk Q
    clear Q
    go_enter Try.func3, Try.ntmps3
    go_wp2_with (first
    | (go_at_call 12; (first | (with_reducible refine (CX.out _).mono ?_) | (with_reducible refine (CY.out _).mono ?_)); rintro e w' ⟨rfl, rfl⟩)
    | (go_at_call 15; (with_reducible refine (BT.out _).mono ?_); rintro e w' ⟨rfl, rfl⟩)
    | (go_at_call 13; (with_reducible refine (awake35_c _).mono ?_); rintro e w' ⟨rfl, ⟨nd, rfl⟩⟩)
    | (go_at_call 14; (with_reducible refine (QC.out _).mono ?_); rintro e w' ⟨rfl, rfl⟩))
    go_ret
    exact ⟨rfl, by repeat (first | exact Below.refl _ _ | apply below_drew1 | apply pw_below_drewN)⟩
theorem fq_num (minus : Bool) (a b : Int) (x y : Nat) (hx : (if 9007199254740992 < a then 9007199254740992 else a) = (x : Int)) (hy : (if 9007199254740992 < b then 9007199254740992 else b) = (y : Int)) (x1 : 1 ≤ x) (x2 : x ≤ 9007199254740992) (y1 : 1 ≤ y) (y2 : y ≤ 9007199254740992) (w : World) :
    Calls Try.prog 3 #[.bool minus, .int .u64 a, .int .u64 b] w fun e w' => e = .returned (.bool true) ∧ Below w.heap.size w w' := by
  have CX := Aside0.mk (cut35_c a x hx)
  have CY := Aside0.mk (cut35_c b y hy)
  obtain ⟨W, hW, hd⟩ := div_some x y x1 x2 y1 y2
  have Q := quot_c minus a b x y _ _ hx hy rfl (float_lt x x2) (hd minus) (kindF_lt W hW minus)
  have hd0 := hd false
  rw [if_neg (by decide), if_neg (by decide)] at hd0
  have BT := Aside0.mk (bits35_c x y W x1 x2 y1 y2 hd0)
  have hW2 : W ≤ 9218868437227405311 := by omega
  clear hx hy hd hd0 hW
  cases minus
  · simp only [Bool.false_eq_true, if_false] at Q
    have QC := Aside0.mk Q
    clear Q
    go_enter Try.func3, Try.ntmps3
    go_wp2_with (first
    | (go_at_call 12; (first | (with_reducible refine (CX.out _).mono ?_) | (with_reducible refine (CY.out _).mono ?_)); rintro e w' ⟨rfl, rfl⟩)
    | (go_at_call 15; (with_reducible refine (BT.out _).mono ?_); rintro e w' ⟨rfl, rfl⟩)
    | (go_at_call 13; (with_reducible refine (awake35_c _).mono ?_); rintro e w' ⟨rfl, ⟨nd, rfl⟩⟩)
    | (go_at_call 14; (with_reducible refine (QC.out _).mono ?_); rintro e w' ⟨rfl, rfl⟩))
    go_ret
    exact ⟨rfl, by repeat (first | exact Below.refl _ _ | apply below_drew1 | apply pw_below_drewN)⟩
  · simp only [if_true] at Q
    rw [show ((W + 9223372036854775808 : Nat) : Int) = (W : Int) + 9223372036854775808 by omega] at Q
    have QC := Aside0.mk Q
    clear Q
    go_enter Try.func3, Try.ntmps3
    go_wp2_with (first
    | (go_at_call 12; (first | (with_reducible refine (CX.out _).mono ?_) | (with_reducible refine (CY.out _).mono ?_)); rintro e w' ⟨rfl, rfl⟩)
    | (go_at_call 15; (with_reducible refine (BT.out _).mono ?_); rintro e w' ⟨rfl, rfl⟩)
    | (go_at_call 13; (with_reducible refine (awake35_c _).mono ?_); rintro e w' ⟨rfl, ⟨nd, rfl⟩⟩)
    | (go_at_call 14; (with_reducible refine (QC.out _).mono ?_); rintro e w' ⟨rfl, rfl⟩))
    go_ret
    exact ⟨rfl, by repeat (first | exact Below.refl _ _ | apply below_drew1 | apply pw_below_drewN)⟩
theorem floatQuotient_w (minus : Bool) (a b : Int) (w : World) (wa : (Lit.int .u64 a).wf = true) (wb : (Lit.int .u64 b).wf = true) :
    Calls Try.prog 3 #[.bool minus, .int .u64 a, .int .u64 b] w fun e w' => e = .returned (.bool true) ∧ Below w.heap.size w w' := by
  obtain ⟨a0, a1⟩ := wf_u64 wa
  obtain ⟨b0, b1⟩ := wf_u64 wb
  clear wa wb
  obtain ⟨x, hx, x2⟩ : ∃ x : Nat, (if 9007199254740992 < a then 9007199254740992 else a) = (x : Int) ∧ x ≤ 9007199254740992 := by
    by_cases h : 9007199254740992 < a
    · exact ⟨9007199254740992, by rw [if_pos h]; omega, by omega⟩
    · exact ⟨a.toNat, by rw [if_neg h]; omega, by omega⟩
  obtain ⟨y, hy, y2⟩ : ∃ y : Nat, (if 9007199254740992 < b then 9007199254740992 else b) = (y : Int) ∧ y ≤ 9007199254740992 := by
    by_cases h : 9007199254740992 < b
    · exact ⟨9007199254740992, by rw [if_pos h]; omega, by omega⟩
    · exact ⟨b.toNat, by rw [if_neg h]; omega, by omega⟩
  by_cases hx0 : x = 0
  · subst hx0
    by_cases hy0 : y = 0
    · subst hy0
      obtain rfl : a = 0 := by
        by_cases h : 9007199254740992 < a
        · rw [if_pos h] at hx; omega
        · rw [if_neg h] at hx; omega
      obtain rfl : b = 0 := by
        by_cases h : 9007199254740992 < b
        · rw [if_pos h] at hy; omega
        · rw [if_neg h] at hy; omega
      exact fq_nan minus w
    · exact fq_zl minus a b y hx hy (by omega) y2 w
  · by_cases hy0 : y = 0
    · subst hy0
      exact fq_zr minus a b x hx hy (by omega) x2 w
    · exact fq_num minus a b x y hx hy (by omega) x2 (by omega) y2 w
end Go.Proofs.Ytdhingmjnhhjnaa.My
