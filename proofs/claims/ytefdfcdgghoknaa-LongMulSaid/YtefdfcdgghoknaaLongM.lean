/- The walk of the law LongMul: it returns true at every input. -/
import Derived.Test.YtefdfcdgghoknaaLongV
namespace Go.Proofs.Ytefdfcdgghoknaa.My
open Go.RowKit Go.Proofs.YtefdfcdgghoknaaW.PrintWords Go.Proofs.YtefdfcdgghoknaaW.PrintLast Go.Proofs.YtefdfcdgghoknaaW.PrintMore
set_option linter.unusedVariables false
set_option linter.unusedSimpArgs false

set_option maxRecDepth 100000 in
set_option maxHeartbeats 4000000 in
theorem mul_86_false (a b how : Int) (w : World) (a0 : 0 ≤ a) (a1 : a < 65536) (b0 : 0 ≤ b) (b1 : b < 65536) (h1 : Go.bits .and .i64 how 1 = 0) (h2 : decide (0 < Go.bits .and .i64 how 2) = false) :
    Calls Try.prog 4 #[.int .u16 a, .int .u16 b, .int .i64 how] w fun e w' => e = .returned (.bool true) ∧ Below w.heap.size w w' := by
  obtain ⟨a, rfl⟩ := Int.eq_ofNat_of_zero_le a0
  obtain ⟨b, rfl⟩ := Int.eq_ofNat_of_zero_le b0
  have q1 : a < 65536 := by omega
  have q2 : b < 65536 := by omega
  obtain ⟨P, hP⟩ : ∃ P, mulP 86 a b false = P := ⟨_, rfl⟩
  have hP2 : wholeM a false false * wholeM b false false = P := hP
  have hb : -4294967296 ≤ P ∧ P ≤ 4294967296 := by
    rw [← hP]
    have hx := cutN_lt a false
    have hy := cutN_lt b false
    have sx := sprM_b a false
    have sy := sprM_b b false
    have hh := HH_le false
    have := prod_m (wholeM a false false) (wholeM b false false) 65536 (by unfold wholeM; simp <;> omega) (by unfold wholeM; simp <;> omega) (by unfold wholeM; simp <;> omega) (by unfold wholeM; simp <;> omega)
    show -4294967296 ≤ wholeM a false false * wholeM b false false ∧ wholeM a false false * wholeM b false false ≤ 4294967296
    omega
  obtain ⟨p0, p1⟩ := hb
  obtain ⟨L, hL⟩ : ∃ L, P % 256 = L := ⟨_, rfl⟩
  obtain ⟨Q, hQ⟩ : ∃ Q, P / 256 = Q := ⟨_, rfl⟩
  have l0 : 0 ≤ L := by omega
  have l1 : L < 256 := by omega
  have t0 := tmod_up P 256 (by omega)
  obtain ⟨t1, t2⟩ := tmod_bb P 256 (by omega)
  obtain ⟨T, hT⟩ : ∃ T, Int.tmod P 256 = T := ⟨_, rfl⟩
  rw [hT] at t0 t1 t2
  rw [hL] at t0
  have d1 := tdiv_ex P 256 (by omega)
  have d2 := ediv_ex P 256 (by omega)
  rw [hL, hQ] at d1 d2
  have qb : -16777216 ≤ Q ∧ Q ≤ 16777216 := by omega
  obtain ⟨qb0, qb1⟩ := qb
  have u0 := tmod_up Q 256 (by omega)
  obtain ⟨u1, u2⟩ := tmod_bb Q 256 (by omega)
  obtain ⟨U, hU⟩ : ∃ U, Int.tmod Q 256 = U := ⟨_, rfl⟩
  rw [hU] at u0 u1 u2
  have m1 : (MM false : Int) = 256 := rfl
  have sz : szN false = 8 := rfl
  have hT2 : mulT 86 a b false = (Q != 0) := by unfold mulT; rw [if_neg (by omega), hP, m1, hQ, Bool.eq_iff_iff]; simp
  have HT2 := Aside0.mk hT2
  clear hT2
  have hT3 := HT2.out
  go_enter Try.func4, Try.ntmps4
  go_wp2_with (first
    | (go_at_call 18; refine (mul_c 86 (by omega) a b false q1 q2 _).mono ?_; rintro e w' ⟨rfl, rfl⟩)
    | (go_at_call 16; refine (whole_c _ false false (by omega) _).mono ?_; rintro e w' ⟨rfl, ⟨nd, rfl⟩⟩)
    | (go_at_call 14; refine (rsize_c _ _).mono ?_; rintro e w' ⟨rfl, ⟨nd, rfl⟩⟩)
    | (go_at_call 17; refine (awake10_c _).mono ?_; rintro e w' ⟨rfl, ⟨nd, rfl⟩⟩))
  go_ret
  exact ⟨by first | rfl | exact rb (by simp; omega), by repeat (first | exact Below.refl _ _ | apply pw_below_drewN)⟩

set_option maxRecDepth 100000 in
set_option maxHeartbeats 4000000 in
theorem mul_86_true (a b how : Int) (w : World) (a0 : 0 ≤ a) (a1 : a < 65536) (b0 : 0 ≤ b) (b1 : b < 65536) (h1 : Go.bits .and .i64 how 1 = 0) (h2 : decide (0 < Go.bits .and .i64 how 2) = true) :
    Calls Try.prog 4 #[.int .u16 a, .int .u16 b, .int .i64 how] w fun e w' => e = .returned (.bool true) ∧ Below w.heap.size w w' := by
  obtain ⟨a, rfl⟩ := Int.eq_ofNat_of_zero_le a0
  obtain ⟨b, rfl⟩ := Int.eq_ofNat_of_zero_le b0
  have q1 : a < 65536 := by omega
  have q2 : b < 65536 := by omega
  obtain ⟨P, hP⟩ : ∃ P, mulP 86 a b true = P := ⟨_, rfl⟩
  have hP2 : wholeM a false true * wholeM b false true = P := hP
  have hb : -4294967296 ≤ P ∧ P ≤ 4294967296 := by
    rw [← hP]
    have hx := cutN_lt a true
    have hy := cutN_lt b true
    have sx := sprM_b a true
    have sy := sprM_b b true
    have hh := HH_le true
    have := prod_m (wholeM a false true) (wholeM b false true) 65536 (by unfold wholeM; simp <;> omega) (by unfold wholeM; simp <;> omega) (by unfold wholeM; simp <;> omega) (by unfold wholeM; simp <;> omega)
    show -4294967296 ≤ wholeM a false true * wholeM b false true ∧ wholeM a false true * wholeM b false true ≤ 4294967296
    omega
  obtain ⟨p0, p1⟩ := hb
  obtain ⟨L, hL⟩ : ∃ L, P % 65536 = L := ⟨_, rfl⟩
  obtain ⟨Q, hQ⟩ : ∃ Q, P / 65536 = Q := ⟨_, rfl⟩
  have l0 : 0 ≤ L := by omega
  have l1 : L < 65536 := by omega
  have t0 := tmod_up P 65536 (by omega)
  obtain ⟨t1, t2⟩ := tmod_bb P 65536 (by omega)
  obtain ⟨T, hT⟩ : ∃ T, Int.tmod P 65536 = T := ⟨_, rfl⟩
  rw [hT] at t0 t1 t2
  rw [hL] at t0
  have d1 := tdiv_ex P 65536 (by omega)
  have d2 := ediv_ex P 65536 (by omega)
  rw [hL, hQ] at d1 d2
  have qb : -16777216 ≤ Q ∧ Q ≤ 16777216 := by omega
  obtain ⟨qb0, qb1⟩ := qb
  have u0 := tmod_up Q 65536 (by omega)
  obtain ⟨u1, u2⟩ := tmod_bb Q 65536 (by omega)
  obtain ⟨U, hU⟩ : ∃ U, Int.tmod Q 65536 = U := ⟨_, rfl⟩
  rw [hU] at u0 u1 u2
  have m1 : (MM true : Int) = 65536 := rfl
  have sz : szN true = 16 := rfl
  have hT2 : mulT 86 a b true = (Q != 0) := by unfold mulT; rw [if_neg (by omega), hP, m1, hQ, Bool.eq_iff_iff]; simp
  have HT2 := Aside0.mk hT2
  clear hT2
  have hT3 := HT2.out
  go_enter Try.func4, Try.ntmps4
  go_wp2_with (first
    | (go_at_call 18; refine (mul_c 86 (by omega) a b true q1 q2 _).mono ?_; rintro e w' ⟨rfl, rfl⟩)
    | (go_at_call 16; refine (whole_c _ false true (by omega) _).mono ?_; rintro e w' ⟨rfl, ⟨nd, rfl⟩⟩)
    | (go_at_call 14; refine (rsize_c _ _).mono ?_; rintro e w' ⟨rfl, ⟨nd, rfl⟩⟩)
    | (go_at_call 17; refine (awake10_c _).mono ?_; rintro e w' ⟨rfl, ⟨nd, rfl⟩⟩))
  go_ret
  exact ⟨by first | rfl | exact rb (by simp; omega), by repeat (first | exact Below.refl _ _ | apply pw_below_drewN)⟩

set_option maxRecDepth 100000 in
set_option maxHeartbeats 4000000 in
theorem mul_87_false (a b how : Int) (w : World) (a0 : 0 ≤ a) (a1 : a < 65536) (b0 : 0 ≤ b) (b1 : b < 65536) (h1 : Go.bits .and .i64 how 1 = 1) (h2 : decide (0 < Go.bits .and .i64 how 2) = false) :
    Calls Try.prog 4 #[.int .u16 a, .int .u16 b, .int .i64 how] w fun e w' => e = .returned (.bool true) ∧ Below w.heap.size w w' := by
  obtain ⟨a, rfl⟩ := Int.eq_ofNat_of_zero_le a0
  obtain ⟨b, rfl⟩ := Int.eq_ofNat_of_zero_le b0
  have q1 : a < 65536 := by omega
  have q2 : b < 65536 := by omega
  obtain ⟨P, hP⟩ : ∃ P, mulP 87 a b false = P := ⟨_, rfl⟩
  have hP2 : wholeM a true false * wholeM b true false = P := hP
  have hb : -4294967296 ≤ P ∧ P ≤ 4294967296 := by
    rw [← hP]
    have hx := cutN_lt a false
    have hy := cutN_lt b false
    have sx := sprM_b a false
    have sy := sprM_b b false
    have hh := HH_le false
    have := prod_m (wholeM a true false) (wholeM b true false) 65536 (by unfold wholeM; simp <;> omega) (by unfold wholeM; simp <;> omega) (by unfold wholeM; simp <;> omega) (by unfold wholeM; simp <;> omega)
    show -4294967296 ≤ wholeM a true false * wholeM b true false ∧ wholeM a true false * wholeM b true false ≤ 4294967296
    omega
  obtain ⟨p0, p1⟩ := hb
  obtain ⟨L, hL⟩ : ∃ L, P % 256 = L := ⟨_, rfl⟩
  obtain ⟨Q, hQ⟩ : ∃ Q, P / 256 = Q := ⟨_, rfl⟩
  have l0 : 0 ≤ L := by omega
  have l1 : L < 256 := by omega
  have t0 := tmod_up P 256 (by omega)
  obtain ⟨t1, t2⟩ := tmod_bb P 256 (by omega)
  obtain ⟨T, hT⟩ : ∃ T, Int.tmod P 256 = T := ⟨_, rfl⟩
  rw [hT] at t0 t1 t2
  rw [hL] at t0
  have d1 := tdiv_ex P 256 (by omega)
  have d2 := ediv_ex P 256 (by omega)
  rw [hL, hQ] at d1 d2
  have qb : -16777216 ≤ Q ∧ Q ≤ 16777216 := by omega
  obtain ⟨qb0, qb1⟩ := qb
  have u0 := tmod_up Q 256 (by omega)
  obtain ⟨u1, u2⟩ := tmod_bb Q 256 (by omega)
  obtain ⟨U, hU⟩ : ∃ U, Int.tmod Q 256 = U := ⟨_, rfl⟩
  rw [hU] at u0 u1 u2
  have m1 : (MM false : Int) = 256 := rfl
  have sz : szN false = 8 := rfl
  have hT2 : mulT 87 a b false = decide (P < -128 ∨ 128 ≤ P) := by unfold mulT; rw [if_pos rfl, hP]; rfl
  have HT2 := Aside0.mk hT2
  clear hT2
  by_cases c1 : P < -128
  · have hT3 : mulT 87 a b false = true := by rw [HT2.out]; simp; omega
    go_enter Try.func4, Try.ntmps4
    go_wp2_with (first
      | (go_at_call 18; refine (mul_c 87 (by omega) a b false q1 q2 _).mono ?_; rintro e w' ⟨rfl, rfl⟩)
      | (go_at_call 16; refine (whole_c _ true false (by omega) _).mono ?_; rintro e w' ⟨rfl, ⟨nd, rfl⟩⟩)
      | (go_at_call 14; refine (rsize_c _ _).mono ?_; rintro e w' ⟨rfl, ⟨nd, rfl⟩⟩)
      | (go_at_call 17; refine (awake10_c _).mono ?_; rintro e w' ⟨rfl, ⟨nd, rfl⟩⟩))
    go_ret
    exact ⟨by first | rfl | exact rb (by simp; omega), by repeat (first | exact Below.refl _ _ | apply pw_below_drewN)⟩
  by_cases c2 : 128 ≤ P
  · have hT3 : mulT 87 a b false = true := by rw [HT2.out]; simp; omega
    go_enter Try.func4, Try.ntmps4
    go_wp2_with (first
      | (go_at_call 18; refine (mul_c 87 (by omega) a b false q1 q2 _).mono ?_; rintro e w' ⟨rfl, rfl⟩)
      | (go_at_call 16; refine (whole_c _ true false (by omega) _).mono ?_; rintro e w' ⟨rfl, ⟨nd, rfl⟩⟩)
      | (go_at_call 14; refine (rsize_c _ _).mono ?_; rintro e w' ⟨rfl, ⟨nd, rfl⟩⟩)
      | (go_at_call 17; refine (awake10_c _).mono ?_; rintro e w' ⟨rfl, ⟨nd, rfl⟩⟩))
    go_ret
    exact ⟨by first | rfl | exact rb (by simp; omega), by repeat (first | exact Below.refl _ _ | apply pw_below_drewN)⟩
  · have hT3 : mulT 87 a b false = false := by rw [HT2.out]; simp; omega
    go_enter Try.func4, Try.ntmps4
    go_wp2_with (first
      | (go_at_call 18; refine (mul_c 87 (by omega) a b false q1 q2 _).mono ?_; rintro e w' ⟨rfl, rfl⟩)
      | (go_at_call 16; refine (whole_c _ true false (by omega) _).mono ?_; rintro e w' ⟨rfl, ⟨nd, rfl⟩⟩)
      | (go_at_call 14; refine (rsize_c _ _).mono ?_; rintro e w' ⟨rfl, ⟨nd, rfl⟩⟩)
      | (go_at_call 17; refine (awake10_c _).mono ?_; rintro e w' ⟨rfl, ⟨nd, rfl⟩⟩))
    go_ret
    exact ⟨by first | rfl | exact rb (by simp; omega), by repeat (first | exact Below.refl _ _ | apply pw_below_drewN)⟩

set_option maxRecDepth 100000 in
set_option maxHeartbeats 4000000 in
theorem mul_87_true (a b how : Int) (w : World) (a0 : 0 ≤ a) (a1 : a < 65536) (b0 : 0 ≤ b) (b1 : b < 65536) (h1 : Go.bits .and .i64 how 1 = 1) (h2 : decide (0 < Go.bits .and .i64 how 2) = true) :
    Calls Try.prog 4 #[.int .u16 a, .int .u16 b, .int .i64 how] w fun e w' => e = .returned (.bool true) ∧ Below w.heap.size w w' := by
  obtain ⟨a, rfl⟩ := Int.eq_ofNat_of_zero_le a0
  obtain ⟨b, rfl⟩ := Int.eq_ofNat_of_zero_le b0
  have q1 : a < 65536 := by omega
  have q2 : b < 65536 := by omega
  obtain ⟨P, hP⟩ : ∃ P, mulP 87 a b true = P := ⟨_, rfl⟩
  have hP2 : wholeM a true true * wholeM b true true = P := hP
  have hb : -4294967296 ≤ P ∧ P ≤ 4294967296 := by
    rw [← hP]
    have hx := cutN_lt a true
    have hy := cutN_lt b true
    have sx := sprM_b a true
    have sy := sprM_b b true
    have hh := HH_le true
    have := prod_m (wholeM a true true) (wholeM b true true) 65536 (by unfold wholeM; simp <;> omega) (by unfold wholeM; simp <;> omega) (by unfold wholeM; simp <;> omega) (by unfold wholeM; simp <;> omega)
    show -4294967296 ≤ wholeM a true true * wholeM b true true ∧ wholeM a true true * wholeM b true true ≤ 4294967296
    omega
  obtain ⟨p0, p1⟩ := hb
  obtain ⟨L, hL⟩ : ∃ L, P % 65536 = L := ⟨_, rfl⟩
  obtain ⟨Q, hQ⟩ : ∃ Q, P / 65536 = Q := ⟨_, rfl⟩
  have l0 : 0 ≤ L := by omega
  have l1 : L < 65536 := by omega
  have t0 := tmod_up P 65536 (by omega)
  obtain ⟨t1, t2⟩ := tmod_bb P 65536 (by omega)
  obtain ⟨T, hT⟩ : ∃ T, Int.tmod P 65536 = T := ⟨_, rfl⟩
  rw [hT] at t0 t1 t2
  rw [hL] at t0
  have d1 := tdiv_ex P 65536 (by omega)
  have d2 := ediv_ex P 65536 (by omega)
  rw [hL, hQ] at d1 d2
  have qb : -16777216 ≤ Q ∧ Q ≤ 16777216 := by omega
  obtain ⟨qb0, qb1⟩ := qb
  have u0 := tmod_up Q 65536 (by omega)
  obtain ⟨u1, u2⟩ := tmod_bb Q 65536 (by omega)
  obtain ⟨U, hU⟩ : ∃ U, Int.tmod Q 65536 = U := ⟨_, rfl⟩
  rw [hU] at u0 u1 u2
  have m1 : (MM true : Int) = 65536 := rfl
  have sz : szN true = 16 := rfl
  have hT2 : mulT 87 a b true = decide (P < -32768 ∨ 32768 ≤ P) := by unfold mulT; rw [if_pos rfl, hP]; rfl
  have HT2 := Aside0.mk hT2
  clear hT2
  by_cases c1 : P < -32768
  · have hT3 : mulT 87 a b true = true := by rw [HT2.out]; simp; omega
    go_enter Try.func4, Try.ntmps4
    go_wp2_with (first
      | (go_at_call 18; refine (mul_c 87 (by omega) a b true q1 q2 _).mono ?_; rintro e w' ⟨rfl, rfl⟩)
      | (go_at_call 16; refine (whole_c _ true true (by omega) _).mono ?_; rintro e w' ⟨rfl, ⟨nd, rfl⟩⟩)
      | (go_at_call 14; refine (rsize_c _ _).mono ?_; rintro e w' ⟨rfl, ⟨nd, rfl⟩⟩)
      | (go_at_call 17; refine (awake10_c _).mono ?_; rintro e w' ⟨rfl, ⟨nd, rfl⟩⟩))
    go_ret
    exact ⟨by first | rfl | exact rb (by simp; omega), by repeat (first | exact Below.refl _ _ | apply pw_below_drewN)⟩
  by_cases c2 : 32768 ≤ P
  · have hT3 : mulT 87 a b true = true := by rw [HT2.out]; simp; omega
    go_enter Try.func4, Try.ntmps4
    go_wp2_with (first
      | (go_at_call 18; refine (mul_c 87 (by omega) a b true q1 q2 _).mono ?_; rintro e w' ⟨rfl, rfl⟩)
      | (go_at_call 16; refine (whole_c _ true true (by omega) _).mono ?_; rintro e w' ⟨rfl, ⟨nd, rfl⟩⟩)
      | (go_at_call 14; refine (rsize_c _ _).mono ?_; rintro e w' ⟨rfl, ⟨nd, rfl⟩⟩)
      | (go_at_call 17; refine (awake10_c _).mono ?_; rintro e w' ⟨rfl, ⟨nd, rfl⟩⟩))
    go_ret
    exact ⟨by first | rfl | exact rb (by simp; omega), by repeat (first | exact Below.refl _ _ | apply pw_below_drewN)⟩
  · have hT3 : mulT 87 a b true = false := by rw [HT2.out]; simp; omega
    go_enter Try.func4, Try.ntmps4
    go_wp2_with (first
      | (go_at_call 18; refine (mul_c 87 (by omega) a b true q1 q2 _).mono ?_; rintro e w' ⟨rfl, rfl⟩)
      | (go_at_call 16; refine (whole_c _ true true (by omega) _).mono ?_; rintro e w' ⟨rfl, ⟨nd, rfl⟩⟩)
      | (go_at_call 14; refine (rsize_c _ _).mono ?_; rintro e w' ⟨rfl, ⟨nd, rfl⟩⟩)
      | (go_at_call 17; refine (awake10_c _).mono ?_; rintro e w' ⟨rfl, ⟨nd, rfl⟩⟩))
    go_ret
    exact ⟨by first | rfl | exact rb (by simp; omega), by repeat (first | exact Below.refl _ _ | apply pw_below_drewN)⟩

theorem longMul_w (a b how : Int) (w : World) (wa : (Lit.int .u16 a).wf = true) (wb : (Lit.int .u16 b).wf = true) (wh : (Lit.int .i64 how).wf = true) :
    Calls Try.prog 4 #[.int .u16 a, .int .u16 b, .int .i64 how] w fun e w' => e = .returned (.bool true) ∧ Below w.heap.size w w' := by
  obtain ⟨a0, a1⟩ := wf_u16 wa
  obtain ⟨b0, b1⟩ := wf_u16 wb
  have hk := i64_mask 1 (by omega) how
  simp only [Int.pow_one] at hk
  rw [show (2 : Int) - 1 = 1 from rfl] at hk
  rcases Int.emod_two_eq how with h | h <;> cases h2 : decide (0 < Go.bits .and .i64 how 2)
  · exact mul_86_false a b how w a0 a1 b0 b1 (by rw [hk, h]) h2
  · exact mul_86_true a b how w a0 a1 b0 b1 (by rw [hk, h]) h2
  · exact mul_87_false a b how w a0 a1 b0 b1 (by rw [hk, h]) h2
  · exact mul_87_true a b how w a0 a1 b0 b1 (by rw [hk, h]) h2
end Go.Proofs.Ytefdfcdgghoknaa.My
