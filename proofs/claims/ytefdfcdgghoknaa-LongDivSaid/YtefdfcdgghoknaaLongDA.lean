/- The walk of the law LongDiv: it returns true at every input. -/
import Derived.Test.YtefdfcdgghoknaaLongV
namespace Go.Proofs.Ytefdfcdgghoknaa.My
open Go.RowKit Go.Proofs.YtefdfcdgghoknaaW.PrintWords Go.Proofs.YtefdfcdgghoknaaW.PrintLast Go.Proofs.YtefdfcdgghoknaaW.PrintMore
set_option linter.unusedVariables false
set_option linter.unusedSimpArgs false

set_option maxRecDepth 100000 in
set_option maxHeartbeats 16000000 in
theorem div_88_true_00 (n0 n1 n2 : Nat) (how : Int) (w : World) (a0 : n0 < 65536) (a1 : n1 < 65536) (a2 : n2 < 65536) (h1 : Go.bits .and .i64 how 1 = 0) (h2 : decide (0 < Go.bits .and .i64 how 2) = true) (h4 : decide (0 < Go.bits .and .i64 how 4) = false) (h8 : decide (0 < Go.bits .and .i64 how 8) = false) :
    Calls Try.prog 3 #[.agg #[.int .u16 n0, .int .u16 n1, .int .u16 n2], .int .i64 how] w fun e w' => e = .returned (.bool true) ∧ Below w.heap.size w w' := by
  have m1 : szN true = 16 := rfl
  have cM := cutN_M n2 true
  have dL := dvdN_lt n0 n1 true
  have cH := cutN_M n1 true
  have cL := cutN_M n0 true
  simp [MM] at cM dL cH cL
  by_cases hz : cutN n2 true = 0
  · have hw : wholeM n2 false true = 0 := by simp [wholeM, hz]
    have HZ := Aside0.mk hz
    have hA1 : ((cutN n1 true : Nat) : Int) * 65536 + ((cutN n0 true : Nat) : Int) = ((dvdN n0 n1 true : Nat) : Int) := by unfold dvdN; simp [MM]
    clear hz
    go_enter Try.func3, Try.ntmps3
    go_wp2_with fail
    go_quiet (fail)
    go_wp2_with fail
    refine (divz_88_true n0 n1 n2 a0 (by omega) (by omega) HZ.out _).mono ?_
    rintro e w' ⟨rfl, ⟨nd, rfl⟩⟩
    go_wp2_with (first
      | (go_at_call 16; refine (whole_c _ false true (by omega) _).mono ?_; rintro e w' ⟨rfl, ⟨nd, rfl⟩⟩)
      | (go_at_call 15; refine (rcut_c _ _ (by omega) _).mono ?_; rintro e w' ⟨rfl, ⟨nd, rfl⟩⟩)
      | (go_at_call 14; refine (rsize_c _ _).mono ?_; rintro e w' ⟨rfl, ⟨nd, rfl⟩⟩)
      | (go_at_call 17; refine (awake10_c _).mono ?_; rintro e w' ⟨rfl, ⟨nd, rfl⟩⟩))
    go_ret
    exact ⟨by first | rfl | exact rb (by simp; omega), by repeat (first | exact Below.refl _ _ | apply pw_below_drewN | apply below_alloc)⟩
  · have hw : wholeM n2 false true = ((cutN n2 true : Nat) : Int) := rfl
    have hA1 : ((cutN n1 true : Nat) : Int) * 65536 + ((cutN n0 true : Nat) : Int) = ((dvdN n0 n1 true : Nat) : Int) := by unfold dvdN; simp [MM]
    have HZ := Aside0.mk hz
    obtain ⟨C, hC⟩ : ∃ C, cutN n2 true = C := ⟨_, rfl⟩
    obtain ⟨D, hD⟩ : ∃ D, dvdN n0 n1 true = D := ⟨_, rfl⟩
    have z0 : ((C : Int) == 0) = false := by rw [beq_eq_false_iff_ne]; omega
    by_cases hb : dvdN n0 n1 true / cutN n2 true < 65536
    · have HB := Aside0.mk hb
      rw [hD] at hA1 dL hb
      rw [hC] at hw cM hz hb
      have k1 : (D : Int) / C ≤ 65535 := by rw [cdiv]; omega
      have k0 : 0 ≤ (D : Int) / C := by rw [cdiv]; exact Int.natCast_nonneg _
      have m0 : 0 ≤ (D : Int) % C := by rw [cmod]; exact Int.natCast_nonneg _
      have m2 : (D : Int) % C ≤ 65535 := by have := Nat.mod_lt D (show 0 < C by omega); rw [cmod]; omega
      obtain ⟨X, hX⟩ : ∃ X, (D : Int) / C = X := ⟨_, rfl⟩
      obtain ⟨Y, hY⟩ : ∃ Y, (D : Int) % C = Y := ⟨_, rfl⟩
      rw [hX] at k0 k1
      rw [hY] at m0 m2
      have x1 : X % 65536 = X := by omega
      have x2 : (X + 65536) % 65536 = X := by omega
      have y1 : Y % 65536 = Y := by omega
      have y2 : (Y + 65536) % 65536 = Y := by omega
      clear hb
      go_enter Try.func3, Try.ntmps3
      go_wp2_with fail
      go_quiet (fail)
      go_wp2_with fail
      refine (divo_88_true n0 n1 n2 a0 (by omega) (by omega) HZ.out HB.out _).mono ?_
      rintro e w' ⟨rfl, ⟨nd, rfl⟩⟩
      go_wp2_with (first
        | (go_at_call 16; refine (whole_c _ false true (by omega) _).mono ?_; rintro e w' ⟨rfl, ⟨nd, rfl⟩⟩)
        | (go_at_call 15; refine (rcut_c _ _ (by omega) _).mono ?_; rintro e w' ⟨rfl, ⟨nd, rfl⟩⟩)
        | (go_at_call 14; refine (rsize_c _ _).mono ?_; rintro e w' ⟨rfl, ⟨nd, rfl⟩⟩)
        | (go_at_call 17; refine (awake10_c _).mono ?_; rintro e w' ⟨rfl, ⟨nd, rfl⟩⟩))
      go_quiet (fail)
      go_wp2_with (first
        | (go_at_call 16; refine (whole_c _ false true (by omega) _).mono ?_; rintro e w' ⟨rfl, ⟨nd, rfl⟩⟩)
        | (go_at_call 15; refine (rcut_c _ _ (by omega) _).mono ?_; rintro e w' ⟨rfl, ⟨nd, rfl⟩⟩)
        | (go_at_call 14; refine (rsize_c _ _).mono ?_; rintro e w' ⟨rfl, ⟨nd, rfl⟩⟩)
        | (go_at_call 17; refine (awake10_c _).mono ?_; rintro e w' ⟨rfl, ⟨nd, rfl⟩⟩))
      go_ret
      exact ⟨by first | rfl | exact rb (by simp; omega), by repeat (first | exact Below.refl _ _ | apply pw_below_drewN | apply below_alloc)⟩
    · have HB := Aside0.mk (show 65536 ≤ dvdN n0 n1 true / cutN n2 true by omega)
      rw [hD] at hA1 dL hb
      rw [hC] at hw cM hz hb
      have k1 : 65535 < (D : Int) / C := by rw [cdiv]; omega
      have k2 : (D : Int) / C ≤ D := by have := Nat.div_le_self D C; rw [cdiv]; omega
      clear hb
      go_enter Try.func3, Try.ntmps3
      go_wp2_with fail
      go_quiet (fail)
      go_wp2_with fail
      refine (divb_88_true n0 n1 n2 a0 (by omega) (by omega) HZ.out HB.out _).mono ?_
      rintro e w' ⟨rfl, ⟨nd, rfl⟩⟩
      go_wp2_with (first
        | (go_at_call 16; refine (whole_c _ false true (by omega) _).mono ?_; rintro e w' ⟨rfl, ⟨nd, rfl⟩⟩)
        | (go_at_call 15; refine (rcut_c _ _ (by omega) _).mono ?_; rintro e w' ⟨rfl, ⟨nd, rfl⟩⟩)
        | (go_at_call 14; refine (rsize_c _ _).mono ?_; rintro e w' ⟨rfl, ⟨nd, rfl⟩⟩)
        | (go_at_call 17; refine (awake10_c _).mono ?_; rintro e w' ⟨rfl, ⟨nd, rfl⟩⟩))
      go_ret
      exact ⟨by first | rfl | exact rb (by simp; omega), by repeat (first | exact Below.refl _ _ | apply pw_below_drewN | apply below_alloc)⟩

set_option maxRecDepth 100000 in
set_option maxHeartbeats 16000000 in
theorem div_88_true_01 (n0 n1 n2 : Nat) (how : Int) (w : World) (a0 : n0 < 65536) (a1 : n1 < 65536) (a2 : n2 < 65536) (h1 : Go.bits .and .i64 how 1 = 0) (h2 : decide (0 < Go.bits .and .i64 how 2) = true) (h4 : decide (0 < Go.bits .and .i64 how 4) = false) (h8 : decide (0 < Go.bits .and .i64 how 8) = true) :
    Calls Try.prog 3 #[.agg #[.int .u16 n0, .int .u16 n1, .int .u16 n2], .int .i64 how] w fun e w' => e = .returned (.bool true) ∧ Below w.heap.size w w' := by
  have m1 : szN true = 16 := rfl
  have hand2 := and15 n2 a2
  obtain ⟨b15, h15⟩ : ∃ b15, ((n2 % 16 : Nat) : Int) = b15 := ⟨_, rfl⟩
  rw [h15] at hand2
  have b150 : 0 ≤ b15 := by omega
  have b151 : b15 ≤ 15 := by omega
  obtain ⟨BY, hBY⟩ : ∃ BY : Nat, b15 + 1 = (BY : Int) := ⟨n2 % 16 + 1, by omega⟩
  have hBl : BY < 65536 := by omega
  clear h15
  have cM := cutN_M BY true
  have dL := dvdN_lt n0 n1 true
  have cH := cutN_M n1 true
  have cL := cutN_M n0 true
  simp [MM] at cM dL cH cL
  by_cases hz : cutN BY true = 0
  · have hw : wholeM BY false true = 0 := by simp [wholeM, hz]
    have HZ := Aside0.mk hz
    have hA1 : ((cutN n1 true : Nat) : Int) * 65536 + ((cutN n0 true : Nat) : Int) = ((dvdN n0 n1 true : Nat) : Int) := by unfold dvdN; simp [MM]
    clear hz
    go_enter Try.func3, Try.ntmps3
    go_wp2_with fail
    go_quiet (fail)
    go_wp2_with fail
    refine (divz_88_true n0 n1 BY a0 (by omega) (by omega) HZ.out _).mono ?_
    rintro e w' ⟨rfl, ⟨nd, rfl⟩⟩
    go_wp2_with (first
      | (go_at_call 16; refine (whole_c _ false true (by omega) _).mono ?_; rintro e w' ⟨rfl, ⟨nd, rfl⟩⟩)
      | (go_at_call 15; refine (rcut_c _ _ (by omega) _).mono ?_; rintro e w' ⟨rfl, ⟨nd, rfl⟩⟩)
      | (go_at_call 14; refine (rsize_c _ _).mono ?_; rintro e w' ⟨rfl, ⟨nd, rfl⟩⟩)
      | (go_at_call 17; refine (awake10_c _).mono ?_; rintro e w' ⟨rfl, ⟨nd, rfl⟩⟩))
    go_ret
    exact ⟨by first | rfl | exact rb (by simp; omega), by repeat (first | exact Below.refl _ _ | apply pw_below_drewN | apply below_alloc)⟩
  · have hw : wholeM BY false true = ((cutN BY true : Nat) : Int) := rfl
    have hA1 : ((cutN n1 true : Nat) : Int) * 65536 + ((cutN n0 true : Nat) : Int) = ((dvdN n0 n1 true : Nat) : Int) := by unfold dvdN; simp [MM]
    have HZ := Aside0.mk hz
    obtain ⟨C, hC⟩ : ∃ C, cutN BY true = C := ⟨_, rfl⟩
    obtain ⟨D, hD⟩ : ∃ D, dvdN n0 n1 true = D := ⟨_, rfl⟩
    have z0 : ((C : Int) == 0) = false := by rw [beq_eq_false_iff_ne]; omega
    by_cases hb : dvdN n0 n1 true / cutN BY true < 65536
    · have HB := Aside0.mk hb
      rw [hD] at hA1 dL hb
      rw [hC] at hw cM hz hb
      have k1 : (D : Int) / C ≤ 65535 := by rw [cdiv]; omega
      have k0 : 0 ≤ (D : Int) / C := by rw [cdiv]; exact Int.natCast_nonneg _
      have m0 : 0 ≤ (D : Int) % C := by rw [cmod]; exact Int.natCast_nonneg _
      have m2 : (D : Int) % C ≤ 65535 := by have := Nat.mod_lt D (show 0 < C by omega); rw [cmod]; omega
      obtain ⟨X, hX⟩ : ∃ X, (D : Int) / C = X := ⟨_, rfl⟩
      obtain ⟨Y, hY⟩ : ∃ Y, (D : Int) % C = Y := ⟨_, rfl⟩
      rw [hX] at k0 k1
      rw [hY] at m0 m2
      have x1 : X % 65536 = X := by omega
      have x2 : (X + 65536) % 65536 = X := by omega
      have y1 : Y % 65536 = Y := by omega
      have y2 : (Y + 65536) % 65536 = Y := by omega
      clear hb
      go_enter Try.func3, Try.ntmps3
      go_wp2_with fail
      go_quiet (fail)
      go_wp2_with fail
      refine (divo_88_true n0 n1 BY a0 (by omega) (by omega) HZ.out HB.out _).mono ?_
      rintro e w' ⟨rfl, ⟨nd, rfl⟩⟩
      go_wp2_with (first
        | (go_at_call 16; refine (whole_c _ false true (by omega) _).mono ?_; rintro e w' ⟨rfl, ⟨nd, rfl⟩⟩)
        | (go_at_call 15; refine (rcut_c _ _ (by omega) _).mono ?_; rintro e w' ⟨rfl, ⟨nd, rfl⟩⟩)
        | (go_at_call 14; refine (rsize_c _ _).mono ?_; rintro e w' ⟨rfl, ⟨nd, rfl⟩⟩)
        | (go_at_call 17; refine (awake10_c _).mono ?_; rintro e w' ⟨rfl, ⟨nd, rfl⟩⟩))
      go_quiet (fail)
      go_wp2_with (first
        | (go_at_call 16; refine (whole_c _ false true (by omega) _).mono ?_; rintro e w' ⟨rfl, ⟨nd, rfl⟩⟩)
        | (go_at_call 15; refine (rcut_c _ _ (by omega) _).mono ?_; rintro e w' ⟨rfl, ⟨nd, rfl⟩⟩)
        | (go_at_call 14; refine (rsize_c _ _).mono ?_; rintro e w' ⟨rfl, ⟨nd, rfl⟩⟩)
        | (go_at_call 17; refine (awake10_c _).mono ?_; rintro e w' ⟨rfl, ⟨nd, rfl⟩⟩))
      go_ret
      exact ⟨by first | rfl | exact rb (by simp; omega), by repeat (first | exact Below.refl _ _ | apply pw_below_drewN | apply below_alloc)⟩
    · have HB := Aside0.mk (show 65536 ≤ dvdN n0 n1 true / cutN BY true by omega)
      rw [hD] at hA1 dL hb
      rw [hC] at hw cM hz hb
      have k1 : 65535 < (D : Int) / C := by rw [cdiv]; omega
      have k2 : (D : Int) / C ≤ D := by have := Nat.div_le_self D C; rw [cdiv]; omega
      clear hb
      go_enter Try.func3, Try.ntmps3
      go_wp2_with fail
      go_quiet (fail)
      go_wp2_with fail
      refine (divb_88_true n0 n1 BY a0 (by omega) (by omega) HZ.out HB.out _).mono ?_
      rintro e w' ⟨rfl, ⟨nd, rfl⟩⟩
      go_wp2_with (first
        | (go_at_call 16; refine (whole_c _ false true (by omega) _).mono ?_; rintro e w' ⟨rfl, ⟨nd, rfl⟩⟩)
        | (go_at_call 15; refine (rcut_c _ _ (by omega) _).mono ?_; rintro e w' ⟨rfl, ⟨nd, rfl⟩⟩)
        | (go_at_call 14; refine (rsize_c _ _).mono ?_; rintro e w' ⟨rfl, ⟨nd, rfl⟩⟩)
        | (go_at_call 17; refine (awake10_c _).mono ?_; rintro e w' ⟨rfl, ⟨nd, rfl⟩⟩))
      go_ret
      exact ⟨by first | rfl | exact rb (by simp; omega), by repeat (first | exact Below.refl _ _ | apply pw_below_drewN | apply below_alloc)⟩

set_option maxRecDepth 100000 in
set_option maxHeartbeats 16000000 in
theorem div_88_true_10 (n0 n1 n2 : Nat) (how : Int) (w : World) (a0 : n0 < 65536) (a1 : n1 < 65536) (a2 : n2 < 65536) (h1 : Go.bits .and .i64 how 1 = 0) (h2 : decide (0 < Go.bits .and .i64 how 2) = true) (h4 : decide (0 < Go.bits .and .i64 how 4) = true) (h8 : decide (0 < Go.bits .and .i64 how 8) = false) :
    Calls Try.prog 3 #[.agg #[.int .u16 n0, .int .u16 n1, .int .u16 n2], .int .i64 how] w fun e w' => e = .returned (.bool true) ∧ Below w.heap.size w w' := by
  have m1 : szN true = 16 := rfl
  have hand1 : Go.bits .and .u16 (n1 : Int) 3 = ((n1 % 4 : Nat) : Int) := by
    rw [u16_and _ _ (by omega) (by omega) (by omega) (by omega), show (3 : Int).toNat = 2 ^ 2 - 1 from rfl, Nat.and_two_pow_sub_one_eq_mod]; rfl
  obtain ⟨HI, hHI⟩ : ∃ HI, n1 % 4 = HI := ⟨_, rfl⟩
  rw [hHI] at hand1
  have hHl : HI < 65536 := by omega
  clear hHI
  have cM := cutN_M n2 true
  have dL := dvdN_lt n0 HI true
  have cH := cutN_M HI true
  have cL := cutN_M n0 true
  simp [MM] at cM dL cH cL
  by_cases hz : cutN n2 true = 0
  · have hw : wholeM n2 false true = 0 := by simp [wholeM, hz]
    have HZ := Aside0.mk hz
    have hA1 : ((cutN HI true : Nat) : Int) * 65536 + ((cutN n0 true : Nat) : Int) = ((dvdN n0 HI true : Nat) : Int) := by unfold dvdN; simp [MM]
    clear hz
    go_enter Try.func3, Try.ntmps3
    go_wp2_with fail
    go_quiet (fail)
    go_wp2_with fail
    refine (divz_88_true n0 HI n2 a0 (by omega) (by omega) HZ.out _).mono ?_
    rintro e w' ⟨rfl, ⟨nd, rfl⟩⟩
    go_wp2_with (first
      | (go_at_call 16; refine (whole_c _ false true (by omega) _).mono ?_; rintro e w' ⟨rfl, ⟨nd, rfl⟩⟩)
      | (go_at_call 15; refine (rcut_c _ _ (by omega) _).mono ?_; rintro e w' ⟨rfl, ⟨nd, rfl⟩⟩)
      | (go_at_call 14; refine (rsize_c _ _).mono ?_; rintro e w' ⟨rfl, ⟨nd, rfl⟩⟩)
      | (go_at_call 17; refine (awake10_c _).mono ?_; rintro e w' ⟨rfl, ⟨nd, rfl⟩⟩))
    go_ret
    exact ⟨by first | rfl | exact rb (by simp; omega), by repeat (first | exact Below.refl _ _ | apply pw_below_drewN | apply below_alloc)⟩
  · have hw : wholeM n2 false true = ((cutN n2 true : Nat) : Int) := rfl
    have hA1 : ((cutN HI true : Nat) : Int) * 65536 + ((cutN n0 true : Nat) : Int) = ((dvdN n0 HI true : Nat) : Int) := by unfold dvdN; simp [MM]
    have HZ := Aside0.mk hz
    obtain ⟨C, hC⟩ : ∃ C, cutN n2 true = C := ⟨_, rfl⟩
    obtain ⟨D, hD⟩ : ∃ D, dvdN n0 HI true = D := ⟨_, rfl⟩
    have z0 : ((C : Int) == 0) = false := by rw [beq_eq_false_iff_ne]; omega
    by_cases hb : dvdN n0 HI true / cutN n2 true < 65536
    · have HB := Aside0.mk hb
      rw [hD] at hA1 dL hb
      rw [hC] at hw cM hz hb
      have k1 : (D : Int) / C ≤ 65535 := by rw [cdiv]; omega
      have k0 : 0 ≤ (D : Int) / C := by rw [cdiv]; exact Int.natCast_nonneg _
      have m0 : 0 ≤ (D : Int) % C := by rw [cmod]; exact Int.natCast_nonneg _
      have m2 : (D : Int) % C ≤ 65535 := by have := Nat.mod_lt D (show 0 < C by omega); rw [cmod]; omega
      obtain ⟨X, hX⟩ : ∃ X, (D : Int) / C = X := ⟨_, rfl⟩
      obtain ⟨Y, hY⟩ : ∃ Y, (D : Int) % C = Y := ⟨_, rfl⟩
      rw [hX] at k0 k1
      rw [hY] at m0 m2
      have x1 : X % 65536 = X := by omega
      have x2 : (X + 65536) % 65536 = X := by omega
      have y1 : Y % 65536 = Y := by omega
      have y2 : (Y + 65536) % 65536 = Y := by omega
      clear hb
      go_enter Try.func3, Try.ntmps3
      go_wp2_with fail
      go_quiet (fail)
      go_wp2_with fail
      refine (divo_88_true n0 HI n2 a0 (by omega) (by omega) HZ.out HB.out _).mono ?_
      rintro e w' ⟨rfl, ⟨nd, rfl⟩⟩
      go_wp2_with (first
        | (go_at_call 16; refine (whole_c _ false true (by omega) _).mono ?_; rintro e w' ⟨rfl, ⟨nd, rfl⟩⟩)
        | (go_at_call 15; refine (rcut_c _ _ (by omega) _).mono ?_; rintro e w' ⟨rfl, ⟨nd, rfl⟩⟩)
        | (go_at_call 14; refine (rsize_c _ _).mono ?_; rintro e w' ⟨rfl, ⟨nd, rfl⟩⟩)
        | (go_at_call 17; refine (awake10_c _).mono ?_; rintro e w' ⟨rfl, ⟨nd, rfl⟩⟩))
      go_quiet (fail)
      go_wp2_with (first
        | (go_at_call 16; refine (whole_c _ false true (by omega) _).mono ?_; rintro e w' ⟨rfl, ⟨nd, rfl⟩⟩)
        | (go_at_call 15; refine (rcut_c _ _ (by omega) _).mono ?_; rintro e w' ⟨rfl, ⟨nd, rfl⟩⟩)
        | (go_at_call 14; refine (rsize_c _ _).mono ?_; rintro e w' ⟨rfl, ⟨nd, rfl⟩⟩)
        | (go_at_call 17; refine (awake10_c _).mono ?_; rintro e w' ⟨rfl, ⟨nd, rfl⟩⟩))
      go_ret
      exact ⟨by first | rfl | exact rb (by simp; omega), by repeat (first | exact Below.refl _ _ | apply pw_below_drewN | apply below_alloc)⟩
    · have HB := Aside0.mk (show 65536 ≤ dvdN n0 HI true / cutN n2 true by omega)
      rw [hD] at hA1 dL hb
      rw [hC] at hw cM hz hb
      have k1 : 65535 < (D : Int) / C := by rw [cdiv]; omega
      have k2 : (D : Int) / C ≤ D := by have := Nat.div_le_self D C; rw [cdiv]; omega
      clear hb
      go_enter Try.func3, Try.ntmps3
      go_wp2_with fail
      go_quiet (fail)
      go_wp2_with fail
      refine (divb_88_true n0 HI n2 a0 (by omega) (by omega) HZ.out HB.out _).mono ?_
      rintro e w' ⟨rfl, ⟨nd, rfl⟩⟩
      go_wp2_with (first
        | (go_at_call 16; refine (whole_c _ false true (by omega) _).mono ?_; rintro e w' ⟨rfl, ⟨nd, rfl⟩⟩)
        | (go_at_call 15; refine (rcut_c _ _ (by omega) _).mono ?_; rintro e w' ⟨rfl, ⟨nd, rfl⟩⟩)
        | (go_at_call 14; refine (rsize_c _ _).mono ?_; rintro e w' ⟨rfl, ⟨nd, rfl⟩⟩)
        | (go_at_call 17; refine (awake10_c _).mono ?_; rintro e w' ⟨rfl, ⟨nd, rfl⟩⟩))
      go_ret
      exact ⟨by first | rfl | exact rb (by simp; omega), by repeat (first | exact Below.refl _ _ | apply pw_below_drewN | apply below_alloc)⟩

set_option maxRecDepth 100000 in
set_option maxHeartbeats 16000000 in
theorem div_88_true_11 (n0 n1 n2 : Nat) (how : Int) (w : World) (a0 : n0 < 65536) (a1 : n1 < 65536) (a2 : n2 < 65536) (h1 : Go.bits .and .i64 how 1 = 0) (h2 : decide (0 < Go.bits .and .i64 how 2) = true) (h4 : decide (0 < Go.bits .and .i64 how 4) = true) (h8 : decide (0 < Go.bits .and .i64 how 8) = true) :
    Calls Try.prog 3 #[.agg #[.int .u16 n0, .int .u16 n1, .int .u16 n2], .int .i64 how] w fun e w' => e = .returned (.bool true) ∧ Below w.heap.size w w' := by
  have m1 : szN true = 16 := rfl
  have hand1 : Go.bits .and .u16 (n1 : Int) 3 = ((n1 % 4 : Nat) : Int) := by
    rw [u16_and _ _ (by omega) (by omega) (by omega) (by omega), show (3 : Int).toNat = 2 ^ 2 - 1 from rfl, Nat.and_two_pow_sub_one_eq_mod]; rfl
  obtain ⟨HI, hHI⟩ : ∃ HI, n1 % 4 = HI := ⟨_, rfl⟩
  rw [hHI] at hand1
  have hHl : HI < 65536 := by omega
  clear hHI
  have hand2 := and15 n2 a2
  obtain ⟨b15, h15⟩ : ∃ b15, ((n2 % 16 : Nat) : Int) = b15 := ⟨_, rfl⟩
  rw [h15] at hand2
  have b150 : 0 ≤ b15 := by omega
  have b151 : b15 ≤ 15 := by omega
  obtain ⟨BY, hBY⟩ : ∃ BY : Nat, b15 + 1 = (BY : Int) := ⟨n2 % 16 + 1, by omega⟩
  have hBl : BY < 65536 := by omega
  clear h15
  have cM := cutN_M BY true
  have dL := dvdN_lt n0 HI true
  have cH := cutN_M HI true
  have cL := cutN_M n0 true
  simp [MM] at cM dL cH cL
  by_cases hz : cutN BY true = 0
  · have hw : wholeM BY false true = 0 := by simp [wholeM, hz]
    have HZ := Aside0.mk hz
    have hA1 : ((cutN HI true : Nat) : Int) * 65536 + ((cutN n0 true : Nat) : Int) = ((dvdN n0 HI true : Nat) : Int) := by unfold dvdN; simp [MM]
    clear hz
    go_enter Try.func3, Try.ntmps3
    go_wp2_with fail
    go_quiet (fail)
    go_wp2_with fail
    refine (divz_88_true n0 HI BY a0 (by omega) (by omega) HZ.out _).mono ?_
    rintro e w' ⟨rfl, ⟨nd, rfl⟩⟩
    go_wp2_with (first
      | (go_at_call 16; refine (whole_c _ false true (by omega) _).mono ?_; rintro e w' ⟨rfl, ⟨nd, rfl⟩⟩)
      | (go_at_call 15; refine (rcut_c _ _ (by omega) _).mono ?_; rintro e w' ⟨rfl, ⟨nd, rfl⟩⟩)
      | (go_at_call 14; refine (rsize_c _ _).mono ?_; rintro e w' ⟨rfl, ⟨nd, rfl⟩⟩)
      | (go_at_call 17; refine (awake10_c _).mono ?_; rintro e w' ⟨rfl, ⟨nd, rfl⟩⟩))
    go_ret
    exact ⟨by first | rfl | exact rb (by simp; omega), by repeat (first | exact Below.refl _ _ | apply pw_below_drewN | apply below_alloc)⟩
  · have hw : wholeM BY false true = ((cutN BY true : Nat) : Int) := rfl
    have hA1 : ((cutN HI true : Nat) : Int) * 65536 + ((cutN n0 true : Nat) : Int) = ((dvdN n0 HI true : Nat) : Int) := by unfold dvdN; simp [MM]
    have HZ := Aside0.mk hz
    obtain ⟨C, hC⟩ : ∃ C, cutN BY true = C := ⟨_, rfl⟩
    obtain ⟨D, hD⟩ : ∃ D, dvdN n0 HI true = D := ⟨_, rfl⟩
    have z0 : ((C : Int) == 0) = false := by rw [beq_eq_false_iff_ne]; omega
    by_cases hb : dvdN n0 HI true / cutN BY true < 65536
    · have HB := Aside0.mk hb
      rw [hD] at hA1 dL hb
      rw [hC] at hw cM hz hb
      have k1 : (D : Int) / C ≤ 65535 := by rw [cdiv]; omega
      have k0 : 0 ≤ (D : Int) / C := by rw [cdiv]; exact Int.natCast_nonneg _
      have m0 : 0 ≤ (D : Int) % C := by rw [cmod]; exact Int.natCast_nonneg _
      have m2 : (D : Int) % C ≤ 65535 := by have := Nat.mod_lt D (show 0 < C by omega); rw [cmod]; omega
      obtain ⟨X, hX⟩ : ∃ X, (D : Int) / C = X := ⟨_, rfl⟩
      obtain ⟨Y, hY⟩ : ∃ Y, (D : Int) % C = Y := ⟨_, rfl⟩
      rw [hX] at k0 k1
      rw [hY] at m0 m2
      have x1 : X % 65536 = X := by omega
      have x2 : (X + 65536) % 65536 = X := by omega
      have y1 : Y % 65536 = Y := by omega
      have y2 : (Y + 65536) % 65536 = Y := by omega
      clear hb
      go_enter Try.func3, Try.ntmps3
      go_wp2_with fail
      go_quiet (fail)
      go_wp2_with fail
      refine (divo_88_true n0 HI BY a0 (by omega) (by omega) HZ.out HB.out _).mono ?_
      rintro e w' ⟨rfl, ⟨nd, rfl⟩⟩
      go_wp2_with (first
        | (go_at_call 16; refine (whole_c _ false true (by omega) _).mono ?_; rintro e w' ⟨rfl, ⟨nd, rfl⟩⟩)
        | (go_at_call 15; refine (rcut_c _ _ (by omega) _).mono ?_; rintro e w' ⟨rfl, ⟨nd, rfl⟩⟩)
        | (go_at_call 14; refine (rsize_c _ _).mono ?_; rintro e w' ⟨rfl, ⟨nd, rfl⟩⟩)
        | (go_at_call 17; refine (awake10_c _).mono ?_; rintro e w' ⟨rfl, ⟨nd, rfl⟩⟩))
      go_quiet (fail)
      go_wp2_with (first
        | (go_at_call 16; refine (whole_c _ false true (by omega) _).mono ?_; rintro e w' ⟨rfl, ⟨nd, rfl⟩⟩)
        | (go_at_call 15; refine (rcut_c _ _ (by omega) _).mono ?_; rintro e w' ⟨rfl, ⟨nd, rfl⟩⟩)
        | (go_at_call 14; refine (rsize_c _ _).mono ?_; rintro e w' ⟨rfl, ⟨nd, rfl⟩⟩)
        | (go_at_call 17; refine (awake10_c _).mono ?_; rintro e w' ⟨rfl, ⟨nd, rfl⟩⟩))
      go_ret
      exact ⟨by first | rfl | exact rb (by simp; omega), by repeat (first | exact Below.refl _ _ | apply pw_below_drewN | apply below_alloc)⟩
    · have HB := Aside0.mk (show 65536 ≤ dvdN n0 HI true / cutN BY true by omega)
      rw [hD] at hA1 dL hb
      rw [hC] at hw cM hz hb
      have k1 : 65535 < (D : Int) / C := by rw [cdiv]; omega
      have k2 : (D : Int) / C ≤ D := by have := Nat.div_le_self D C; rw [cdiv]; omega
      clear hb
      go_enter Try.func3, Try.ntmps3
      go_wp2_with fail
      go_quiet (fail)
      go_wp2_with fail
      refine (divb_88_true n0 HI BY a0 (by omega) (by omega) HZ.out HB.out _).mono ?_
      rintro e w' ⟨rfl, ⟨nd, rfl⟩⟩
      go_wp2_with (first
        | (go_at_call 16; refine (whole_c _ false true (by omega) _).mono ?_; rintro e w' ⟨rfl, ⟨nd, rfl⟩⟩)
        | (go_at_call 15; refine (rcut_c _ _ (by omega) _).mono ?_; rintro e w' ⟨rfl, ⟨nd, rfl⟩⟩)
        | (go_at_call 14; refine (rsize_c _ _).mono ?_; rintro e w' ⟨rfl, ⟨nd, rfl⟩⟩)
        | (go_at_call 17; refine (awake10_c _).mono ?_; rintro e w' ⟨rfl, ⟨nd, rfl⟩⟩))
      go_ret
      exact ⟨by first | rfl | exact rb (by simp; omega), by repeat (first | exact Below.refl _ _ | apply pw_below_drewN | apply below_alloc)⟩

set_option maxRecDepth 100000 in
set_option maxHeartbeats 16000000 in
theorem div_88_false_00 (n0 n1 n2 : Nat) (how : Int) (w : World) (a0 : n0 < 65536) (a1 : n1 < 65536) (a2 : n2 < 65536) (h1 : Go.bits .and .i64 how 1 = 0) (h2 : decide (0 < Go.bits .and .i64 how 2) = false) (h4 : decide (0 < Go.bits .and .i64 how 4) = false) (h8 : decide (0 < Go.bits .and .i64 how 8) = false) :
    Calls Try.prog 3 #[.agg #[.int .u16 n0, .int .u16 n1, .int .u16 n2], .int .i64 how] w fun e w' => e = .returned (.bool true) ∧ Below w.heap.size w w' := by
  have m1 : szN false = 8 := rfl
  have cM := cutN_M n2 false
  have dL := dvdN_lt n0 n1 false
  have cH := cutN_M n1 false
  have cL := cutN_M n0 false
  simp [MM] at cM dL cH cL
  by_cases hz : cutN n2 false = 0
  · have hw : wholeM n2 false false = 0 := by simp [wholeM, hz]
    have HZ := Aside0.mk hz
    have hA1 : ((cutN n1 false : Nat) : Int) * 256 + ((cutN n0 false : Nat) : Int) = ((dvdN n0 n1 false : Nat) : Int) := by unfold dvdN; simp [MM]
    clear hz
    go_enter Try.func3, Try.ntmps3
    go_wp2_with fail
    go_quiet (fail)
    go_wp2_with fail
    refine (divz_88_false n0 n1 n2 a0 (by omega) (by omega) HZ.out _).mono ?_
    rintro e w' ⟨rfl, ⟨nd, rfl⟩⟩
    go_wp2_with (first
      | (go_at_call 16; refine (whole_c _ false false (by omega) _).mono ?_; rintro e w' ⟨rfl, ⟨nd, rfl⟩⟩)
      | (go_at_call 15; refine (rcut_c _ _ (by omega) _).mono ?_; rintro e w' ⟨rfl, ⟨nd, rfl⟩⟩)
      | (go_at_call 14; refine (rsize_c _ _).mono ?_; rintro e w' ⟨rfl, ⟨nd, rfl⟩⟩)
      | (go_at_call 17; refine (awake10_c _).mono ?_; rintro e w' ⟨rfl, ⟨nd, rfl⟩⟩))
    go_ret
    exact ⟨by first | rfl | exact rb (by simp; omega), by repeat (first | exact Below.refl _ _ | apply pw_below_drewN | apply below_alloc)⟩
  · have hw : wholeM n2 false false = ((cutN n2 false : Nat) : Int) := rfl
    have hA1 : ((cutN n1 false : Nat) : Int) * 256 + ((cutN n0 false : Nat) : Int) = ((dvdN n0 n1 false : Nat) : Int) := by unfold dvdN; simp [MM]
    have HZ := Aside0.mk hz
    obtain ⟨C, hC⟩ : ∃ C, cutN n2 false = C := ⟨_, rfl⟩
    obtain ⟨D, hD⟩ : ∃ D, dvdN n0 n1 false = D := ⟨_, rfl⟩
    have z0 : ((C : Int) == 0) = false := by rw [beq_eq_false_iff_ne]; omega
    by_cases hb : dvdN n0 n1 false / cutN n2 false < 256
    · have HB := Aside0.mk hb
      rw [hD] at hA1 dL hb
      rw [hC] at hw cM hz hb
      have k1 : (D : Int) / C ≤ 255 := by rw [cdiv]; omega
      have k0 : 0 ≤ (D : Int) / C := by rw [cdiv]; exact Int.natCast_nonneg _
      have m0 : 0 ≤ (D : Int) % C := by rw [cmod]; exact Int.natCast_nonneg _
      have m2 : (D : Int) % C ≤ 255 := by have := Nat.mod_lt D (show 0 < C by omega); rw [cmod]; omega
      obtain ⟨X, hX⟩ : ∃ X, (D : Int) / C = X := ⟨_, rfl⟩
      obtain ⟨Y, hY⟩ : ∃ Y, (D : Int) % C = Y := ⟨_, rfl⟩
      rw [hX] at k0 k1
      rw [hY] at m0 m2
      have x1 : X % 256 = X := by omega
      have x2 : (X + 256) % 256 = X := by omega
      have y1 : Y % 256 = Y := by omega
      have y2 : (Y + 256) % 256 = Y := by omega
      clear hb
      go_enter Try.func3, Try.ntmps3
      go_wp2_with fail
      go_quiet (fail)
      go_wp2_with fail
      refine (divo_88_false n0 n1 n2 a0 (by omega) (by omega) HZ.out HB.out _).mono ?_
      rintro e w' ⟨rfl, ⟨nd, rfl⟩⟩
      go_wp2_with (first
        | (go_at_call 16; refine (whole_c _ false false (by omega) _).mono ?_; rintro e w' ⟨rfl, ⟨nd, rfl⟩⟩)
        | (go_at_call 15; refine (rcut_c _ _ (by omega) _).mono ?_; rintro e w' ⟨rfl, ⟨nd, rfl⟩⟩)
        | (go_at_call 14; refine (rsize_c _ _).mono ?_; rintro e w' ⟨rfl, ⟨nd, rfl⟩⟩)
        | (go_at_call 17; refine (awake10_c _).mono ?_; rintro e w' ⟨rfl, ⟨nd, rfl⟩⟩))
      go_quiet (fail)
      go_wp2_with (first
        | (go_at_call 16; refine (whole_c _ false false (by omega) _).mono ?_; rintro e w' ⟨rfl, ⟨nd, rfl⟩⟩)
        | (go_at_call 15; refine (rcut_c _ _ (by omega) _).mono ?_; rintro e w' ⟨rfl, ⟨nd, rfl⟩⟩)
        | (go_at_call 14; refine (rsize_c _ _).mono ?_; rintro e w' ⟨rfl, ⟨nd, rfl⟩⟩)
        | (go_at_call 17; refine (awake10_c _).mono ?_; rintro e w' ⟨rfl, ⟨nd, rfl⟩⟩))
      go_ret
      exact ⟨by first | rfl | exact rb (by simp; omega), by repeat (first | exact Below.refl _ _ | apply pw_below_drewN | apply below_alloc)⟩
    · have HB := Aside0.mk (show 256 ≤ dvdN n0 n1 false / cutN n2 false by omega)
      rw [hD] at hA1 dL hb
      rw [hC] at hw cM hz hb
      have k1 : 255 < (D : Int) / C := by rw [cdiv]; omega
      have k2 : (D : Int) / C ≤ D := by have := Nat.div_le_self D C; rw [cdiv]; omega
      clear hb
      go_enter Try.func3, Try.ntmps3
      go_wp2_with fail
      go_quiet (fail)
      go_wp2_with fail
      refine (divb_88_false n0 n1 n2 a0 (by omega) (by omega) HZ.out HB.out _).mono ?_
      rintro e w' ⟨rfl, ⟨nd, rfl⟩⟩
      go_wp2_with (first
        | (go_at_call 16; refine (whole_c _ false false (by omega) _).mono ?_; rintro e w' ⟨rfl, ⟨nd, rfl⟩⟩)
        | (go_at_call 15; refine (rcut_c _ _ (by omega) _).mono ?_; rintro e w' ⟨rfl, ⟨nd, rfl⟩⟩)
        | (go_at_call 14; refine (rsize_c _ _).mono ?_; rintro e w' ⟨rfl, ⟨nd, rfl⟩⟩)
        | (go_at_call 17; refine (awake10_c _).mono ?_; rintro e w' ⟨rfl, ⟨nd, rfl⟩⟩))
      go_ret
      exact ⟨by first | rfl | exact rb (by simp; omega), by repeat (first | exact Below.refl _ _ | apply pw_below_drewN | apply below_alloc)⟩

set_option maxRecDepth 100000 in
set_option maxHeartbeats 16000000 in
theorem div_88_false_01 (n0 n1 n2 : Nat) (how : Int) (w : World) (a0 : n0 < 65536) (a1 : n1 < 65536) (a2 : n2 < 65536) (h1 : Go.bits .and .i64 how 1 = 0) (h2 : decide (0 < Go.bits .and .i64 how 2) = false) (h4 : decide (0 < Go.bits .and .i64 how 4) = false) (h8 : decide (0 < Go.bits .and .i64 how 8) = true) :
    Calls Try.prog 3 #[.agg #[.int .u16 n0, .int .u16 n1, .int .u16 n2], .int .i64 how] w fun e w' => e = .returned (.bool true) ∧ Below w.heap.size w w' := by
  have m1 : szN false = 8 := rfl
  have hand2 := and15 n2 a2
  obtain ⟨b15, h15⟩ : ∃ b15, ((n2 % 16 : Nat) : Int) = b15 := ⟨_, rfl⟩
  rw [h15] at hand2
  have b150 : 0 ≤ b15 := by omega
  have b151 : b15 ≤ 15 := by omega
  obtain ⟨BY, hBY⟩ : ∃ BY : Nat, b15 + 1 = (BY : Int) := ⟨n2 % 16 + 1, by omega⟩
  have hBl : BY < 65536 := by omega
  clear h15
  have cM := cutN_M BY false
  have dL := dvdN_lt n0 n1 false
  have cH := cutN_M n1 false
  have cL := cutN_M n0 false
  simp [MM] at cM dL cH cL
  by_cases hz : cutN BY false = 0
  · have hw : wholeM BY false false = 0 := by simp [wholeM, hz]
    have HZ := Aside0.mk hz
    have hA1 : ((cutN n1 false : Nat) : Int) * 256 + ((cutN n0 false : Nat) : Int) = ((dvdN n0 n1 false : Nat) : Int) := by unfold dvdN; simp [MM]
    clear hz
    go_enter Try.func3, Try.ntmps3
    go_wp2_with fail
    go_quiet (fail)
    go_wp2_with fail
    refine (divz_88_false n0 n1 BY a0 (by omega) (by omega) HZ.out _).mono ?_
    rintro e w' ⟨rfl, ⟨nd, rfl⟩⟩
    go_wp2_with (first
      | (go_at_call 16; refine (whole_c _ false false (by omega) _).mono ?_; rintro e w' ⟨rfl, ⟨nd, rfl⟩⟩)
      | (go_at_call 15; refine (rcut_c _ _ (by omega) _).mono ?_; rintro e w' ⟨rfl, ⟨nd, rfl⟩⟩)
      | (go_at_call 14; refine (rsize_c _ _).mono ?_; rintro e w' ⟨rfl, ⟨nd, rfl⟩⟩)
      | (go_at_call 17; refine (awake10_c _).mono ?_; rintro e w' ⟨rfl, ⟨nd, rfl⟩⟩))
    go_ret
    exact ⟨by first | rfl | exact rb (by simp; omega), by repeat (first | exact Below.refl _ _ | apply pw_below_drewN | apply below_alloc)⟩
  · have hw : wholeM BY false false = ((cutN BY false : Nat) : Int) := rfl
    have hA1 : ((cutN n1 false : Nat) : Int) * 256 + ((cutN n0 false : Nat) : Int) = ((dvdN n0 n1 false : Nat) : Int) := by unfold dvdN; simp [MM]
    have HZ := Aside0.mk hz
    obtain ⟨C, hC⟩ : ∃ C, cutN BY false = C := ⟨_, rfl⟩
    obtain ⟨D, hD⟩ : ∃ D, dvdN n0 n1 false = D := ⟨_, rfl⟩
    have z0 : ((C : Int) == 0) = false := by rw [beq_eq_false_iff_ne]; omega
    by_cases hb : dvdN n0 n1 false / cutN BY false < 256
    · have HB := Aside0.mk hb
      rw [hD] at hA1 dL hb
      rw [hC] at hw cM hz hb
      have k1 : (D : Int) / C ≤ 255 := by rw [cdiv]; omega
      have k0 : 0 ≤ (D : Int) / C := by rw [cdiv]; exact Int.natCast_nonneg _
      have m0 : 0 ≤ (D : Int) % C := by rw [cmod]; exact Int.natCast_nonneg _
      have m2 : (D : Int) % C ≤ 255 := by have := Nat.mod_lt D (show 0 < C by omega); rw [cmod]; omega
      obtain ⟨X, hX⟩ : ∃ X, (D : Int) / C = X := ⟨_, rfl⟩
      obtain ⟨Y, hY⟩ : ∃ Y, (D : Int) % C = Y := ⟨_, rfl⟩
      rw [hX] at k0 k1
      rw [hY] at m0 m2
      have x1 : X % 256 = X := by omega
      have x2 : (X + 256) % 256 = X := by omega
      have y1 : Y % 256 = Y := by omega
      have y2 : (Y + 256) % 256 = Y := by omega
      clear hb
      go_enter Try.func3, Try.ntmps3
      go_wp2_with fail
      go_quiet (fail)
      go_wp2_with fail
      refine (divo_88_false n0 n1 BY a0 (by omega) (by omega) HZ.out HB.out _).mono ?_
      rintro e w' ⟨rfl, ⟨nd, rfl⟩⟩
      go_wp2_with (first
        | (go_at_call 16; refine (whole_c _ false false (by omega) _).mono ?_; rintro e w' ⟨rfl, ⟨nd, rfl⟩⟩)
        | (go_at_call 15; refine (rcut_c _ _ (by omega) _).mono ?_; rintro e w' ⟨rfl, ⟨nd, rfl⟩⟩)
        | (go_at_call 14; refine (rsize_c _ _).mono ?_; rintro e w' ⟨rfl, ⟨nd, rfl⟩⟩)
        | (go_at_call 17; refine (awake10_c _).mono ?_; rintro e w' ⟨rfl, ⟨nd, rfl⟩⟩))
      go_quiet (fail)
      go_wp2_with (first
        | (go_at_call 16; refine (whole_c _ false false (by omega) _).mono ?_; rintro e w' ⟨rfl, ⟨nd, rfl⟩⟩)
        | (go_at_call 15; refine (rcut_c _ _ (by omega) _).mono ?_; rintro e w' ⟨rfl, ⟨nd, rfl⟩⟩)
        | (go_at_call 14; refine (rsize_c _ _).mono ?_; rintro e w' ⟨rfl, ⟨nd, rfl⟩⟩)
        | (go_at_call 17; refine (awake10_c _).mono ?_; rintro e w' ⟨rfl, ⟨nd, rfl⟩⟩))
      go_ret
      exact ⟨by first | rfl | exact rb (by simp; omega), by repeat (first | exact Below.refl _ _ | apply pw_below_drewN | apply below_alloc)⟩
    · have HB := Aside0.mk (show 256 ≤ dvdN n0 n1 false / cutN BY false by omega)
      rw [hD] at hA1 dL hb
      rw [hC] at hw cM hz hb
      have k1 : 255 < (D : Int) / C := by rw [cdiv]; omega
      have k2 : (D : Int) / C ≤ D := by have := Nat.div_le_self D C; rw [cdiv]; omega
      clear hb
      go_enter Try.func3, Try.ntmps3
      go_wp2_with fail
      go_quiet (fail)
      go_wp2_with fail
      refine (divb_88_false n0 n1 BY a0 (by omega) (by omega) HZ.out HB.out _).mono ?_
      rintro e w' ⟨rfl, ⟨nd, rfl⟩⟩
      go_wp2_with (first
        | (go_at_call 16; refine (whole_c _ false false (by omega) _).mono ?_; rintro e w' ⟨rfl, ⟨nd, rfl⟩⟩)
        | (go_at_call 15; refine (rcut_c _ _ (by omega) _).mono ?_; rintro e w' ⟨rfl, ⟨nd, rfl⟩⟩)
        | (go_at_call 14; refine (rsize_c _ _).mono ?_; rintro e w' ⟨rfl, ⟨nd, rfl⟩⟩)
        | (go_at_call 17; refine (awake10_c _).mono ?_; rintro e w' ⟨rfl, ⟨nd, rfl⟩⟩))
      go_ret
      exact ⟨by first | rfl | exact rb (by simp; omega), by repeat (first | exact Below.refl _ _ | apply pw_below_drewN | apply below_alloc)⟩

set_option maxRecDepth 100000 in
set_option maxHeartbeats 16000000 in
theorem div_88_false_10 (n0 n1 n2 : Nat) (how : Int) (w : World) (a0 : n0 < 65536) (a1 : n1 < 65536) (a2 : n2 < 65536) (h1 : Go.bits .and .i64 how 1 = 0) (h2 : decide (0 < Go.bits .and .i64 how 2) = false) (h4 : decide (0 < Go.bits .and .i64 how 4) = true) (h8 : decide (0 < Go.bits .and .i64 how 8) = false) :
    Calls Try.prog 3 #[.agg #[.int .u16 n0, .int .u16 n1, .int .u16 n2], .int .i64 how] w fun e w' => e = .returned (.bool true) ∧ Below w.heap.size w w' := by
  have m1 : szN false = 8 := rfl
  have hand1 : Go.bits .and .u16 (n1 : Int) 3 = ((n1 % 4 : Nat) : Int) := by
    rw [u16_and _ _ (by omega) (by omega) (by omega) (by omega), show (3 : Int).toNat = 2 ^ 2 - 1 from rfl, Nat.and_two_pow_sub_one_eq_mod]; rfl
  obtain ⟨HI, hHI⟩ : ∃ HI, n1 % 4 = HI := ⟨_, rfl⟩
  rw [hHI] at hand1
  have hHl : HI < 65536 := by omega
  clear hHI
  have cM := cutN_M n2 false
  have dL := dvdN_lt n0 HI false
  have cH := cutN_M HI false
  have cL := cutN_M n0 false
  simp [MM] at cM dL cH cL
  by_cases hz : cutN n2 false = 0
  · have hw : wholeM n2 false false = 0 := by simp [wholeM, hz]
    have HZ := Aside0.mk hz
    have hA1 : ((cutN HI false : Nat) : Int) * 256 + ((cutN n0 false : Nat) : Int) = ((dvdN n0 HI false : Nat) : Int) := by unfold dvdN; simp [MM]
    clear hz
    go_enter Try.func3, Try.ntmps3
    go_wp2_with fail
    go_quiet (fail)
    go_wp2_with fail
    refine (divz_88_false n0 HI n2 a0 (by omega) (by omega) HZ.out _).mono ?_
    rintro e w' ⟨rfl, ⟨nd, rfl⟩⟩
    go_wp2_with (first
      | (go_at_call 16; refine (whole_c _ false false (by omega) _).mono ?_; rintro e w' ⟨rfl, ⟨nd, rfl⟩⟩)
      | (go_at_call 15; refine (rcut_c _ _ (by omega) _).mono ?_; rintro e w' ⟨rfl, ⟨nd, rfl⟩⟩)
      | (go_at_call 14; refine (rsize_c _ _).mono ?_; rintro e w' ⟨rfl, ⟨nd, rfl⟩⟩)
      | (go_at_call 17; refine (awake10_c _).mono ?_; rintro e w' ⟨rfl, ⟨nd, rfl⟩⟩))
    go_ret
    exact ⟨by first | rfl | exact rb (by simp; omega), by repeat (first | exact Below.refl _ _ | apply pw_below_drewN | apply below_alloc)⟩
  · have hw : wholeM n2 false false = ((cutN n2 false : Nat) : Int) := rfl
    have hA1 : ((cutN HI false : Nat) : Int) * 256 + ((cutN n0 false : Nat) : Int) = ((dvdN n0 HI false : Nat) : Int) := by unfold dvdN; simp [MM]
    have HZ := Aside0.mk hz
    obtain ⟨C, hC⟩ : ∃ C, cutN n2 false = C := ⟨_, rfl⟩
    obtain ⟨D, hD⟩ : ∃ D, dvdN n0 HI false = D := ⟨_, rfl⟩
    have z0 : ((C : Int) == 0) = false := by rw [beq_eq_false_iff_ne]; omega
    by_cases hb : dvdN n0 HI false / cutN n2 false < 256
    · have HB := Aside0.mk hb
      rw [hD] at hA1 dL hb
      rw [hC] at hw cM hz hb
      have k1 : (D : Int) / C ≤ 255 := by rw [cdiv]; omega
      have k0 : 0 ≤ (D : Int) / C := by rw [cdiv]; exact Int.natCast_nonneg _
      have m0 : 0 ≤ (D : Int) % C := by rw [cmod]; exact Int.natCast_nonneg _
      have m2 : (D : Int) % C ≤ 255 := by have := Nat.mod_lt D (show 0 < C by omega); rw [cmod]; omega
      obtain ⟨X, hX⟩ : ∃ X, (D : Int) / C = X := ⟨_, rfl⟩
      obtain ⟨Y, hY⟩ : ∃ Y, (D : Int) % C = Y := ⟨_, rfl⟩
      rw [hX] at k0 k1
      rw [hY] at m0 m2
      have x1 : X % 256 = X := by omega
      have x2 : (X + 256) % 256 = X := by omega
      have y1 : Y % 256 = Y := by omega
      have y2 : (Y + 256) % 256 = Y := by omega
      clear hb
      go_enter Try.func3, Try.ntmps3
      go_wp2_with fail
      go_quiet (fail)
      go_wp2_with fail
      refine (divo_88_false n0 HI n2 a0 (by omega) (by omega) HZ.out HB.out _).mono ?_
      rintro e w' ⟨rfl, ⟨nd, rfl⟩⟩
      go_wp2_with (first
        | (go_at_call 16; refine (whole_c _ false false (by omega) _).mono ?_; rintro e w' ⟨rfl, ⟨nd, rfl⟩⟩)
        | (go_at_call 15; refine (rcut_c _ _ (by omega) _).mono ?_; rintro e w' ⟨rfl, ⟨nd, rfl⟩⟩)
        | (go_at_call 14; refine (rsize_c _ _).mono ?_; rintro e w' ⟨rfl, ⟨nd, rfl⟩⟩)
        | (go_at_call 17; refine (awake10_c _).mono ?_; rintro e w' ⟨rfl, ⟨nd, rfl⟩⟩))
      go_quiet (fail)
      go_wp2_with (first
        | (go_at_call 16; refine (whole_c _ false false (by omega) _).mono ?_; rintro e w' ⟨rfl, ⟨nd, rfl⟩⟩)
        | (go_at_call 15; refine (rcut_c _ _ (by omega) _).mono ?_; rintro e w' ⟨rfl, ⟨nd, rfl⟩⟩)
        | (go_at_call 14; refine (rsize_c _ _).mono ?_; rintro e w' ⟨rfl, ⟨nd, rfl⟩⟩)
        | (go_at_call 17; refine (awake10_c _).mono ?_; rintro e w' ⟨rfl, ⟨nd, rfl⟩⟩))
      go_ret
      exact ⟨by first | rfl | exact rb (by simp; omega), by repeat (first | exact Below.refl _ _ | apply pw_below_drewN | apply below_alloc)⟩
    · have HB := Aside0.mk (show 256 ≤ dvdN n0 HI false / cutN n2 false by omega)
      rw [hD] at hA1 dL hb
      rw [hC] at hw cM hz hb
      have k1 : 255 < (D : Int) / C := by rw [cdiv]; omega
      have k2 : (D : Int) / C ≤ D := by have := Nat.div_le_self D C; rw [cdiv]; omega
      clear hb
      go_enter Try.func3, Try.ntmps3
      go_wp2_with fail
      go_quiet (fail)
      go_wp2_with fail
      refine (divb_88_false n0 HI n2 a0 (by omega) (by omega) HZ.out HB.out _).mono ?_
      rintro e w' ⟨rfl, ⟨nd, rfl⟩⟩
      go_wp2_with (first
        | (go_at_call 16; refine (whole_c _ false false (by omega) _).mono ?_; rintro e w' ⟨rfl, ⟨nd, rfl⟩⟩)
        | (go_at_call 15; refine (rcut_c _ _ (by omega) _).mono ?_; rintro e w' ⟨rfl, ⟨nd, rfl⟩⟩)
        | (go_at_call 14; refine (rsize_c _ _).mono ?_; rintro e w' ⟨rfl, ⟨nd, rfl⟩⟩)
        | (go_at_call 17; refine (awake10_c _).mono ?_; rintro e w' ⟨rfl, ⟨nd, rfl⟩⟩))
      go_ret
      exact ⟨by first | rfl | exact rb (by simp; omega), by repeat (first | exact Below.refl _ _ | apply pw_below_drewN | apply below_alloc)⟩

set_option maxRecDepth 100000 in
set_option maxHeartbeats 16000000 in
theorem div_88_false_11 (n0 n1 n2 : Nat) (how : Int) (w : World) (a0 : n0 < 65536) (a1 : n1 < 65536) (a2 : n2 < 65536) (h1 : Go.bits .and .i64 how 1 = 0) (h2 : decide (0 < Go.bits .and .i64 how 2) = false) (h4 : decide (0 < Go.bits .and .i64 how 4) = true) (h8 : decide (0 < Go.bits .and .i64 how 8) = true) :
    Calls Try.prog 3 #[.agg #[.int .u16 n0, .int .u16 n1, .int .u16 n2], .int .i64 how] w fun e w' => e = .returned (.bool true) ∧ Below w.heap.size w w' := by
  have m1 : szN false = 8 := rfl
  have hand1 : Go.bits .and .u16 (n1 : Int) 3 = ((n1 % 4 : Nat) : Int) := by
    rw [u16_and _ _ (by omega) (by omega) (by omega) (by omega), show (3 : Int).toNat = 2 ^ 2 - 1 from rfl, Nat.and_two_pow_sub_one_eq_mod]; rfl
  obtain ⟨HI, hHI⟩ : ∃ HI, n1 % 4 = HI := ⟨_, rfl⟩
  rw [hHI] at hand1
  have hHl : HI < 65536 := by omega
  clear hHI
  have hand2 := and15 n2 a2
  obtain ⟨b15, h15⟩ : ∃ b15, ((n2 % 16 : Nat) : Int) = b15 := ⟨_, rfl⟩
  rw [h15] at hand2
  have b150 : 0 ≤ b15 := by omega
  have b151 : b15 ≤ 15 := by omega
  obtain ⟨BY, hBY⟩ : ∃ BY : Nat, b15 + 1 = (BY : Int) := ⟨n2 % 16 + 1, by omega⟩
  have hBl : BY < 65536 := by omega
  clear h15
  have cM := cutN_M BY false
  have dL := dvdN_lt n0 HI false
  have cH := cutN_M HI false
  have cL := cutN_M n0 false
  simp [MM] at cM dL cH cL
  by_cases hz : cutN BY false = 0
  · have hw : wholeM BY false false = 0 := by simp [wholeM, hz]
    have HZ := Aside0.mk hz
    have hA1 : ((cutN HI false : Nat) : Int) * 256 + ((cutN n0 false : Nat) : Int) = ((dvdN n0 HI false : Nat) : Int) := by unfold dvdN; simp [MM]
    clear hz
    go_enter Try.func3, Try.ntmps3
    go_wp2_with fail
    go_quiet (fail)
    go_wp2_with fail
    refine (divz_88_false n0 HI BY a0 (by omega) (by omega) HZ.out _).mono ?_
    rintro e w' ⟨rfl, ⟨nd, rfl⟩⟩
    go_wp2_with (first
      | (go_at_call 16; refine (whole_c _ false false (by omega) _).mono ?_; rintro e w' ⟨rfl, ⟨nd, rfl⟩⟩)
      | (go_at_call 15; refine (rcut_c _ _ (by omega) _).mono ?_; rintro e w' ⟨rfl, ⟨nd, rfl⟩⟩)
      | (go_at_call 14; refine (rsize_c _ _).mono ?_; rintro e w' ⟨rfl, ⟨nd, rfl⟩⟩)
      | (go_at_call 17; refine (awake10_c _).mono ?_; rintro e w' ⟨rfl, ⟨nd, rfl⟩⟩))
    go_ret
    exact ⟨by first | rfl | exact rb (by simp; omega), by repeat (first | exact Below.refl _ _ | apply pw_below_drewN | apply below_alloc)⟩
  · have hw : wholeM BY false false = ((cutN BY false : Nat) : Int) := rfl
    have hA1 : ((cutN HI false : Nat) : Int) * 256 + ((cutN n0 false : Nat) : Int) = ((dvdN n0 HI false : Nat) : Int) := by unfold dvdN; simp [MM]
    have HZ := Aside0.mk hz
    obtain ⟨C, hC⟩ : ∃ C, cutN BY false = C := ⟨_, rfl⟩
    obtain ⟨D, hD⟩ : ∃ D, dvdN n0 HI false = D := ⟨_, rfl⟩
    have z0 : ((C : Int) == 0) = false := by rw [beq_eq_false_iff_ne]; omega
    by_cases hb : dvdN n0 HI false / cutN BY false < 256
    · have HB := Aside0.mk hb
      rw [hD] at hA1 dL hb
      rw [hC] at hw cM hz hb
      have k1 : (D : Int) / C ≤ 255 := by rw [cdiv]; omega
      have k0 : 0 ≤ (D : Int) / C := by rw [cdiv]; exact Int.natCast_nonneg _
      have m0 : 0 ≤ (D : Int) % C := by rw [cmod]; exact Int.natCast_nonneg _
      have m2 : (D : Int) % C ≤ 255 := by have := Nat.mod_lt D (show 0 < C by omega); rw [cmod]; omega
      obtain ⟨X, hX⟩ : ∃ X, (D : Int) / C = X := ⟨_, rfl⟩
      obtain ⟨Y, hY⟩ : ∃ Y, (D : Int) % C = Y := ⟨_, rfl⟩
      rw [hX] at k0 k1
      rw [hY] at m0 m2
      have x1 : X % 256 = X := by omega
      have x2 : (X + 256) % 256 = X := by omega
      have y1 : Y % 256 = Y := by omega
      have y2 : (Y + 256) % 256 = Y := by omega
      clear hb
      go_enter Try.func3, Try.ntmps3
      go_wp2_with fail
      go_quiet (fail)
      go_wp2_with fail
      refine (divo_88_false n0 HI BY a0 (by omega) (by omega) HZ.out HB.out _).mono ?_
      rintro e w' ⟨rfl, ⟨nd, rfl⟩⟩
      go_wp2_with (first
        | (go_at_call 16; refine (whole_c _ false false (by omega) _).mono ?_; rintro e w' ⟨rfl, ⟨nd, rfl⟩⟩)
        | (go_at_call 15; refine (rcut_c _ _ (by omega) _).mono ?_; rintro e w' ⟨rfl, ⟨nd, rfl⟩⟩)
        | (go_at_call 14; refine (rsize_c _ _).mono ?_; rintro e w' ⟨rfl, ⟨nd, rfl⟩⟩)
        | (go_at_call 17; refine (awake10_c _).mono ?_; rintro e w' ⟨rfl, ⟨nd, rfl⟩⟩))
      go_quiet (fail)
      go_wp2_with (first
        | (go_at_call 16; refine (whole_c _ false false (by omega) _).mono ?_; rintro e w' ⟨rfl, ⟨nd, rfl⟩⟩)
        | (go_at_call 15; refine (rcut_c _ _ (by omega) _).mono ?_; rintro e w' ⟨rfl, ⟨nd, rfl⟩⟩)
        | (go_at_call 14; refine (rsize_c _ _).mono ?_; rintro e w' ⟨rfl, ⟨nd, rfl⟩⟩)
        | (go_at_call 17; refine (awake10_c _).mono ?_; rintro e w' ⟨rfl, ⟨nd, rfl⟩⟩))
      go_ret
      exact ⟨by first | rfl | exact rb (by simp; omega), by repeat (first | exact Below.refl _ _ | apply pw_below_drewN | apply below_alloc)⟩
    · have HB := Aside0.mk (show 256 ≤ dvdN n0 HI false / cutN BY false by omega)
      rw [hD] at hA1 dL hb
      rw [hC] at hw cM hz hb
      have k1 : 255 < (D : Int) / C := by rw [cdiv]; omega
      have k2 : (D : Int) / C ≤ D := by have := Nat.div_le_self D C; rw [cdiv]; omega
      clear hb
      go_enter Try.func3, Try.ntmps3
      go_wp2_with fail
      go_quiet (fail)
      go_wp2_with fail
      refine (divb_88_false n0 HI BY a0 (by omega) (by omega) HZ.out HB.out _).mono ?_
      rintro e w' ⟨rfl, ⟨nd, rfl⟩⟩
      go_wp2_with (first
        | (go_at_call 16; refine (whole_c _ false false (by omega) _).mono ?_; rintro e w' ⟨rfl, ⟨nd, rfl⟩⟩)
        | (go_at_call 15; refine (rcut_c _ _ (by omega) _).mono ?_; rintro e w' ⟨rfl, ⟨nd, rfl⟩⟩)
        | (go_at_call 14; refine (rsize_c _ _).mono ?_; rintro e w' ⟨rfl, ⟨nd, rfl⟩⟩)
        | (go_at_call 17; refine (awake10_c _).mono ?_; rintro e w' ⟨rfl, ⟨nd, rfl⟩⟩))
      go_ret
      exact ⟨by first | rfl | exact rb (by simp; omega), by repeat (first | exact Below.refl _ _ | apply pw_below_drewN | apply below_alloc)⟩
end Go.Proofs.Ytefdfcdgghoknaa.My
