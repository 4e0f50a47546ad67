/- The walk of the law LongDiv: it returns true at every input. -/
import Derived.Test.YtefdfcdgghoknaaLongV
namespace Go.Proofs.Ytefdfcdgghoknaa.My
open Go.RowKit Go.Proofs.YtefdfcdgghoknaaW.PrintWords Go.Proofs.YtefdfcdgghoknaaW.PrintLast Go.Proofs.YtefdfcdgghoknaaW.PrintMore
set_option linter.unusedVariables false
set_option linter.unusedSimpArgs false

set_option maxRecDepth 100000 in
set_option maxHeartbeats 16000000 in
theorem div_89_true_00 (n0 n1 n2 : Nat) (how : Int) (w : World) (a0 : n0 < 65536) (a1 : n1 < 65536) (a2 : n2 < 65536) (h1 : Go.bits .and .i64 how 1 = 1) (h2 : decide (0 < Go.bits .and .i64 how 2) = true) (h4 : decide (0 < Go.bits .and .i64 how 4) = false) (h8 : decide (0 < Go.bits .and .i64 how 8) = false) :
    Calls Try.prog 3 #[.agg #[.int .u16 n0, .int .u16 n1, .int .u16 n2], .int .i64 how] w fun e w' => e = .returned (.bool true) ∧ Below w.heap.size w w' := by
  have m1 : szN true = 16 := rfl
  have cM := cutN_M n2 true
  have dL := dvdN_lt n0 n1 true
  have cH := cutN_M n1 true
  have cL := cutN_M n0 true
  simp [MM] at cM dL cH cL
  by_cases hz : cutN n2 true = 0
  · have hw : wholeM n2 true true = 0 := by simp [wholeM, sprM, hz, HH]
    have HZ := Aside0.mk hz
    obtain ⟨A0, hA1⟩ : ∃ A0, ((cutN n1 true : Nat) : Int) * 65536 + ((cutN n0 true : Nat) : Int) = A0 := ⟨_, rfl⟩
    have A00 : 0 ≤ A0 := by omega
    have A01 : A0 ≤ 4294967295 := by omega
    clear hz dL
    cases hs : decide (2147483648 ≤ A0)
    all_goals
      go_enter Try.func3, Try.ntmps3
      go_wp2_with fail
      go_quiet (fail)
      go_wp2_with fail
      refine (divz_89_true n0 n1 n2 a0 (by omega) (by omega) HZ.out _).mono ?_
      rintro e w' ⟨rfl, ⟨nd, rfl⟩⟩
      go_wp2_with (first
        | (go_at_call 16; refine (whole_c _ true true (by omega) _).mono ?_; rintro e w' ⟨rfl, ⟨nd, rfl⟩⟩)
        | (go_at_call 15; refine (rcut_c _ _ (by omega) _).mono ?_; rintro e w' ⟨rfl, ⟨nd, rfl⟩⟩)
        | (go_at_call 14; refine (rsize_c _ _).mono ?_; rintro e w' ⟨rfl, ⟨nd, rfl⟩⟩)
        | (go_at_call 17; refine (awake10_c _).mono ?_; rintro e w' ⟨rfl, ⟨nd, rfl⟩⟩))
      go_ret
      exact ⟨by first | rfl | exact rb (by simp; omega), by repeat (first | exact Below.refl _ _ | apply pw_below_drewN | apply below_alloc)⟩
  · obtain ⟨A0, hA0⟩ : ∃ A0, ((dvdN n0 n1 true : Nat) : Int) = A0 := ⟨_, rfl⟩
    have hA1 : ((cutN n1 true : Nat) : Int) * 65536 + ((cutN n0 true : Nat) : Int) = A0 := by rw [← hA0]; unfold dvdN; simp [MM]
    have A00 : 0 ≤ A0 := by omega
    have A01 : A0 ≤ 4294967295 := by omega
    have HZ := Aside0.mk hz
    have hnz : sprM n2 true ≠ 0 := by
      have h := spr_ne (cutN n2 true) true (cutN_M _ _) hz
      have hsp : sprM (cutN n2 true) true = sprM n2 true := by unfold sprM; rw [cut_cut]
      rwa [hsp] at h
    obtain ⟨D, hD⟩ : ∃ D, dvdN n0 n1 true = D := ⟨_, rfl⟩
    rw [hD] at hA0 dL
    clear hz
    obtain ⟨B, hB⟩ : ∃ B, sprM n2 true = B := ⟨_, rfl⟩
    have hw : wholeM n2 true true = B := hB
    obtain ⟨B0, B1⟩ := sprM_b n2 true
    rw [hB] at B0 B1
    simp [HH] at B0 B1
    rw [hB] at hnz
    have z0 : (B == 0) = false := by rw [beq_eq_false_iff_ne]; exact hnz
    obtain ⟨I, hI⟩ : ∃ I, sgnI D true = I := ⟨_, rfl⟩
    have hIb : -2147483648 ≤ I ∧ I ≤ 2147483647 := by have := sgnI_b D true (by simp [MM]; omega); omega
    obtain ⟨i0, i1⟩ := hIb
    obtain ⟨Q, hQ⟩ : ∃ Q, Int.tdiv I B = Q := ⟨_, rfl⟩
    obtain ⟨R, hR⟩ : ∃ R, Int.tmod I B = R := ⟨_, rfl⟩
    have hQb := tdiv_b I B
    have hRb := tmod_b I B
    rw [hQ] at hQb
    rw [hR] at hRb
    have q0 : -2147483648 ≤ Q := by omega
    have q1 : Q ≤ 2147483648 := by omega
    have r0 : -2147483648 ≤ R := by omega
    have r1 : R ≤ 2147483648 := by omega
    clear hQb hRb
    have HOK := Aside0.mk (show sgOk I B true = decide (-32767 ≤ Int.tdiv I B ∧ Int.tdiv I B ≤ 32767) from rfl)
    have HQQ := Aside0.mk (show sgQ I B true = if sgOk I B true then Int.tdiv I B % 65536 else 0 from rfl)
    have HRR := Aside0.mk (show sgR I B true = if sgOk I B true then Int.tmod I B % 65536 else 0 from rfl)
    rw [hQ] at HOK HQQ
    rw [hR] at HRR
    have tq := tmod_up Q 65536 (by omega)
    obtain ⟨tq0, tq1⟩ := tmod_bb Q 65536 (by omega)
    obtain ⟨TQ, hTQ⟩ : ∃ TQ, Int.tmod Q 65536 = TQ := ⟨_, rfl⟩
    rw [hTQ] at tq tq0 tq1
    have tr := tmod_up R 65536 (by omega)
    obtain ⟨tr0, tr1⟩ := tmod_bb R 65536 (by omega)
    obtain ⟨TR, hTR⟩ : ∃ TR, Int.tmod R 65536 = TR := ⟨_, rfl⟩
    rw [hTR] at tr tr0 tr1
    obtain ⟨QM, hQM⟩ : ∃ QM, Q % 65536 = QM := ⟨_, rfl⟩
    obtain ⟨RM, hRM⟩ : ∃ RM, R % 65536 = RM := ⟨_, rfl⟩
    rw [hQM] at tq HQQ
    rw [hRM] at tr HRR
    have qm0 : 0 ≤ QM := by omega
    have qm1 : QM ≤ 65535 := by omega
    have rm0 : 0 ≤ RM := by omega
    have rm1 : RM ≤ 65535 := by omega
    clear hQM hRM
    have hcase : (D < 2147483648 ∧ I = (D : Int)) ∨ (2147483648 ≤ D ∧ (D : Int) - 4294967296 = I) := by
      rw [← hI]; unfold sgnI
      by_cases q : D < 2147483648
      · rw [if_pos (by simpa [MM, HH] using q)]; left; exact ⟨q, rfl⟩
      · rw [if_neg (by simpa [MM, HH] using q)]; right; exact ⟨by omega, by simp [MM]⟩
    rcases hcase with ⟨hs, hi⟩ | ⟨hs, hi⟩
    · rw [hA0] at hi
      have hs' : decide (2147483648 ≤ A0) = false := by simp; omega
      have hQ2 : A0 / B = Q := by rw [← hQ, hi, Int.tdiv_eq_ediv_of_nonneg A00]
      have hR2 : A0 % B = R := by rw [← hR, hi, Int.tmod_eq_emod_of_nonneg A00]
      have hQ3 : Int.tdiv A0 B = Q := by rw [← hQ, hi]
      have hR3 : Int.tmod A0 B = R := by rw [← hR, hi]
      have HI0 := Aside0.mk hI
      clear hi hA0 dL hs
      by_cases c1 : 32767 < Q
      · have hok : sgOk I B true = false := by rw [HOK.out]; simp; omega
        have hq : sgQ I B true = 0 := by rw [HQQ.out, hok]; rfl
        have hr : sgR I B true = 0 := by rw [HRR.out, hok]; rfl
        go_enter Try.func3, Try.ntmps3
        go_wp2_with fail
        go_quiet (fail)
        go_wp2_with fail
        refine (div_89_true n0 n1 n2 a0 (by omega) (by omega) HZ.out _).mono ?_
        rintro e w' ⟨rfl, ⟨nd, rfl⟩⟩
        rw [hD, hI, hB, hq, hr, hok]
        go_wp2_with (first
          | (go_at_call 16; refine (whole_c _ true true (by omega) _).mono ?_; rintro e w' ⟨rfl, ⟨nd, rfl⟩⟩)
          | (go_at_call 15; refine (rcut_c _ _ (by omega) _).mono ?_; rintro e w' ⟨rfl, ⟨nd, rfl⟩⟩)
          | (go_at_call 14; refine (rsize_c _ _).mono ?_; rintro e w' ⟨rfl, ⟨nd, rfl⟩⟩)
          | (go_at_call 17; refine (awake10_c _).mono ?_; rintro e w' ⟨rfl, ⟨nd, rfl⟩⟩))
        go_ret
        exact ⟨by first | rfl | exact rb (by simp; omega), by repeat (first | exact Below.refl _ _ | apply pw_below_drewN | apply below_alloc)⟩
      by_cases c2 : Q < -32767
      · have hok : sgOk I B true = false := by rw [HOK.out]; simp; omega
        have hq : sgQ I B true = 0 := by rw [HQQ.out, hok]; rfl
        have hr : sgR I B true = 0 := by rw [HRR.out, hok]; rfl
        go_enter Try.func3, Try.ntmps3
        go_wp2_with fail
        go_quiet (fail)
        go_wp2_with fail
        refine (div_89_true n0 n1 n2 a0 (by omega) (by omega) HZ.out _).mono ?_
        rintro e w' ⟨rfl, ⟨nd, rfl⟩⟩
        rw [hD, hI, hB, hq, hr, hok]
        go_wp2_with (first
          | (go_at_call 16; refine (whole_c _ true true (by omega) _).mono ?_; rintro e w' ⟨rfl, ⟨nd, rfl⟩⟩)
          | (go_at_call 15; refine (rcut_c _ _ (by omega) _).mono ?_; rintro e w' ⟨rfl, ⟨nd, rfl⟩⟩)
          | (go_at_call 14; refine (rsize_c _ _).mono ?_; rintro e w' ⟨rfl, ⟨nd, rfl⟩⟩)
          | (go_at_call 17; refine (awake10_c _).mono ?_; rintro e w' ⟨rfl, ⟨nd, rfl⟩⟩))
        go_ret
        exact ⟨by first | rfl | exact rb (by simp; omega), by repeat (first | exact Below.refl _ _ | apply pw_below_drewN | apply below_alloc)⟩
      · have hok : sgOk I B true = true := by rw [HOK.out]; simp; omega
        have hq : sgQ I B true = QM := by rw [HQQ.out, hok]; rfl
        have hr : sgR I B true = RM := by rw [HRR.out, hok]; rfl
        go_enter Try.func3, Try.ntmps3
        go_wp2_with fail
        go_quiet (fail)
        go_wp2_with fail
        refine (div_89_true n0 n1 n2 a0 (by omega) (by omega) HZ.out _).mono ?_
        rintro e w' ⟨rfl, ⟨nd, rfl⟩⟩
        rw [hD, hI, hB, hq, hr, hok]
        go_wp2_with (first
          | (go_at_call 16; refine (whole_c _ true true (by omega) _).mono ?_; rintro e w' ⟨rfl, ⟨nd, rfl⟩⟩)
          | (go_at_call 15; refine (rcut_c _ _ (by omega) _).mono ?_; rintro e w' ⟨rfl, ⟨nd, rfl⟩⟩)
          | (go_at_call 14; refine (rsize_c _ _).mono ?_; rintro e w' ⟨rfl, ⟨nd, rfl⟩⟩)
          | (go_at_call 17; refine (awake10_c _).mono ?_; rintro e w' ⟨rfl, ⟨nd, rfl⟩⟩))
        go_quiet (fail)
        go_wp2_with (first
          | (go_at_call 16; refine (whole_c _ true true (by omega) _).mono ?_; rintro e w' ⟨rfl, ⟨nd, rfl⟩⟩)
          | (go_at_call 15; refine (rcut_c _ _ (by omega) _).mono ?_; rintro e w' ⟨rfl, ⟨nd, rfl⟩⟩)
          | (go_at_call 14; refine (rsize_c _ _).mono ?_; rintro e w' ⟨rfl, ⟨nd, rfl⟩⟩)
          | (go_at_call 17; refine (awake10_c _).mono ?_; rintro e w' ⟨rfl, ⟨nd, rfl⟩⟩))
        go_ret
        exact ⟨by first | rfl | exact rb (by simp; omega), by repeat (first | exact Below.refl _ _ | apply pw_below_drewN | apply below_alloc)⟩
    · rw [hA0] at hi
      have hs' : decide (2147483648 ≤ A0) = true := by simp; omega
      have HI0 := Aside0.mk hI
      clear hA0 dL hs
      by_cases c1 : 32767 < Q
      · have hok : sgOk I B true = false := by rw [HOK.out]; simp; omega
        have hq : sgQ I B true = 0 := by rw [HQQ.out, hok]; rfl
        have hr : sgR I B true = 0 := by rw [HRR.out, hok]; rfl
        go_enter Try.func3, Try.ntmps3
        go_wp2_with fail
        go_quiet (fail)
        go_wp2_with fail
        refine (div_89_true n0 n1 n2 a0 (by omega) (by omega) HZ.out _).mono ?_
        rintro e w' ⟨rfl, ⟨nd, rfl⟩⟩
        rw [hD, hI, hB, hq, hr, hok]
        go_wp2_with (first
          | (go_at_call 16; refine (whole_c _ true true (by omega) _).mono ?_; rintro e w' ⟨rfl, ⟨nd, rfl⟩⟩)
          | (go_at_call 15; refine (rcut_c _ _ (by omega) _).mono ?_; rintro e w' ⟨rfl, ⟨nd, rfl⟩⟩)
          | (go_at_call 14; refine (rsize_c _ _).mono ?_; rintro e w' ⟨rfl, ⟨nd, rfl⟩⟩)
          | (go_at_call 17; refine (awake10_c _).mono ?_; rintro e w' ⟨rfl, ⟨nd, rfl⟩⟩))
        go_ret
        exact ⟨by first | rfl | exact rb (by simp; omega), by repeat (first | exact Below.refl _ _ | apply pw_below_drewN | apply below_alloc)⟩
      by_cases c2 : Q < -32767
      · have hok : sgOk I B true = false := by rw [HOK.out]; simp; omega
        have hq : sgQ I B true = 0 := by rw [HQQ.out, hok]; rfl
        have hr : sgR I B true = 0 := by rw [HRR.out, hok]; rfl
        go_enter Try.func3, Try.ntmps3
        go_wp2_with fail
        go_quiet (fail)
        go_wp2_with fail
        refine (div_89_true n0 n1 n2 a0 (by omega) (by omega) HZ.out _).mono ?_
        rintro e w' ⟨rfl, ⟨nd, rfl⟩⟩
        rw [hD, hI, hB, hq, hr, hok]
        go_wp2_with (first
          | (go_at_call 16; refine (whole_c _ true true (by omega) _).mono ?_; rintro e w' ⟨rfl, ⟨nd, rfl⟩⟩)
          | (go_at_call 15; refine (rcut_c _ _ (by omega) _).mono ?_; rintro e w' ⟨rfl, ⟨nd, rfl⟩⟩)
          | (go_at_call 14; refine (rsize_c _ _).mono ?_; rintro e w' ⟨rfl, ⟨nd, rfl⟩⟩)
          | (go_at_call 17; refine (awake10_c _).mono ?_; rintro e w' ⟨rfl, ⟨nd, rfl⟩⟩))
        go_ret
        exact ⟨by first | rfl | exact rb (by simp; omega), by repeat (first | exact Below.refl _ _ | apply pw_below_drewN | apply below_alloc)⟩
      · have hok : sgOk I B true = true := by rw [HOK.out]; simp; omega
        have hq : sgQ I B true = QM := by rw [HQQ.out, hok]; rfl
        have hr : sgR I B true = RM := by rw [HRR.out, hok]; rfl
        go_enter Try.func3, Try.ntmps3
        go_wp2_with fail
        go_quiet (fail)
        go_wp2_with fail
        refine (div_89_true n0 n1 n2 a0 (by omega) (by omega) HZ.out _).mono ?_
        rintro e w' ⟨rfl, ⟨nd, rfl⟩⟩
        rw [hD, hI, hB, hq, hr, hok]
        go_wp2_with (first
          | (go_at_call 16; refine (whole_c _ true true (by omega) _).mono ?_; rintro e w' ⟨rfl, ⟨nd, rfl⟩⟩)
          | (go_at_call 15; refine (rcut_c _ _ (by omega) _).mono ?_; rintro e w' ⟨rfl, ⟨nd, rfl⟩⟩)
          | (go_at_call 14; refine (rsize_c _ _).mono ?_; rintro e w' ⟨rfl, ⟨nd, rfl⟩⟩)
          | (go_at_call 17; refine (awake10_c _).mono ?_; rintro e w' ⟨rfl, ⟨nd, rfl⟩⟩))
        go_quiet (fail)
        go_wp2_with (first
          | (go_at_call 16; refine (whole_c _ true true (by omega) _).mono ?_; rintro e w' ⟨rfl, ⟨nd, rfl⟩⟩)
          | (go_at_call 15; refine (rcut_c _ _ (by omega) _).mono ?_; rintro e w' ⟨rfl, ⟨nd, rfl⟩⟩)
          | (go_at_call 14; refine (rsize_c _ _).mono ?_; rintro e w' ⟨rfl, ⟨nd, rfl⟩⟩)
          | (go_at_call 17; refine (awake10_c _).mono ?_; rintro e w' ⟨rfl, ⟨nd, rfl⟩⟩))
        go_ret
        exact ⟨by first | rfl | exact rb (by simp; omega), by repeat (first | exact Below.refl _ _ | apply pw_below_drewN | apply below_alloc)⟩

set_option maxRecDepth 100000 in
set_option maxHeartbeats 16000000 in
theorem div_89_true_01 (n0 n1 n2 : Nat) (how : Int) (w : World) (a0 : n0 < 65536) (a1 : n1 < 65536) (a2 : n2 < 65536) (h1 : Go.bits .and .i64 how 1 = 1) (h2 : decide (0 < Go.bits .and .i64 how 2) = true) (h4 : decide (0 < Go.bits .and .i64 how 4) = false) (h8 : decide (0 < Go.bits .and .i64 how 8) = true) :
    Calls Try.prog 3 #[.agg #[.int .u16 n0, .int .u16 n1, .int .u16 n2], .int .i64 how] w fun e w' => e = .returned (.bool true) ∧ Below w.heap.size w w' := by
  have m1 : szN true = 16 := rfl
  have hand2 := and15 n2 a2
  obtain ⟨b15, h15⟩ : ∃ b15, ((n2 % 16 : Nat) : Int) = b15 := ⟨_, rfl⟩
  rw [h15] at hand2
  have b150 : 0 ≤ b15 := by omega
  have b151 : b15 ≤ 15 := by omega
  obtain ⟨BY, hBY⟩ : ∃ BY : Nat, b15 + 1 = (BY : Int) := ⟨n2 % 16 + 1, by omega⟩
  have hBl : BY < 65536 := by omega
  clear h15
  have cM := cutN_M BY true
  have dL := dvdN_lt n0 n1 true
  have cH := cutN_M n1 true
  have cL := cutN_M n0 true
  simp [MM] at cM dL cH cL
  by_cases hz : cutN BY true = 0
  · have hw : wholeM BY true true = 0 := by simp [wholeM, sprM, hz, HH]
    have HZ := Aside0.mk hz
    obtain ⟨A0, hA1⟩ : ∃ A0, ((cutN n1 true : Nat) : Int) * 65536 + ((cutN n0 true : Nat) : Int) = A0 := ⟨_, rfl⟩
    have A00 : 0 ≤ A0 := by omega
    have A01 : A0 ≤ 4294967295 := by omega
    clear hz dL
    cases hs : decide (2147483648 ≤ A0)
    all_goals
      go_enter Try.func3, Try.ntmps3
      go_wp2_with fail
      go_quiet (fail)
      go_wp2_with fail
      refine (divz_89_true n0 n1 BY a0 (by omega) (by omega) HZ.out _).mono ?_
      rintro e w' ⟨rfl, ⟨nd, rfl⟩⟩
      go_wp2_with (first
        | (go_at_call 16; refine (whole_c _ true true (by omega) _).mono ?_; rintro e w' ⟨rfl, ⟨nd, rfl⟩⟩)
        | (go_at_call 15; refine (rcut_c _ _ (by omega) _).mono ?_; rintro e w' ⟨rfl, ⟨nd, rfl⟩⟩)
        | (go_at_call 14; refine (rsize_c _ _).mono ?_; rintro e w' ⟨rfl, ⟨nd, rfl⟩⟩)
        | (go_at_call 17; refine (awake10_c _).mono ?_; rintro e w' ⟨rfl, ⟨nd, rfl⟩⟩))
      go_ret
      exact ⟨by first | rfl | exact rb (by simp; omega), by repeat (first | exact Below.refl _ _ | apply pw_below_drewN | apply below_alloc)⟩
  · obtain ⟨A0, hA0⟩ : ∃ A0, ((dvdN n0 n1 true : Nat) : Int) = A0 := ⟨_, rfl⟩
    have hA1 : ((cutN n1 true : Nat) : Int) * 65536 + ((cutN n0 true : Nat) : Int) = A0 := by rw [← hA0]; unfold dvdN; simp [MM]
    have A00 : 0 ≤ A0 := by omega
    have A01 : A0 ≤ 4294967295 := by omega
    have HZ := Aside0.mk hz
    have hnz : sprM BY true ≠ 0 := by
      have h := spr_ne (cutN BY true) true (cutN_M _ _) hz
      have hsp : sprM (cutN BY true) true = sprM BY true := by unfold sprM; rw [cut_cut]
      rwa [hsp] at h
    obtain ⟨D, hD⟩ : ∃ D, dvdN n0 n1 true = D := ⟨_, rfl⟩
    rw [hD] at hA0 dL
    clear hz
    obtain ⟨B, hB⟩ : ∃ B, sprM BY true = B := ⟨_, rfl⟩
    have hw : wholeM BY true true = B := hB
    obtain ⟨B0, B1⟩ := sprM_b BY true
    rw [hB] at B0 B1
    simp [HH] at B0 B1
    rw [hB] at hnz
    have z0 : (B == 0) = false := by rw [beq_eq_false_iff_ne]; exact hnz
    obtain ⟨I, hI⟩ : ∃ I, sgnI D true = I := ⟨_, rfl⟩
    have hIb : -2147483648 ≤ I ∧ I ≤ 2147483647 := by have := sgnI_b D true (by simp [MM]; omega); omega
    obtain ⟨i0, i1⟩ := hIb
    obtain ⟨Q, hQ⟩ : ∃ Q, Int.tdiv I B = Q := ⟨_, rfl⟩
    obtain ⟨R, hR⟩ : ∃ R, Int.tmod I B = R := ⟨_, rfl⟩
    have hQb := tdiv_b I B
    have hRb := tmod_b I B
    rw [hQ] at hQb
    rw [hR] at hRb
    have q0 : -2147483648 ≤ Q := by omega
    have q1 : Q ≤ 2147483648 := by omega
    have r0 : -2147483648 ≤ R := by omega
    have r1 : R ≤ 2147483648 := by omega
    clear hQb hRb
    have HOK := Aside0.mk (show sgOk I B true = decide (-32767 ≤ Int.tdiv I B ∧ Int.tdiv I B ≤ 32767) from rfl)
    have HQQ := Aside0.mk (show sgQ I B true = if sgOk I B true then Int.tdiv I B % 65536 else 0 from rfl)
    have HRR := Aside0.mk (show sgR I B true = if sgOk I B true then Int.tmod I B % 65536 else 0 from rfl)
    rw [hQ] at HOK HQQ
    rw [hR] at HRR
    have tq := tmod_up Q 65536 (by omega)
    obtain ⟨tq0, tq1⟩ := tmod_bb Q 65536 (by omega)
    obtain ⟨TQ, hTQ⟩ : ∃ TQ, Int.tmod Q 65536 = TQ := ⟨_, rfl⟩
    rw [hTQ] at tq tq0 tq1
    have tr := tmod_up R 65536 (by omega)
    obtain ⟨tr0, tr1⟩ := tmod_bb R 65536 (by omega)
    obtain ⟨TR, hTR⟩ : ∃ TR, Int.tmod R 65536 = TR := ⟨_, rfl⟩
    rw [hTR] at tr tr0 tr1
    obtain ⟨QM, hQM⟩ : ∃ QM, Q % 65536 = QM := ⟨_, rfl⟩
    obtain ⟨RM, hRM⟩ : ∃ RM, R % 65536 = RM := ⟨_, rfl⟩
    rw [hQM] at tq HQQ
    rw [hRM] at tr HRR
    have qm0 : 0 ≤ QM := by omega
    have qm1 : QM ≤ 65535 := by omega
    have rm0 : 0 ≤ RM := by omega
    have rm1 : RM ≤ 65535 := by omega
    clear hQM hRM
    have hcase : (D < 2147483648 ∧ I = (D : Int)) ∨ (2147483648 ≤ D ∧ (D : Int) - 4294967296 = I) := by
      rw [← hI]; unfold sgnI
      by_cases q : D < 2147483648
      · rw [if_pos (by simpa [MM, HH] using q)]; left; exact ⟨q, rfl⟩
      · rw [if_neg (by simpa [MM, HH] using q)]; right; exact ⟨by omega, by simp [MM]⟩
    rcases hcase with ⟨hs, hi⟩ | ⟨hs, hi⟩
    · rw [hA0] at hi
      have hs' : decide (2147483648 ≤ A0) = false := by simp; omega
      have hQ2 : A0 / B = Q := by rw [← hQ, hi, Int.tdiv_eq_ediv_of_nonneg A00]
      have hR2 : A0 % B = R := by rw [← hR, hi, Int.tmod_eq_emod_of_nonneg A00]
      have hQ3 : Int.tdiv A0 B = Q := by rw [← hQ, hi]
      have hR3 : Int.tmod A0 B = R := by rw [← hR, hi]
      have HI0 := Aside0.mk hI
      clear hi hA0 dL hs
      by_cases c1 : 32767 < Q
      · have hok : sgOk I B true = false := by rw [HOK.out]; simp; omega
        have hq : sgQ I B true = 0 := by rw [HQQ.out, hok]; rfl
        have hr : sgR I B true = 0 := by rw [HRR.out, hok]; rfl
        go_enter Try.func3, Try.ntmps3
        go_wp2_with fail
        go_quiet (fail)
        go_wp2_with fail
        refine (div_89_true n0 n1 BY a0 (by omega) (by omega) HZ.out _).mono ?_
        rintro e w' ⟨rfl, ⟨nd, rfl⟩⟩
        rw [hD, hI, hB, hq, hr, hok]
        go_wp2_with (first
          | (go_at_call 16; refine (whole_c _ true true (by omega) _).mono ?_; rintro e w' ⟨rfl, ⟨nd, rfl⟩⟩)
          | (go_at_call 15; refine (rcut_c _ _ (by omega) _).mono ?_; rintro e w' ⟨rfl, ⟨nd, rfl⟩⟩)
          | (go_at_call 14; refine (rsize_c _ _).mono ?_; rintro e w' ⟨rfl, ⟨nd, rfl⟩⟩)
          | (go_at_call 17; refine (awake10_c _).mono ?_; rintro e w' ⟨rfl, ⟨nd, rfl⟩⟩))
        go_ret
        exact ⟨by first | rfl | exact rb (by simp; omega), by repeat (first | exact Below.refl _ _ | apply pw_below_drewN | apply below_alloc)⟩
      by_cases c2 : Q < -32767
      · have hok : sgOk I B true = false := by rw [HOK.out]; simp; omega
        have hq : sgQ I B true = 0 := by rw [HQQ.out, hok]; rfl
        have hr : sgR I B true = 0 := by rw [HRR.out, hok]; rfl
        go_enter Try.func3, Try.ntmps3
        go_wp2_with fail
        go_quiet (fail)
        go_wp2_with fail
        refine (div_89_true n0 n1 BY a0 (by omega) (by omega) HZ.out _).mono ?_
        rintro e w' ⟨rfl, ⟨nd, rfl⟩⟩
        rw [hD, hI, hB, hq, hr, hok]
        go_wp2_with (first
          | (go_at_call 16; refine (whole_c _ true true (by omega) _).mono ?_; rintro e w' ⟨rfl, ⟨nd, rfl⟩⟩)
          | (go_at_call 15; refine (rcut_c _ _ (by omega) _).mono ?_; rintro e w' ⟨rfl, ⟨nd, rfl⟩⟩)
          | (go_at_call 14; refine (rsize_c _ _).mono ?_; rintro e w' ⟨rfl, ⟨nd, rfl⟩⟩)
          | (go_at_call 17; refine (awake10_c _).mono ?_; rintro e w' ⟨rfl, ⟨nd, rfl⟩⟩))
        go_ret
        exact ⟨by first | rfl | exact rb (by simp; omega), by repeat (first | exact Below.refl _ _ | apply pw_below_drewN | apply below_alloc)⟩
      · have hok : sgOk I B true = true := by rw [HOK.out]; simp; omega
        have hq : sgQ I B true = QM := by rw [HQQ.out, hok]; rfl
        have hr : sgR I B true = RM := by rw [HRR.out, hok]; rfl
        go_enter Try.func3, Try.ntmps3
        go_wp2_with fail
        go_quiet (fail)
        go_wp2_with fail
        refine (div_89_true n0 n1 BY a0 (by omega) (by omega) HZ.out _).mono ?_
        rintro e w' ⟨rfl, ⟨nd, rfl⟩⟩
        rw [hD, hI, hB, hq, hr, hok]
        go_wp2_with (first
          | (go_at_call 16; refine (whole_c _ true true (by omega) _).mono ?_; rintro e w' ⟨rfl, ⟨nd, rfl⟩⟩)
          | (go_at_call 15; refine (rcut_c _ _ (by omega) _).mono ?_; rintro e w' ⟨rfl, ⟨nd, rfl⟩⟩)
          | (go_at_call 14; refine (rsize_c _ _).mono ?_; rintro e w' ⟨rfl, ⟨nd, rfl⟩⟩)
          | (go_at_call 17; refine (awake10_c _).mono ?_; rintro e w' ⟨rfl, ⟨nd, rfl⟩⟩))
        go_quiet (fail)
        go_wp2_with (first
          | (go_at_call 16; refine (whole_c _ true true (by omega) _).mono ?_; rintro e w' ⟨rfl, ⟨nd, rfl⟩⟩)
          | (go_at_call 15; refine (rcut_c _ _ (by omega) _).mono ?_; rintro e w' ⟨rfl, ⟨nd, rfl⟩⟩)
          | (go_at_call 14; refine (rsize_c _ _).mono ?_; rintro e w' ⟨rfl, ⟨nd, rfl⟩⟩)
          | (go_at_call 17; refine (awake10_c _).mono ?_; rintro e w' ⟨rfl, ⟨nd, rfl⟩⟩))
        go_ret
        exact ⟨by first | rfl | exact rb (by simp; omega), by repeat (first | exact Below.refl _ _ | apply pw_below_drewN | apply below_alloc)⟩
    · rw [hA0] at hi
      have hs' : decide (2147483648 ≤ A0) = true := by simp; omega
      have HI0 := Aside0.mk hI
      clear hA0 dL hs
      by_cases c1 : 32767 < Q
      · have hok : sgOk I B true = false := by rw [HOK.out]; simp; omega
        have hq : sgQ I B true = 0 := by rw [HQQ.out, hok]; rfl
        have hr : sgR I B true = 0 := by rw [HRR.out, hok]; rfl
        go_enter Try.func3, Try.ntmps3
        go_wp2_with fail
        go_quiet (fail)
        go_wp2_with fail
        refine (div_89_true n0 n1 BY a0 (by omega) (by omega) HZ.out _).mono ?_
        rintro e w' ⟨rfl, ⟨nd, rfl⟩⟩
        rw [hD, hI, hB, hq, hr, hok]
        go_wp2_with (first
          | (go_at_call 16; refine (whole_c _ true true (by omega) _).mono ?_; rintro e w' ⟨rfl, ⟨nd, rfl⟩⟩)
          | (go_at_call 15; refine (rcut_c _ _ (by omega) _).mono ?_; rintro e w' ⟨rfl, ⟨nd, rfl⟩⟩)
          | (go_at_call 14; refine (rsize_c _ _).mono ?_; rintro e w' ⟨rfl, ⟨nd, rfl⟩⟩)
          | (go_at_call 17; refine (awake10_c _).mono ?_; rintro e w' ⟨rfl, ⟨nd, rfl⟩⟩))
        go_ret
        exact ⟨by first | rfl | exact rb (by simp; omega), by repeat (first | exact Below.refl _ _ | apply pw_below_drewN | apply below_alloc)⟩
      by_cases c2 : Q < -32767
      · have hok : sgOk I B true = false := by rw [HOK.out]; simp; omega
        have hq : sgQ I B true = 0 := by rw [HQQ.out, hok]; rfl
        have hr : sgR I B true = 0 := by rw [HRR.out, hok]; rfl
        go_enter Try.func3, Try.ntmps3
        go_wp2_with fail
        go_quiet (fail)
        go_wp2_with fail
        refine (div_89_true n0 n1 BY a0 (by omega) (by omega) HZ.out _).mono ?_
        rintro e w' ⟨rfl, ⟨nd, rfl⟩⟩
        rw [hD, hI, hB, hq, hr, hok]
        go_wp2_with (first
          | (go_at_call 16; refine (whole_c _ true true (by omega) _).mono ?_; rintro e w' ⟨rfl, ⟨nd, rfl⟩⟩)
          | (go_at_call 15; refine (rcut_c _ _ (by omega) _).mono ?_; rintro e w' ⟨rfl, ⟨nd, rfl⟩⟩)
          | (go_at_call 14; refine (rsize_c _ _).mono ?_; rintro e w' ⟨rfl, ⟨nd, rfl⟩⟩)
          | (go_at_call 17; refine (awake10_c _).mono ?_; rintro e w' ⟨rfl, ⟨nd, rfl⟩⟩))
        go_ret
        exact ⟨by first | rfl | exact rb (by simp; omega), by repeat (first | exact Below.refl _ _ | apply pw_below_drewN | apply below_alloc)⟩
      · have hok : sgOk I B true = true := by rw [HOK.out]; simp; omega
        have hq : sgQ I B true = QM := by rw [HQQ.out, hok]; rfl
        have hr : sgR I B true = RM := by rw [HRR.out, hok]; rfl
        go_enter Try.func3, Try.ntmps3
        go_wp2_with fail
        go_quiet (fail)
        go_wp2_with fail
        refine (div_89_true n0 n1 BY a0 (by omega) (by omega) HZ.out _).mono ?_
        rintro e w' ⟨rfl, ⟨nd, rfl⟩⟩
        rw [hD, hI, hB, hq, hr, hok]
        go_wp2_with (first
          | (go_at_call 16; refine (whole_c _ true true (by omega) _).mono ?_; rintro e w' ⟨rfl, ⟨nd, rfl⟩⟩)
          | (go_at_call 15; refine (rcut_c _ _ (by omega) _).mono ?_; rintro e w' ⟨rfl, ⟨nd, rfl⟩⟩)
          | (go_at_call 14; refine (rsize_c _ _).mono ?_; rintro e w' ⟨rfl, ⟨nd, rfl⟩⟩)
          | (go_at_call 17; refine (awake10_c _).mono ?_; rintro e w' ⟨rfl, ⟨nd, rfl⟩⟩))
        go_quiet (fail)
        go_wp2_with (first
          | (go_at_call 16; refine (whole_c _ true true (by omega) _).mono ?_; rintro e w' ⟨rfl, ⟨nd, rfl⟩⟩)
          | (go_at_call 15; refine (rcut_c _ _ (by omega) _).mono ?_; rintro e w' ⟨rfl, ⟨nd, rfl⟩⟩)
          | (go_at_call 14; refine (rsize_c _ _).mono ?_; rintro e w' ⟨rfl, ⟨nd, rfl⟩⟩)
          | (go_at_call 17; refine (awake10_c _).mono ?_; rintro e w' ⟨rfl, ⟨nd, rfl⟩⟩))
        go_ret
        exact ⟨by first | rfl | exact rb (by simp; omega), by repeat (first | exact Below.refl _ _ | apply pw_below_drewN | apply below_alloc)⟩

set_option maxRecDepth 100000 in
set_option maxHeartbeats 16000000 in
theorem div_89_true_10 (n0 n1 n2 : Nat) (how : Int) (w : World) (a0 : n0 < 65536) (a1 : n1 < 65536) (a2 : n2 < 65536) (h1 : Go.bits .and .i64 how 1 = 1) (h2 : decide (0 < Go.bits .and .i64 how 2) = true) (h4 : decide (0 < Go.bits .and .i64 how 4) = true) (h8 : decide (0 < Go.bits .and .i64 how 8) = false) :
    Calls Try.prog 3 #[.agg #[.int .u16 n0, .int .u16 n1, .int .u16 n2], .int .i64 how] w fun e w' => e = .returned (.bool true) ∧ Below w.heap.size w w' := by
  have m1 : szN true = 16 := rfl
  have hand1 : Go.bits .and .u16 (n1 : Int) 3 = ((n1 % 4 : Nat) : Int) := by
    rw [u16_and _ _ (by omega) (by omega) (by omega) (by omega), show (3 : Int).toNat = 2 ^ 2 - 1 from rfl, Nat.and_two_pow_sub_one_eq_mod]; rfl
  obtain ⟨HI, hHI⟩ : ∃ HI, n1 % 4 = HI := ⟨_, rfl⟩
  rw [hHI] at hand1
  have hHl : HI < 65536 := by omega
  clear hHI
  have cM := cutN_M n2 true
  have dL := dvdN_lt n0 HI true
  have cH := cutN_M HI true
  have cL := cutN_M n0 true
  simp [MM] at cM dL cH cL
  by_cases hz : cutN n2 true = 0
  · have hw : wholeM n2 true true = 0 := by simp [wholeM, sprM, hz, HH]
    have HZ := Aside0.mk hz
    obtain ⟨A0, hA1⟩ : ∃ A0, ((cutN HI true : Nat) : Int) * 65536 + ((cutN n0 true : Nat) : Int) = A0 := ⟨_, rfl⟩
    have A00 : 0 ≤ A0 := by omega
    have A01 : A0 ≤ 4294967295 := by omega
    clear hz dL
    cases hs : decide (2147483648 ≤ A0)
    all_goals
      go_enter Try.func3, Try.ntmps3
      go_wp2_with fail
      go_quiet (fail)
      go_wp2_with fail
      refine (divz_89_true n0 HI n2 a0 (by omega) (by omega) HZ.out _).mono ?_
      rintro e w' ⟨rfl, ⟨nd, rfl⟩⟩
      go_wp2_with (first
        | (go_at_call 16; refine (whole_c _ true true (by omega) _).mono ?_; rintro e w' ⟨rfl, ⟨nd, rfl⟩⟩)
        | (go_at_call 15; refine (rcut_c _ _ (by omega) _).mono ?_; rintro e w' ⟨rfl, ⟨nd, rfl⟩⟩)
        | (go_at_call 14; refine (rsize_c _ _).mono ?_; rintro e w' ⟨rfl, ⟨nd, rfl⟩⟩)
        | (go_at_call 17; refine (awake10_c _).mono ?_; rintro e w' ⟨rfl, ⟨nd, rfl⟩⟩))
      go_ret
      exact ⟨by first | rfl | exact rb (by simp; omega), by repeat (first | exact Below.refl _ _ | apply pw_below_drewN | apply below_alloc)⟩
  · obtain ⟨A0, hA0⟩ : ∃ A0, ((dvdN n0 HI true : Nat) : Int) = A0 := ⟨_, rfl⟩
    have hA1 : ((cutN HI true : Nat) : Int) * 65536 + ((cutN n0 true : Nat) : Int) = A0 := by rw [← hA0]; unfold dvdN; simp [MM]
    have A00 : 0 ≤ A0 := by omega
    have A01 : A0 ≤ 4294967295 := by omega
    have HZ := Aside0.mk hz
    have hnz : sprM n2 true ≠ 0 := by
      have h := spr_ne (cutN n2 true) true (cutN_M _ _) hz
      have hsp : sprM (cutN n2 true) true = sprM n2 true := by unfold sprM; rw [cut_cut]
      rwa [hsp] at h
    obtain ⟨D, hD⟩ : ∃ D, dvdN n0 HI true = D := ⟨_, rfl⟩
    rw [hD] at hA0 dL
    clear hz
    obtain ⟨B, hB⟩ : ∃ B, sprM n2 true = B := ⟨_, rfl⟩
    have hw : wholeM n2 true true = B := hB
    obtain ⟨B0, B1⟩ := sprM_b n2 true
    rw [hB] at B0 B1
    simp [HH] at B0 B1
    rw [hB] at hnz
    have z0 : (B == 0) = false := by rw [beq_eq_false_iff_ne]; exact hnz
    obtain ⟨I, hI⟩ : ∃ I, sgnI D true = I := ⟨_, rfl⟩
    have hIb : -2147483648 ≤ I ∧ I ≤ 2147483647 := by have := sgnI_b D true (by simp [MM]; omega); omega
    obtain ⟨i0, i1⟩ := hIb
    obtain ⟨Q, hQ⟩ : ∃ Q, Int.tdiv I B = Q := ⟨_, rfl⟩
    obtain ⟨R, hR⟩ : ∃ R, Int.tmod I B = R := ⟨_, rfl⟩
    have hQb := tdiv_b I B
    have hRb := tmod_b I B
    rw [hQ] at hQb
    rw [hR] at hRb
    have q0 : -2147483648 ≤ Q := by omega
    have q1 : Q ≤ 2147483648 := by omega
    have r0 : -2147483648 ≤ R := by omega
    have r1 : R ≤ 2147483648 := by omega
    clear hQb hRb
    have HOK := Aside0.mk (show sgOk I B true = decide (-32767 ≤ Int.tdiv I B ∧ Int.tdiv I B ≤ 32767) from rfl)
    have HQQ := Aside0.mk (show sgQ I B true = if sgOk I B true then Int.tdiv I B % 65536 else 0 from rfl)
    have HRR := Aside0.mk (show sgR I B true = if sgOk I B true then Int.tmod I B % 65536 else 0 from rfl)
    rw [hQ] at HOK HQQ
    rw [hR] at HRR
    have tq := tmod_up Q 65536 (by omega)
    obtain ⟨tq0, tq1⟩ := tmod_bb Q 65536 (by omega)
    obtain ⟨TQ, hTQ⟩ : ∃ TQ, Int.tmod Q 65536 = TQ := ⟨_, rfl⟩
    rw [hTQ] at tq tq0 tq1
    have tr := tmod_up R 65536 (by omega)
    obtain ⟨tr0, tr1⟩ := tmod_bb R 65536 (by omega)
    obtain ⟨TR, hTR⟩ : ∃ TR, Int.tmod R 65536 = TR := ⟨_, rfl⟩
    rw [hTR] at tr tr0 tr1
    obtain ⟨QM, hQM⟩ : ∃ QM, Q % 65536 = QM := ⟨_, rfl⟩
    obtain ⟨RM, hRM⟩ : ∃ RM, R % 65536 = RM := ⟨_, rfl⟩
    rw [hQM] at tq HQQ
    rw [hRM] at tr HRR
    have qm0 : 0 ≤ QM := by omega
    have qm1 : QM ≤ 65535 := by omega
    have rm0 : 0 ≤ RM := by omega
    have rm1 : RM ≤ 65535 := by omega
    clear hQM hRM
    have hcase : (D < 2147483648 ∧ I = (D : Int)) ∨ (2147483648 ≤ D ∧ (D : Int) - 4294967296 = I) := by
      rw [← hI]; unfold sgnI
      by_cases q : D < 2147483648
      · rw [if_pos (by simpa [MM, HH] using q)]; left; exact ⟨q, rfl⟩
      · rw [if_neg (by simpa [MM, HH] using q)]; right; exact ⟨by omega, by simp [MM]⟩
    rcases hcase with ⟨hs, hi⟩ | ⟨hs, hi⟩
    · rw [hA0] at hi
      have hs' : decide (2147483648 ≤ A0) = false := by simp; omega
      have hQ2 : A0 / B = Q := by rw [← hQ, hi, Int.tdiv_eq_ediv_of_nonneg A00]
      have hR2 : A0 % B = R := by rw [← hR, hi, Int.tmod_eq_emod_of_nonneg A00]
      have hQ3 : Int.tdiv A0 B = Q := by rw [← hQ, hi]
      have hR3 : Int.tmod A0 B = R := by rw [← hR, hi]
      have HI0 := Aside0.mk hI
      clear hi hA0 dL hs
      by_cases c1 : 32767 < Q
      · have hok : sgOk I B true = false := by rw [HOK.out]; simp; omega
        have hq : sgQ I B true = 0 := by rw [HQQ.out, hok]; rfl
        have hr : sgR I B true = 0 := by rw [HRR.out, hok]; rfl
        go_enter Try.func3, Try.ntmps3
        go_wp2_with fail
        go_quiet (fail)
        go_wp2_with fail
        refine (div_89_true n0 HI n2 a0 (by omega) (by omega) HZ.out _).mono ?_
        rintro e w' ⟨rfl, ⟨nd, rfl⟩⟩
        rw [hD, hI, hB, hq, hr, hok]
        go_wp2_with (first
          | (go_at_call 16; refine (whole_c _ true true (by omega) _).mono ?_; rintro e w' ⟨rfl, ⟨nd, rfl⟩⟩)
          | (go_at_call 15; refine (rcut_c _ _ (by omega) _).mono ?_; rintro e w' ⟨rfl, ⟨nd, rfl⟩⟩)
          | (go_at_call 14; refine (rsize_c _ _).mono ?_; rintro e w' ⟨rfl, ⟨nd, rfl⟩⟩)
          | (go_at_call 17; refine (awake10_c _).mono ?_; rintro e w' ⟨rfl, ⟨nd, rfl⟩⟩))
        go_ret
        exact ⟨by first | rfl | exact rb (by simp; omega), by repeat (first | exact Below.refl _ _ | apply pw_below_drewN | apply below_alloc)⟩
      by_cases c2 : Q < -32767
      · have hok : sgOk I B true = false := by rw [HOK.out]; simp; omega
        have hq : sgQ I B true = 0 := by rw [HQQ.out, hok]; rfl
        have hr : sgR I B true = 0 := by rw [HRR.out, hok]; rfl
        go_enter Try.func3, Try.ntmps3
        go_wp2_with fail
        go_quiet (fail)
        go_wp2_with fail
        refine (div_89_true n0 HI n2 a0 (by omega) (by omega) HZ.out _).mono ?_
        rintro e w' ⟨rfl, ⟨nd, rfl⟩⟩
        rw [hD, hI, hB, hq, hr, hok]
        go_wp2_with (first
          | (go_at_call 16; refine (whole_c _ true true (by omega) _).mono ?_; rintro e w' ⟨rfl, ⟨nd, rfl⟩⟩)
          | (go_at_call 15; refine (rcut_c _ _ (by omega) _).mono ?_; rintro e w' ⟨rfl, ⟨nd, rfl⟩⟩)
          | (go_at_call 14; refine (rsize_c _ _).mono ?_; rintro e w' ⟨rfl, ⟨nd, rfl⟩⟩)
          | (go_at_call 17; refine (awake10_c _).mono ?_; rintro e w' ⟨rfl, ⟨nd, rfl⟩⟩))
        go_ret
        exact ⟨by first | rfl | exact rb (by simp; omega), by repeat (first | exact Below.refl _ _ | apply pw_below_drewN | apply below_alloc)⟩
      · have hok : sgOk I B true = true := by rw [HOK.out]; simp; omega
        have hq : sgQ I B true = QM := by rw [HQQ.out, hok]; rfl
        have hr : sgR I B true = RM := by rw [HRR.out, hok]; rfl
        go_enter Try.func3, Try.ntmps3
        go_wp2_with fail
        go_quiet (fail)
        go_wp2_with fail
        refine (div_89_true n0 HI n2 a0 (by omega) (by omega) HZ.out _).mono ?_
        rintro e w' ⟨rfl, ⟨nd, rfl⟩⟩
        rw [hD, hI, hB, hq, hr, hok]
        go_wp2_with (first
          | (go_at_call 16; refine (whole_c _ true true (by omega) _).mono ?_; rintro e w' ⟨rfl, ⟨nd, rfl⟩⟩)
          | (go_at_call 15; refine (rcut_c _ _ (by omega) _).mono ?_; rintro e w' ⟨rfl, ⟨nd, rfl⟩⟩)
          | (go_at_call 14; refine (rsize_c _ _).mono ?_; rintro e w' ⟨rfl, ⟨nd, rfl⟩⟩)
          | (go_at_call 17; refine (awake10_c _).mono ?_; rintro e w' ⟨rfl, ⟨nd, rfl⟩⟩))
        go_quiet (fail)
        go_wp2_with (first
          | (go_at_call 16; refine (whole_c _ true true (by omega) _).mono ?_; rintro e w' ⟨rfl, ⟨nd, rfl⟩⟩)
          | (go_at_call 15; refine (rcut_c _ _ (by omega) _).mono ?_; rintro e w' ⟨rfl, ⟨nd, rfl⟩⟩)
          | (go_at_call 14; refine (rsize_c _ _).mono ?_; rintro e w' ⟨rfl, ⟨nd, rfl⟩⟩)
          | (go_at_call 17; refine (awake10_c _).mono ?_; rintro e w' ⟨rfl, ⟨nd, rfl⟩⟩))
        go_ret
        exact ⟨by first | rfl | exact rb (by simp; omega), by repeat (first | exact Below.refl _ _ | apply pw_below_drewN | apply below_alloc)⟩
    · rw [hA0] at hi
      have hs' : decide (2147483648 ≤ A0) = true := by simp; omega
      have HI0 := Aside0.mk hI
      clear hA0 dL hs
      by_cases c1 : 32767 < Q
      · have hok : sgOk I B true = false := by rw [HOK.out]; simp; omega
        have hq : sgQ I B true = 0 := by rw [HQQ.out, hok]; rfl
        have hr : sgR I B true = 0 := by rw [HRR.out, hok]; rfl
        go_enter Try.func3, Try.ntmps3
        go_wp2_with fail
        go_quiet (fail)
        go_wp2_with fail
        refine (div_89_true n0 HI n2 a0 (by omega) (by omega) HZ.out _).mono ?_
        rintro e w' ⟨rfl, ⟨nd, rfl⟩⟩
        rw [hD, hI, hB, hq, hr, hok]
        go_wp2_with (first
          | (go_at_call 16; refine (whole_c _ true true (by omega) _).mono ?_; rintro e w' ⟨rfl, ⟨nd, rfl⟩⟩)
          | (go_at_call 15; refine (rcut_c _ _ (by omega) _).mono ?_; rintro e w' ⟨rfl, ⟨nd, rfl⟩⟩)
          | (go_at_call 14; refine (rsize_c _ _).mono ?_; rintro e w' ⟨rfl, ⟨nd, rfl⟩⟩)
          | (go_at_call 17; refine (awake10_c _).mono ?_; rintro e w' ⟨rfl, ⟨nd, rfl⟩⟩))
        go_ret
        exact ⟨by first | rfl | exact rb (by simp; omega), by repeat (first | exact Below.refl _ _ | apply pw_below_drewN | apply below_alloc)⟩
      by_cases c2 : Q < -32767
      · have hok : sgOk I B true = false := by rw [HOK.out]; simp; omega
        have hq : sgQ I B true = 0 := by rw [HQQ.out, hok]; rfl
        have hr : sgR I B true = 0 := by rw [HRR.out, hok]; rfl
        go_enter Try.func3, Try.ntmps3
        go_wp2_with fail
        go_quiet (fail)
        go_wp2_with fail
        refine (div_89_true n0 HI n2 a0 (by omega) (by omega) HZ.out _).mono ?_
        rintro e w' ⟨rfl, ⟨nd, rfl⟩⟩
        rw [hD, hI, hB, hq, hr, hok]
        go_wp2_with (first
          | (go_at_call 16; refine (whole_c _ true true (by omega) _).mono ?_; rintro e w' ⟨rfl, ⟨nd, rfl⟩⟩)
          | (go_at_call 15; refine (rcut_c _ _ (by omega) _).mono ?_; rintro e w' ⟨rfl, ⟨nd, rfl⟩⟩)
          | (go_at_call 14; refine (rsize_c _ _).mono ?_; rintro e w' ⟨rfl, ⟨nd, rfl⟩⟩)
          | (go_at_call 17; refine (awake10_c _).mono ?_; rintro e w' ⟨rfl, ⟨nd, rfl⟩⟩))
        go_ret
        exact ⟨by first | rfl | exact rb (by simp; omega), by repeat (first | exact Below.refl _ _ | apply pw_below_drewN | apply below_alloc)⟩
      · have hok : sgOk I B true = true := by rw [HOK.out]; simp; omega
        have hq : sgQ I B true = QM := by rw [HQQ.out, hok]; rfl
        have hr : sgR I B true = RM := by rw [HRR.out, hok]; rfl
        go_enter Try.func3, Try.ntmps3
        go_wp2_with fail
        go_quiet (fail)
        go_wp2_with fail
        refine (div_89_true n0 HI n2 a0 (by omega) (by omega) HZ.out _).mono ?_
        rintro e w' ⟨rfl, ⟨nd, rfl⟩⟩
        rw [hD, hI, hB, hq, hr, hok]
        go_wp2_with (first
          | (go_at_call 16; refine (whole_c _ true true (by omega) _).mono ?_; rintro e w' ⟨rfl, ⟨nd, rfl⟩⟩)
          | (go_at_call 15; refine (rcut_c _ _ (by omega) _).mono ?_; rintro e w' ⟨rfl, ⟨nd, rfl⟩⟩)
          | (go_at_call 14; refine (rsize_c _ _).mono ?_; rintro e w' ⟨rfl, ⟨nd, rfl⟩⟩)
          | (go_at_call 17; refine (awake10_c _).mono ?_; rintro e w' ⟨rfl, ⟨nd, rfl⟩⟩))
        go_quiet (fail)
        go_wp2_with (first
          | (go_at_call 16; refine (whole_c _ true true (by omega) _).mono ?_; rintro e w' ⟨rfl, ⟨nd, rfl⟩⟩)
          | (go_at_call 15; refine (rcut_c _ _ (by omega) _).mono ?_; rintro e w' ⟨rfl, ⟨nd, rfl⟩⟩)
          | (go_at_call 14; refine (rsize_c _ _).mono ?_; rintro e w' ⟨rfl, ⟨nd, rfl⟩⟩)
          | (go_at_call 17; refine (awake10_c _).mono ?_; rintro e w' ⟨rfl, ⟨nd, rfl⟩⟩))
        go_ret
        exact ⟨by first | rfl | exact rb (by simp; omega), by repeat (first | exact Below.refl _ _ | apply pw_below_drewN | apply below_alloc)⟩

set_option maxRecDepth 100000 in
set_option maxHeartbeats 16000000 in
theorem div_89_true_11 (n0 n1 n2 : Nat) (how : Int) (w : World) (a0 : n0 < 65536) (a1 : n1 < 65536) (a2 : n2 < 65536) (h1 : Go.bits .and .i64 how 1 = 1) (h2 : decide (0 < Go.bits .and .i64 how 2) = true) (h4 : decide (0 < Go.bits .and .i64 how 4) = true) (h8 : decide (0 < Go.bits .and .i64 how 8) = true) :
    Calls Try.prog 3 #[.agg #[.int .u16 n0, .int .u16 n1, .int .u16 n2], .int .i64 how] w fun e w' => e = .returned (.bool true) ∧ Below w.heap.size w w' := by
  have m1 : szN true = 16 := rfl
  have hand1 : Go.bits .and .u16 (n1 : Int) 3 = ((n1 % 4 : Nat) : Int) := by
    rw [u16_and _ _ (by omega) (by omega) (by omega) (by omega), show (3 : Int).toNat = 2 ^ 2 - 1 from rfl, Nat.and_two_pow_sub_one_eq_mod]; rfl
  obtain ⟨HI, hHI⟩ : ∃ HI, n1 % 4 = HI := ⟨_, rfl⟩
  rw [hHI] at hand1
  have hHl : HI < 65536 := by omega
  clear hHI
  have hand2 := and15 n2 a2
  obtain ⟨b15, h15⟩ : ∃ b15, ((n2 % 16 : Nat) : Int) = b15 := ⟨_, rfl⟩
  rw [h15] at hand2
  have b150 : 0 ≤ b15 := by omega
  have b151 : b15 ≤ 15 := by omega
  obtain ⟨BY, hBY⟩ : ∃ BY : Nat, b15 + 1 = (BY : Int) := ⟨n2 % 16 + 1, by omega⟩
  have hBl : BY < 65536 := by omega
  clear h15
  have cM := cutN_M BY true
  have dL := dvdN_lt n0 HI true
  have cH := cutN_M HI true
  have cL := cutN_M n0 true
  simp [MM] at cM dL cH cL
  by_cases hz : cutN BY true = 0
  · have hw : wholeM BY true true = 0 := by simp [wholeM, sprM, hz, HH]
    have HZ := Aside0.mk hz
    obtain ⟨A0, hA1⟩ : ∃ A0, ((cutN HI true : Nat) : Int) * 65536 + ((cutN n0 true : Nat) : Int) = A0 := ⟨_, rfl⟩
    have A00 : 0 ≤ A0 := by omega
    have A01 : A0 ≤ 4294967295 := by omega
    clear hz dL
    cases hs : decide (2147483648 ≤ A0)
    all_goals
      go_enter Try.func3, Try.ntmps3
      go_wp2_with fail
      go_quiet (fail)
      go_wp2_with fail
      refine (divz_89_true n0 HI BY a0 (by omega) (by omega) HZ.out _).mono ?_
      rintro e w' ⟨rfl, ⟨nd, rfl⟩⟩
      go_wp2_with (first
        | (go_at_call 16; refine (whole_c _ true true (by omega) _).mono ?_; rintro e w' ⟨rfl, ⟨nd, rfl⟩⟩)
        | (go_at_call 15; refine (rcut_c _ _ (by omega) _).mono ?_; rintro e w' ⟨rfl, ⟨nd, rfl⟩⟩)
        | (go_at_call 14; refine (rsize_c _ _).mono ?_; rintro e w' ⟨rfl, ⟨nd, rfl⟩⟩)
        | (go_at_call 17; refine (awake10_c _).mono ?_; rintro e w' ⟨rfl, ⟨nd, rfl⟩⟩))
      go_ret
      exact ⟨by first | rfl | exact rb (by simp; omega), by repeat (first | exact Below.refl _ _ | apply pw_below_drewN | apply below_alloc)⟩
  · obtain ⟨A0, hA0⟩ : ∃ A0, ((dvdN n0 HI true : Nat) : Int) = A0 := ⟨_, rfl⟩
    have hA1 : ((cutN HI true : Nat) : Int) * 65536 + ((cutN n0 true : Nat) : Int) = A0 := by rw [← hA0]; unfold dvdN; simp [MM]
    have A00 : 0 ≤ A0 := by omega
    have A01 : A0 ≤ 4294967295 := by omega
    have HZ := Aside0.mk hz
    have hnz : sprM BY true ≠ 0 := by
      have h := spr_ne (cutN BY true) true (cutN_M _ _) hz
      have hsp : sprM (cutN BY true) true = sprM BY true := by unfold sprM; rw [cut_cut]
      rwa [hsp] at h
    obtain ⟨D, hD⟩ : ∃ D, dvdN n0 HI true = D := ⟨_, rfl⟩
    rw [hD] at hA0 dL
    clear hz
    obtain ⟨B, hB⟩ : ∃ B, sprM BY true = B := ⟨_, rfl⟩
    have hw : wholeM BY true true = B := hB
    obtain ⟨B0, B1⟩ := sprM_b BY true
    rw [hB] at B0 B1
    simp [HH] at B0 B1
    rw [hB] at hnz
    have z0 : (B == 0) = false := by rw [beq_eq_false_iff_ne]; exact hnz
    obtain ⟨I, hI⟩ : ∃ I, sgnI D true = I := ⟨_, rfl⟩
    have hIb : -2147483648 ≤ I ∧ I ≤ 2147483647 := by have := sgnI_b D true (by simp [MM]; omega); omega
    obtain ⟨i0, i1⟩ := hIb
    obtain ⟨Q, hQ⟩ : ∃ Q, Int.tdiv I B = Q := ⟨_, rfl⟩
    obtain ⟨R, hR⟩ : ∃ R, Int.tmod I B = R := ⟨_, rfl⟩
    have hQb := tdiv_b I B
    have hRb := tmod_b I B
    rw [hQ] at hQb
    rw [hR] at hRb
    have q0 : -2147483648 ≤ Q := by omega
    have q1 : Q ≤ 2147483648 := by omega
    have r0 : -2147483648 ≤ R := by omega
    have r1 : R ≤ 2147483648 := by omega
    clear hQb hRb
    have HOK := Aside0.mk (show sgOk I B true = decide (-32767 ≤ Int.tdiv I B ∧ Int.tdiv I B ≤ 32767) from rfl)
    have HQQ := Aside0.mk (show sgQ I B true = if sgOk I B true then Int.tdiv I B % 65536 else 0 from rfl)
    have HRR := Aside0.mk (show sgR I B true = if sgOk I B true then Int.tmod I B % 65536 else 0 from rfl)
    rw [hQ] at HOK HQQ
    rw [hR] at HRR
    have tq := tmod_up Q 65536 (by omega)
    obtain ⟨tq0, tq1⟩ := tmod_bb Q 65536 (by omega)
    obtain ⟨TQ, hTQ⟩ : ∃ TQ, Int.tmod Q 65536 = TQ := ⟨_, rfl⟩
    rw [hTQ] at tq tq0 tq1
    have tr := tmod_up R 65536 (by omega)
    obtain ⟨tr0, tr1⟩ := tmod_bb R 65536 (by omega)
    obtain ⟨TR, hTR⟩ : ∃ TR, Int.tmod R 65536 = TR := ⟨_, rfl⟩
    rw [hTR] at tr tr0 tr1
    obtain ⟨QM, hQM⟩ : ∃ QM, Q % 65536 = QM := ⟨_, rfl⟩
    obtain ⟨RM, hRM⟩ : ∃ RM, R % 65536 = RM := ⟨_, rfl⟩
    rw [hQM] at tq HQQ
    rw [hRM] at tr HRR
    have qm0 : 0 ≤ QM := by omega
    have qm1 : QM ≤ 65535 := by omega
    have rm0 : 0 ≤ RM := by omega
    have rm1 : RM ≤ 65535 := by omega
    clear hQM hRM
    have hcase : (D < 2147483648 ∧ I = (D : Int)) ∨ (2147483648 ≤ D ∧ (D : Int) - 4294967296 = I) := by
      rw [← hI]; unfold sgnI
      by_cases q : D < 2147483648
      · rw [if_pos (by simpa [MM, HH] using q)]; left; exact ⟨q, rfl⟩
      · rw [if_neg (by simpa [MM, HH] using q)]; right; exact ⟨by omega, by simp [MM]⟩
    rcases hcase with ⟨hs, hi⟩ | ⟨hs, hi⟩
    · rw [hA0] at hi
      have hs' : decide (2147483648 ≤ A0) = false := by simp; omega
      have hQ2 : A0 / B = Q := by rw [← hQ, hi, Int.tdiv_eq_ediv_of_nonneg A00]
      have hR2 : A0 % B = R := by rw [← hR, hi, Int.tmod_eq_emod_of_nonneg A00]
      have hQ3 : Int.tdiv A0 B = Q := by rw [← hQ, hi]
      have hR3 : Int.tmod A0 B = R := by rw [← hR, hi]
      have HI0 := Aside0.mk hI
      clear hi hA0 dL hs
      by_cases c1 : 32767 < Q
      · have hok : sgOk I B true = false := by rw [HOK.out]; simp; omega
        have hq : sgQ I B true = 0 := by rw [HQQ.out, hok]; rfl
        have hr : sgR I B true = 0 := by rw [HRR.out, hok]; rfl
        go_enter Try.func3, Try.ntmps3
        go_wp2_with fail
        go_quiet (fail)
        go_wp2_with fail
        refine (div_89_true n0 HI BY a0 (by omega) (by omega) HZ.out _).mono ?_
        rintro e w' ⟨rfl, ⟨nd, rfl⟩⟩
        rw [hD, hI, hB, hq, hr, hok]
        go_wp2_with (first
          | (go_at_call 16; refine (whole_c _ true true (by omega) _).mono ?_; rintro e w' ⟨rfl, ⟨nd, rfl⟩⟩)
          | (go_at_call 15; refine (rcut_c _ _ (by omega) _).mono ?_; rintro e w' ⟨rfl, ⟨nd, rfl⟩⟩)
          | (go_at_call 14; refine (rsize_c _ _).mono ?_; rintro e w' ⟨rfl, ⟨nd, rfl⟩⟩)
          | (go_at_call 17; refine (awake10_c _).mono ?_; rintro e w' ⟨rfl, ⟨nd, rfl⟩⟩))
        go_ret
        exact ⟨by first | rfl | exact rb (by simp; omega), by repeat (first | exact Below.refl _ _ | apply pw_below_drewN | apply below_alloc)⟩
      by_cases c2 : Q < -32767
      · have hok : sgOk I B true = false := by rw [HOK.out]; simp; omega
        have hq : sgQ I B true = 0 := by rw [HQQ.out, hok]; rfl
        have hr : sgR I B true = 0 := by rw [HRR.out, hok]; rfl
        go_enter Try.func3, Try.ntmps3
        go_wp2_with fail
        go_quiet (fail)
        go_wp2_with fail
        refine (div_89_true n0 HI BY a0 (by omega) (by omega) HZ.out _).mono ?_
        rintro e w' ⟨rfl, ⟨nd, rfl⟩⟩
        rw [hD, hI, hB, hq, hr, hok]
        go_wp2_with (first
          | (go_at_call 16; refine (whole_c _ true true (by omega) _).mono ?_; rintro e w' ⟨rfl, ⟨nd, rfl⟩⟩)
          | (go_at_call 15; refine (rcut_c _ _ (by omega) _).mono ?_; rintro e w' ⟨rfl, ⟨nd, rfl⟩⟩)
          | (go_at_call 14; refine (rsize_c _ _).mono ?_; rintro e w' ⟨rfl, ⟨nd, rfl⟩⟩)
          | (go_at_call 17; refine (awake10_c _).mono ?_; rintro e w' ⟨rfl, ⟨nd, rfl⟩⟩))
        go_ret
        exact ⟨by first | rfl | exact rb (by simp; omega), by repeat (first | exact Below.refl _ _ | apply pw_below_drewN | apply below_alloc)⟩
      · have hok : sgOk I B true = true := by rw [HOK.out]; simp; omega
        have hq : sgQ I B true = QM := by rw [HQQ.out, hok]; rfl
        have hr : sgR I B true = RM := by rw [HRR.out, hok]; rfl
        go_enter Try.func3, Try.ntmps3
        go_wp2_with fail
        go_quiet (fail)
        go_wp2_with fail
        refine (div_89_true n0 HI BY a0 (by omega) (by omega) HZ.out _).mono ?_
        rintro e w' ⟨rfl, ⟨nd, rfl⟩⟩
        rw [hD, hI, hB, hq, hr, hok]
        go_wp2_with (first
          | (go_at_call 16; refine (whole_c _ true true (by omega) _).mono ?_; rintro e w' ⟨rfl, ⟨nd, rfl⟩⟩)
          | (go_at_call 15; refine (rcut_c _ _ (by omega) _).mono ?_; rintro e w' ⟨rfl, ⟨nd, rfl⟩⟩)
          | (go_at_call 14; refine (rsize_c _ _).mono ?_; rintro e w' ⟨rfl, ⟨nd, rfl⟩⟩)
          | (go_at_call 17; refine (awake10_c _).mono ?_; rintro e w' ⟨rfl, ⟨nd, rfl⟩⟩))
        go_quiet (fail)
        go_wp2_with (first
          | (go_at_call 16; refine (whole_c _ true true (by omega) _).mono ?_; rintro e w' ⟨rfl, ⟨nd, rfl⟩⟩)
          | (go_at_call 15; refine (rcut_c _ _ (by omega) _).mono ?_; rintro e w' ⟨rfl, ⟨nd, rfl⟩⟩)
          | (go_at_call 14; refine (rsize_c _ _).mono ?_; rintro e w' ⟨rfl, ⟨nd, rfl⟩⟩)
          | (go_at_call 17; refine (awake10_c _).mono ?_; rintro e w' ⟨rfl, ⟨nd, rfl⟩⟩))
        go_ret
        exact ⟨by first | rfl | exact rb (by simp; omega), by repeat (first | exact Below.refl _ _ | apply pw_below_drewN | apply below_alloc)⟩
    · rw [hA0] at hi
      have hs' : decide (2147483648 ≤ A0) = true := by simp; omega
      have HI0 := Aside0.mk hI
      clear hA0 dL hs
      by_cases c1 : 32767 < Q
      · have hok : sgOk I B true = false := by rw [HOK.out]; simp; omega
        have hq : sgQ I B true = 0 := by rw [HQQ.out, hok]; rfl
        have hr : sgR I B true = 0 := by rw [HRR.out, hok]; rfl
        go_enter Try.func3, Try.ntmps3
        go_wp2_with fail
        go_quiet (fail)
        go_wp2_with fail
        refine (div_89_true n0 HI BY a0 (by omega) (by omega) HZ.out _).mono ?_
        rintro e w' ⟨rfl, ⟨nd, rfl⟩⟩
        rw [hD, hI, hB, hq, hr, hok]
        go_wp2_with (first
          | (go_at_call 16; refine (whole_c _ true true (by omega) _).mono ?_; rintro e w' ⟨rfl, ⟨nd, rfl⟩⟩)
          | (go_at_call 15; refine (rcut_c _ _ (by omega) _).mono ?_; rintro e w' ⟨rfl, ⟨nd, rfl⟩⟩)
          | (go_at_call 14; refine (rsize_c _ _).mono ?_; rintro e w' ⟨rfl, ⟨nd, rfl⟩⟩)
          | (go_at_call 17; refine (awake10_c _).mono ?_; rintro e w' ⟨rfl, ⟨nd, rfl⟩⟩))
        go_ret
        exact ⟨by first | rfl | exact rb (by simp; omega), by repeat (first | exact Below.refl _ _ | apply pw_below_drewN | apply below_alloc)⟩
      by_cases c2 : Q < -32767
      · have hok : sgOk I B true = false := by rw [HOK.out]; simp; omega
        have hq : sgQ I B true = 0 := by rw [HQQ.out, hok]; rfl
        have hr : sgR I B true = 0 := by rw [HRR.out, hok]; rfl
        go_enter Try.func3, Try.ntmps3
        go_wp2_with fail
        go_quiet (fail)
        go_wp2_with fail
        refine (div_89_true n0 HI BY a0 (by omega) (by omega) HZ.out _).mono ?_
        rintro e w' ⟨rfl, ⟨nd, rfl⟩⟩
        rw [hD, hI, hB, hq, hr, hok]
        go_wp2_with (first
          | (go_at_call 16; refine (whole_c _ true true (by omega) _).mono ?_; rintro e w' ⟨rfl, ⟨nd, rfl⟩⟩)
          | (go_at_call 15; refine (rcut_c _ _ (by omega) _).mono ?_; rintro e w' ⟨rfl, ⟨nd, rfl⟩⟩)
          | (go_at_call 14; refine (rsize_c _ _).mono ?_; rintro e w' ⟨rfl, ⟨nd, rfl⟩⟩)
          | (go_at_call 17; refine (awake10_c _).mono ?_; rintro e w' ⟨rfl, ⟨nd, rfl⟩⟩))
        go_ret
        exact ⟨by first | rfl | exact rb (by simp; omega), by repeat (first | exact Below.refl _ _ | apply pw_below_drewN | apply below_alloc)⟩
      · have hok : sgOk I B true = true := by rw [HOK.out]; simp; omega
        have hq : sgQ I B true = QM := by rw [HQQ.out, hok]; rfl
        have hr : sgR I B true = RM := by rw [HRR.out, hok]; rfl
        go_enter Try.func3, Try.ntmps3
        go_wp2_with fail
        go_quiet (fail)
        go_wp2_with fail
        refine (div_89_true n0 HI BY a0 (by omega) (by omega) HZ.out _).mono ?_
        rintro e w' ⟨rfl, ⟨nd, rfl⟩⟩
        rw [hD, hI, hB, hq, hr, hok]
        go_wp2_with (first
          | (go_at_call 16; refine (whole_c _ true true (by omega) _).mono ?_; rintro e w' ⟨rfl, ⟨nd, rfl⟩⟩)
          | (go_at_call 15; refine (rcut_c _ _ (by omega) _).mono ?_; rintro e w' ⟨rfl, ⟨nd, rfl⟩⟩)
          | (go_at_call 14; refine (rsize_c _ _).mono ?_; rintro e w' ⟨rfl, ⟨nd, rfl⟩⟩)
          | (go_at_call 17; refine (awake10_c _).mono ?_; rintro e w' ⟨rfl, ⟨nd, rfl⟩⟩))
        go_quiet (fail)
        go_wp2_with (first
          | (go_at_call 16; refine (whole_c _ true true (by omega) _).mono ?_; rintro e w' ⟨rfl, ⟨nd, rfl⟩⟩)
          | (go_at_call 15; refine (rcut_c _ _ (by omega) _).mono ?_; rintro e w' ⟨rfl, ⟨nd, rfl⟩⟩)
          | (go_at_call 14; refine (rsize_c _ _).mono ?_; rintro e w' ⟨rfl, ⟨nd, rfl⟩⟩)
          | (go_at_call 17; refine (awake10_c _).mono ?_; rintro e w' ⟨rfl, ⟨nd, rfl⟩⟩))
        go_ret
        exact ⟨by first | rfl | exact rb (by simp; omega), by repeat (first | exact Below.refl _ _ | apply pw_below_drewN | apply below_alloc)⟩
end Go.Proofs.Ytefdfcdgghoknaa.My
