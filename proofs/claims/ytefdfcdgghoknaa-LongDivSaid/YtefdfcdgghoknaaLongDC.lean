/- The walk of the law LongDiv: it returns true at every input. -/
import Derived.Test.YtefdfcdgghoknaaLongV
namespace Go.Proofs.Ytefdfcdgghoknaa.My
open Go.RowKit Go.Proofs.YtefdfcdgghoknaaW.PrintWords Go.Proofs.YtefdfcdgghoknaaW.PrintLast Go.Proofs.YtefdfcdgghoknaaW.PrintMore
set_option linter.unusedVariables false
set_option linter.unusedSimpArgs false

set_option maxRecDepth 100000 in
set_option maxHeartbeats 16000000 in
theorem div_89_false_00 (n0 n1 n2 : Nat) (how : Int) (w : World) (a0 : n0 < 65536) (a1 : n1 < 65536) (a2 : n2 < 65536) (h1 : Go.bits .and .i64 how 1 = 1) (h2 : decide (0 < Go.bits .and .i64 how 2) = false) (h4 : decide (0 < Go.bits .and .i64 how 4) = false) (h8 : decide (0 < Go.bits .and .i64 how 8) = false) :
    Calls Try.prog 3 #[.agg #[.int .u16 n0, .int .u16 n1, .int .u16 n2], .int .i64 how] w fun e w' => e = .returned (.bool true) ∧ Below w.heap.size w w' := by
  have m1 : szN false = 8 := rfl
  have cM := cutN_M n2 false
  have dL := dvdN_lt n0 n1 false
  have cH := cutN_M n1 false
  have cL := cutN_M n0 false
  simp [MM] at cM dL cH cL
  by_cases hz : cutN n2 false = 0
  · have hw : wholeM n2 true false = 0 := by simp [wholeM, sprM, hz, HH]
    have HZ := Aside0.mk hz
    obtain ⟨A0, hA1⟩ : ∃ A0, ((cutN n1 false : Nat) : Int) * 256 + ((cutN n0 false : Nat) : Int) = A0 := ⟨_, rfl⟩
    have A00 : 0 ≤ A0 := by omega
    have A01 : A0 ≤ 65535 := by omega
    clear hz dL
    cases hs : decide (32768 ≤ A0)
    all_goals
      go_enter Try.func3, Try.ntmps3
      go_wp2_with fail
      go_quiet (fail)
      go_wp2_with fail
      refine (divz_89_false n0 n1 n2 a0 (by omega) (by omega) HZ.out _).mono ?_
      rintro e w' ⟨rfl, ⟨nd, rfl⟩⟩
      go_wp2_with (first
        | (go_at_call 16; refine (whole_c _ true false (by omega) _).mono ?_; rintro e w' ⟨rfl, ⟨nd, rfl⟩⟩)
        | (go_at_call 15; refine (rcut_c _ _ (by omega) _).mono ?_; rintro e w' ⟨rfl, ⟨nd, rfl⟩⟩)
        | (go_at_call 14; refine (rsize_c _ _).mono ?_; rintro e w' ⟨rfl, ⟨nd, rfl⟩⟩)
        | (go_at_call 17; refine (awake10_c _).mono ?_; rintro e w' ⟨rfl, ⟨nd, rfl⟩⟩))
      go_ret
      exact ⟨by first | rfl | exact rb (by simp; omega), by repeat (first | exact Below.refl _ _ | apply pw_below_drewN | apply below_alloc)⟩
  · obtain ⟨A0, hA0⟩ : ∃ A0, ((dvdN n0 n1 false : Nat) : Int) = A0 := ⟨_, rfl⟩
    have hA1 : ((cutN n1 false : Nat) : Int) * 256 + ((cutN n0 false : Nat) : Int) = A0 := by rw [← hA0]; unfold dvdN; simp [MM]
    have A00 : 0 ≤ A0 := by omega
    have A01 : A0 ≤ 65535 := by omega
    have HZ := Aside0.mk hz
    have hnz : sprM n2 false ≠ 0 := by
      have h := spr_ne (cutN n2 false) false (cutN_M _ _) hz
      have hsp : sprM (cutN n2 false) false = sprM n2 false := by unfold sprM; rw [cut_cut]
      rwa [hsp] at h
    obtain ⟨D, hD⟩ : ∃ D, dvdN n0 n1 false = D := ⟨_, rfl⟩
    rw [hD] at hA0 dL
    clear hz
    obtain ⟨B, hB⟩ : ∃ B, sprM n2 false = B := ⟨_, rfl⟩
    have hw : wholeM n2 true false = B := hB
    obtain ⟨B0, B1⟩ := sprM_b n2 false
    rw [hB] at B0 B1
    simp [HH] at B0 B1
    rw [hB] at hnz
    have z0 : (B == 0) = false := by rw [beq_eq_false_iff_ne]; exact hnz
    obtain ⟨I, hI⟩ : ∃ I, sgnI D false = I := ⟨_, rfl⟩
    have hIb : -2147483648 ≤ I ∧ I ≤ 2147483647 := by have := sgnI_b D false (by simp [MM]; omega); omega
    obtain ⟨i0, i1⟩ := hIb
    obtain ⟨Q, hQ⟩ : ∃ Q, Int.tdiv I B = Q := ⟨_, rfl⟩
    obtain ⟨R, hR⟩ : ∃ R, Int.tmod I B = R := ⟨_, rfl⟩
    have hQb := tdiv_b I B
    have hRb := tmod_b I B
    rw [hQ] at hQb
    rw [hR] at hRb
    have q0 : -2147483648 ≤ Q := by omega
    have q1 : Q ≤ 2147483648 := by omega
    have r0 : -2147483648 ≤ R := by omega
    have r1 : R ≤ 2147483648 := by omega
    clear hQb hRb
    have HOK := Aside0.mk (show sgOk I B false = decide (-127 ≤ Int.tdiv I B ∧ Int.tdiv I B ≤ 127) from rfl)
    have HQQ := Aside0.mk (show sgQ I B false = if sgOk I B false then Int.tdiv I B % 256 else 0 from rfl)
    have HRR := Aside0.mk (show sgR I B false = if sgOk I B false then Int.tmod I B % 256 else 0 from rfl)
    rw [hQ] at HOK HQQ
    rw [hR] at HRR
    have tq := tmod_up Q 256 (by omega)
    obtain ⟨tq0, tq1⟩ := tmod_bb Q 256 (by omega)
    obtain ⟨TQ, hTQ⟩ : ∃ TQ, Int.tmod Q 256 = TQ := ⟨_, rfl⟩
    rw [hTQ] at tq tq0 tq1
    have tr := tmod_up R 256 (by omega)
    obtain ⟨tr0, tr1⟩ := tmod_bb R 256 (by omega)
    obtain ⟨TR, hTR⟩ : ∃ TR, Int.tmod R 256 = TR := ⟨_, rfl⟩
    rw [hTR] at tr tr0 tr1
    obtain ⟨QM, hQM⟩ : ∃ QM, Q % 256 = QM := ⟨_, rfl⟩
    obtain ⟨RM, hRM⟩ : ∃ RM, R % 256 = RM := ⟨_, rfl⟩
    rw [hQM] at tq HQQ
    rw [hRM] at tr HRR
    have qm0 : 0 ≤ QM := by omega
    have qm1 : QM ≤ 255 := by omega
    have rm0 : 0 ≤ RM := by omega
    have rm1 : RM ≤ 255 := by omega
    clear hQM hRM
    have hcase : (D < 32768 ∧ I = (D : Int)) ∨ (32768 ≤ D ∧ (D : Int) - 65536 = I) := by
      rw [← hI]; unfold sgnI
      by_cases q : D < 32768
      · rw [if_pos (by simpa [MM, HH] using q)]; left; exact ⟨q, rfl⟩
      · rw [if_neg (by simpa [MM, HH] using q)]; right; exact ⟨by omega, by simp [MM]⟩
    rcases hcase with ⟨hs, hi⟩ | ⟨hs, hi⟩
    · rw [hA0] at hi
      have hs' : decide (32768 ≤ A0) = false := by simp; omega
      have hQ2 : A0 / B = Q := by rw [← hQ, hi, Int.tdiv_eq_ediv_of_nonneg A00]
      have hR2 : A0 % B = R := by rw [← hR, hi, Int.tmod_eq_emod_of_nonneg A00]
      have hQ3 : Int.tdiv A0 B = Q := by rw [← hQ, hi]
      have hR3 : Int.tmod A0 B = R := by rw [← hR, hi]
      have HI0 := Aside0.mk hI
      clear hi hA0 dL hs
      by_cases c1 : 127 < Q
      · have hok : sgOk I B false = false := by rw [HOK.out]; simp; omega
        have hq : sgQ I B false = 0 := by rw [HQQ.out, hok]; rfl
        have hr : sgR I B false = 0 := by rw [HRR.out, hok]; rfl
        go_enter Try.func3, Try.ntmps3
        go_wp2_with fail
        go_quiet (fail)
        go_wp2_with fail
        refine (div_89_false n0 n1 n2 a0 (by omega) (by omega) HZ.out _).mono ?_
        rintro e w' ⟨rfl, ⟨nd, rfl⟩⟩
        rw [hD, hI, hB, hq, hr, hok]
        go_wp2_with (first
          | (go_at_call 16; refine (whole_c _ true false (by omega) _).mono ?_; rintro e w' ⟨rfl, ⟨nd, rfl⟩⟩)
          | (go_at_call 15; refine (rcut_c _ _ (by omega) _).mono ?_; rintro e w' ⟨rfl, ⟨nd, rfl⟩⟩)
          | (go_at_call 14; refine (rsize_c _ _).mono ?_; rintro e w' ⟨rfl, ⟨nd, rfl⟩⟩)
          | (go_at_call 17; refine (awake10_c _).mono ?_; rintro e w' ⟨rfl, ⟨nd, rfl⟩⟩))
        go_ret
        exact ⟨by first | rfl | exact rb (by simp; omega), by repeat (first | exact Below.refl _ _ | apply pw_below_drewN | apply below_alloc)⟩
      by_cases c2 : Q < -127
      · have hok : sgOk I B false = false := by rw [HOK.out]; simp; omega
        have hq : sgQ I B false = 0 := by rw [HQQ.out, hok]; rfl
        have hr : sgR I B false = 0 := by rw [HRR.out, hok]; rfl
        go_enter Try.func3, Try.ntmps3
        go_wp2_with fail
        go_quiet (fail)
        go_wp2_with fail
        refine (div_89_false n0 n1 n2 a0 (by omega) (by omega) HZ.out _).mono ?_
        rintro e w' ⟨rfl, ⟨nd, rfl⟩⟩
        rw [hD, hI, hB, hq, hr, hok]
        go_wp2_with (first
          | (go_at_call 16; refine (whole_c _ true false (by omega) _).mono ?_; rintro e w' ⟨rfl, ⟨nd, rfl⟩⟩)
          | (go_at_call 15; refine (rcut_c _ _ (by omega) _).mono ?_; rintro e w' ⟨rfl, ⟨nd, rfl⟩⟩)
          | (go_at_call 14; refine (rsize_c _ _).mono ?_; rintro e w' ⟨rfl, ⟨nd, rfl⟩⟩)
          | (go_at_call 17; refine (awake10_c _).mono ?_; rintro e w' ⟨rfl, ⟨nd, rfl⟩⟩))
        go_ret
        exact ⟨by first | rfl | exact rb (by simp; omega), by repeat (first | exact Below.refl _ _ | apply pw_below_drewN | apply below_alloc)⟩
      · have hok : sgOk I B false = true := by rw [HOK.out]; simp; omega
        have hq : sgQ I B false = QM := by rw [HQQ.out, hok]; rfl
        have hr : sgR I B false = RM := by rw [HRR.out, hok]; rfl
        go_enter Try.func3, Try.ntmps3
        go_wp2_with fail
        go_quiet (fail)
        go_wp2_with fail
        refine (div_89_false n0 n1 n2 a0 (by omega) (by omega) HZ.out _).mono ?_
        rintro e w' ⟨rfl, ⟨nd, rfl⟩⟩
        rw [hD, hI, hB, hq, hr, hok]
        go_wp2_with (first
          | (go_at_call 16; refine (whole_c _ true false (by omega) _).mono ?_; rintro e w' ⟨rfl, ⟨nd, rfl⟩⟩)
          | (go_at_call 15; refine (rcut_c _ _ (by omega) _).mono ?_; rintro e w' ⟨rfl, ⟨nd, rfl⟩⟩)
          | (go_at_call 14; refine (rsize_c _ _).mono ?_; rintro e w' ⟨rfl, ⟨nd, rfl⟩⟩)
          | (go_at_call 17; refine (awake10_c _).mono ?_; rintro e w' ⟨rfl, ⟨nd, rfl⟩⟩))
        go_quiet (fail)
        go_wp2_with (first
          | (go_at_call 16; refine (whole_c _ true false (by omega) _).mono ?_; rintro e w' ⟨rfl, ⟨nd, rfl⟩⟩)
          | (go_at_call 15; refine (rcut_c _ _ (by omega) _).mono ?_; rintro e w' ⟨rfl, ⟨nd, rfl⟩⟩)
          | (go_at_call 14; refine (rsize_c _ _).mono ?_; rintro e w' ⟨rfl, ⟨nd, rfl⟩⟩)
          | (go_at_call 17; refine (awake10_c _).mono ?_; rintro e w' ⟨rfl, ⟨nd, rfl⟩⟩))
        go_ret
        exact ⟨by first | rfl | exact rb (by simp; omega), by repeat (first | exact Below.refl _ _ | apply pw_below_drewN | apply below_alloc)⟩
    · rw [hA0] at hi
      have hs' : decide (32768 ≤ A0) = true := by simp; omega
      have HI0 := Aside0.mk hI
      clear hA0 dL hs
      by_cases c1 : 127 < Q
      · have hok : sgOk I B false = false := by rw [HOK.out]; simp; omega
        have hq : sgQ I B false = 0 := by rw [HQQ.out, hok]; rfl
        have hr : sgR I B false = 0 := by rw [HRR.out, hok]; rfl
        go_enter Try.func3, Try.ntmps3
        go_wp2_with fail
        go_quiet (fail)
        go_wp2_with fail
        refine (div_89_false n0 n1 n2 a0 (by omega) (by omega) HZ.out _).mono ?_
        rintro e w' ⟨rfl, ⟨nd, rfl⟩⟩
        rw [hD, hI, hB, hq, hr, hok]
        go_wp2_with (first
          | (go_at_call 16; refine (whole_c _ true false (by omega) _).mono ?_; rintro e w' ⟨rfl, ⟨nd, rfl⟩⟩)
          | (go_at_call 15; refine (rcut_c _ _ (by omega) _).mono ?_; rintro e w' ⟨rfl, ⟨nd, rfl⟩⟩)
          | (go_at_call 14; refine (rsize_c _ _).mono ?_; rintro e w' ⟨rfl, ⟨nd, rfl⟩⟩)
          | (go_at_call 17; refine (awake10_c _).mono ?_; rintro e w' ⟨rfl, ⟨nd, rfl⟩⟩))
        go_ret
        exact ⟨by first | rfl | exact rb (by simp; omega), by repeat (first | exact Below.refl _ _ | apply pw_below_drewN | apply below_alloc)⟩
      by_cases c2 : Q < -127
      · have hok : sgOk I B false = false := by rw [HOK.out]; simp; omega
        have hq : sgQ I B false = 0 := by rw [HQQ.out, hok]; rfl
        have hr : sgR I B false = 0 := by rw [HRR.out, hok]; rfl
        go_enter Try.func3, Try.ntmps3
        go_wp2_with fail
        go_quiet (fail)
        go_wp2_with fail
        refine (div_89_false n0 n1 n2 a0 (by omega) (by omega) HZ.out _).mono ?_
        rintro e w' ⟨rfl, ⟨nd, rfl⟩⟩
        rw [hD, hI, hB, hq, hr, hok]
        go_wp2_with (first
          | (go_at_call 16; refine (whole_c _ true false (by omega) _).mono ?_; rintro e w' ⟨rfl, ⟨nd, rfl⟩⟩)
          | (go_at_call 15; refine (rcut_c _ _ (by omega) _).mono ?_; rintro e w' ⟨rfl, ⟨nd, rfl⟩⟩)
          | (go_at_call 14; refine (rsize_c _ _).mono ?_; rintro e w' ⟨rfl, ⟨nd, rfl⟩⟩)
          | (go_at_call 17; refine (awake10_c _).mono ?_; rintro e w' ⟨rfl, ⟨nd, rfl⟩⟩))
        go_ret
        exact ⟨by first | rfl | exact rb (by simp; omega), by repeat (first | exact Below.refl _ _ | apply pw_below_drewN | apply below_alloc)⟩
      · have hok : sgOk I B false = true := by rw [HOK.out]; simp; omega
        have hq : sgQ I B false = QM := by rw [HQQ.out, hok]; rfl
        have hr : sgR I B false = RM := by rw [HRR.out, hok]; rfl
        go_enter Try.func3, Try.ntmps3
        go_wp2_with fail
        go_quiet (fail)
        go_wp2_with fail
        refine (div_89_false n0 n1 n2 a0 (by omega) (by omega) HZ.out _).mono ?_
        rintro e w' ⟨rfl, ⟨nd, rfl⟩⟩
        rw [hD, hI, hB, hq, hr, hok]
        go_wp2_with (first
          | (go_at_call 16; refine (whole_c _ true false (by omega) _).mono ?_; rintro e w' ⟨rfl, ⟨nd, rfl⟩⟩)
          | (go_at_call 15; refine (rcut_c _ _ (by omega) _).mono ?_; rintro e w' ⟨rfl, ⟨nd, rfl⟩⟩)
          | (go_at_call 14; refine (rsize_c _ _).mono ?_; rintro e w' ⟨rfl, ⟨nd, rfl⟩⟩)
          | (go_at_call 17; refine (awake10_c _).mono ?_; rintro e w' ⟨rfl, ⟨nd, rfl⟩⟩))
        go_quiet (fail)
        go_wp2_with (first
          | (go_at_call 16; refine (whole_c _ true false (by omega) _).mono ?_; rintro e w' ⟨rfl, ⟨nd, rfl⟩⟩)
          | (go_at_call 15; refine (rcut_c _ _ (by omega) _).mono ?_; rintro e w' ⟨rfl, ⟨nd, rfl⟩⟩)
          | (go_at_call 14; refine (rsize_c _ _).mono ?_; rintro e w' ⟨rfl, ⟨nd, rfl⟩⟩)
          | (go_at_call 17; refine (awake10_c _).mono ?_; rintro e w' ⟨rfl, ⟨nd, rfl⟩⟩))
        go_ret
        exact ⟨by first | rfl | exact rb (by simp; omega), by repeat (first | exact Below.refl _ _ | apply pw_below_drewN | apply below_alloc)⟩

set_option maxRecDepth 100000 in
set_option maxHeartbeats 16000000 in
theorem div_89_false_01 (n0 n1 n2 : Nat) (how : Int) (w : World) (a0 : n0 < 65536) (a1 : n1 < 65536) (a2 : n2 < 65536) (h1 : Go.bits .and .i64 how 1 = 1) (h2 : decide (0 < Go.bits .and .i64 how 2) = false) (h4 : decide (0 < Go.bits .and .i64 how 4) = false) (h8 : decide (0 < Go.bits .and .i64 how 8) = true) :
    Calls Try.prog 3 #[.agg #[.int .u16 n0, .int .u16 n1, .int .u16 n2], .int .i64 how] w fun e w' => e = .returned (.bool true) ∧ Below w.heap.size w w' := by
  have m1 : szN false = 8 := rfl
  have hand2 := and15 n2 a2
  obtain ⟨b15, h15⟩ : ∃ b15, ((n2 % 16 : Nat) : Int) = b15 := ⟨_, rfl⟩
  rw [h15] at hand2
  have b150 : 0 ≤ b15 := by omega
  have b151 : b15 ≤ 15 := by omega
  obtain ⟨BY, hBY⟩ : ∃ BY : Nat, b15 + 1 = (BY : Int) := ⟨n2 % 16 + 1, by omega⟩
  have hBl : BY < 65536 := by omega
  clear h15
  have cM := cutN_M BY false
  have dL := dvdN_lt n0 n1 false
  have cH := cutN_M n1 false
  have cL := cutN_M n0 false
  simp [MM] at cM dL cH cL
  by_cases hz : cutN BY false = 0
  · have hw : wholeM BY true false = 0 := by simp [wholeM, sprM, hz, HH]
    have HZ := Aside0.mk hz
    obtain ⟨A0, hA1⟩ : ∃ A0, ((cutN n1 false : Nat) : Int) * 256 + ((cutN n0 false : Nat) : Int) = A0 := ⟨_, rfl⟩
    have A00 : 0 ≤ A0 := by omega
    have A01 : A0 ≤ 65535 := by omega
    clear hz dL
    cases hs : decide (32768 ≤ A0)
    all_goals
      go_enter Try.func3, Try.ntmps3
      go_wp2_with fail
      go_quiet (fail)
      go_wp2_with fail
      refine (divz_89_false n0 n1 BY a0 (by omega) (by omega) HZ.out _).mono ?_
      rintro e w' ⟨rfl, ⟨nd, rfl⟩⟩
      go_wp2_with (first
        | (go_at_call 16; refine (whole_c _ true false (by omega) _).mono ?_; rintro e w' ⟨rfl, ⟨nd, rfl⟩⟩)
        | (go_at_call 15; refine (rcut_c _ _ (by omega) _).mono ?_; rintro e w' ⟨rfl, ⟨nd, rfl⟩⟩)
        | (go_at_call 14; refine (rsize_c _ _).mono ?_; rintro e w' ⟨rfl, ⟨nd, rfl⟩⟩)
        | (go_at_call 17; refine (awake10_c _).mono ?_; rintro e w' ⟨rfl, ⟨nd, rfl⟩⟩))
      go_ret
      exact ⟨by first | rfl | exact rb (by simp; omega), by repeat (first | exact Below.refl _ _ | apply pw_below_drewN | apply below_alloc)⟩
  · obtain ⟨A0, hA0⟩ : ∃ A0, ((dvdN n0 n1 false : Nat) : Int) = A0 := ⟨_, rfl⟩
    have hA1 : ((cutN n1 false : Nat) : Int) * 256 + ((cutN n0 false : Nat) : Int) = A0 := by rw [← hA0]; unfold dvdN; simp [MM]
    have A00 : 0 ≤ A0 := by omega
    have A01 : A0 ≤ 65535 := by omega
    have HZ := Aside0.mk hz
    have hnz : sprM BY false ≠ 0 := by
      have h := spr_ne (cutN BY false) false (cutN_M _ _) hz
      have hsp : sprM (cutN BY false) false = sprM BY false := by unfold sprM; rw [cut_cut]
      rwa [hsp] at h
    obtain ⟨D, hD⟩ : ∃ D, dvdN n0 n1 false = D := ⟨_, rfl⟩
    rw [hD] at hA0 dL
    clear hz
    obtain ⟨B, hB⟩ : ∃ B, sprM BY false = B := ⟨_, rfl⟩
    have hw : wholeM BY true false = B := hB
    obtain ⟨B0, B1⟩ := sprM_b BY false
    rw [hB] at B0 B1
    simp [HH] at B0 B1
    rw [hB] at hnz
    have z0 : (B == 0) = false := by rw [beq_eq_false_iff_ne]; exact hnz
    obtain ⟨I, hI⟩ : ∃ I, sgnI D false = I := ⟨_, rfl⟩
    have hIb : -2147483648 ≤ I ∧ I ≤ 2147483647 := by have := sgnI_b D false (by simp [MM]; omega); omega
    obtain ⟨i0, i1⟩ := hIb
    obtain ⟨Q, hQ⟩ : ∃ Q, Int.tdiv I B = Q := ⟨_, rfl⟩
    obtain ⟨R, hR⟩ : ∃ R, Int.tmod I B = R := ⟨_, rfl⟩
    have hQb := tdiv_b I B
    have hRb := tmod_b I B
    rw [hQ] at hQb
    rw [hR] at hRb
    have q0 : -2147483648 ≤ Q := by omega
    have q1 : Q ≤ 2147483648 := by omega
    have r0 : -2147483648 ≤ R := by omega
    have r1 : R ≤ 2147483648 := by omega
    clear hQb hRb
    have HOK := Aside0.mk (show sgOk I B false = decide (-127 ≤ Int.tdiv I B ∧ Int.tdiv I B ≤ 127) from rfl)
    have HQQ := Aside0.mk (show sgQ I B false = if sgOk I B false then Int.tdiv I B % 256 else 0 from rfl)
    have HRR := Aside0.mk (show sgR I B false = if sgOk I B false then Int.tmod I B % 256 else 0 from rfl)
    rw [hQ] at HOK HQQ
    rw [hR] at HRR
    have tq := tmod_up Q 256 (by omega)
    obtain ⟨tq0, tq1⟩ := tmod_bb Q 256 (by omega)
    obtain ⟨TQ, hTQ⟩ : ∃ TQ, Int.tmod Q 256 = TQ := ⟨_, rfl⟩
    rw [hTQ] at tq tq0 tq1
    have tr := tmod_up R 256 (by omega)
    obtain ⟨tr0, tr1⟩ := tmod_bb R 256 (by omega)
    obtain ⟨TR, hTR⟩ : ∃ TR, Int.tmod R 256 = TR := ⟨_, rfl⟩
    rw [hTR] at tr tr0 tr1
    obtain ⟨QM, hQM⟩ : ∃ QM, Q % 256 = QM := ⟨_, rfl⟩
    obtain ⟨RM, hRM⟩ : ∃ RM, R % 256 = RM := ⟨_, rfl⟩
    rw [hQM] at tq HQQ
    rw [hRM] at tr HRR
    have qm0 : 0 ≤ QM := by omega
    have qm1 : QM ≤ 255 := by omega
    have rm0 : 0 ≤ RM := by omega
    have rm1 : RM ≤ 255 := by omega
    clear hQM hRM
    have hcase : (D < 32768 ∧ I = (D : Int)) ∨ (32768 ≤ D ∧ (D : Int) - 65536 = I) := by
      rw [← hI]; unfold sgnI
      by_cases q : D < 32768
      · rw [if_pos (by simpa [MM, HH] using q)]; left; exact ⟨q, rfl⟩
      · rw [if_neg (by simpa [MM, HH] using q)]; right; exact ⟨by omega, by simp [MM]⟩
    rcases hcase with ⟨hs, hi⟩ | ⟨hs, hi⟩
    · rw [hA0] at hi
      have hs' : decide (32768 ≤ A0) = false := by simp; omega
      have hQ2 : A0 / B = Q := by rw [← hQ, hi, Int.tdiv_eq_ediv_of_nonneg A00]
      have hR2 : A0 % B = R := by rw [← hR, hi, Int.tmod_eq_emod_of_nonneg A00]
      have hQ3 : Int.tdiv A0 B = Q := by rw [← hQ, hi]
      have hR3 : Int.tmod A0 B = R := by rw [← hR, hi]
      have HI0 := Aside0.mk hI
      clear hi hA0 dL hs
      by_cases c1 : 127 < Q
      · have hok : sgOk I B false = false := by rw [HOK.out]; simp; omega
        have hq : sgQ I B false = 0 := by rw [HQQ.out, hok]; rfl
        have hr : sgR I B false = 0 := by rw [HRR.out, hok]; rfl
        go_enter Try.func3, Try.ntmps3
        go_wp2_with fail
        go_quiet (fail)
        go_wp2_with fail
        refine (div_89_false n0 n1 BY a0 (by omega) (by omega) HZ.out _).mono ?_
        rintro e w' ⟨rfl, ⟨nd, rfl⟩⟩
        rw [hD, hI, hB, hq, hr, hok]
        go_wp2_with (first
          | (go_at_call 16; refine (whole_c _ true false (by omega) _).mono ?_; rintro e w' ⟨rfl, ⟨nd, rfl⟩⟩)
          | (go_at_call 15; refine (rcut_c _ _ (by omega) _).mono ?_; rintro e w' ⟨rfl, ⟨nd, rfl⟩⟩)
          | (go_at_call 14; refine (rsize_c _ _).mono ?_; rintro e w' ⟨rfl, ⟨nd, rfl⟩⟩)
          | (go_at_call 17; refine (awake10_c _).mono ?_; rintro e w' ⟨rfl, ⟨nd, rfl⟩⟩))
        go_ret
        exact ⟨by first | rfl | exact rb (by simp; omega), by repeat (first | exact Below.refl _ _ | apply pw_below_drewN | apply below_alloc)⟩
      by_cases c2 : Q < -127
      · have hok : sgOk I B false = false := by rw [HOK.out]; simp; omega
        have hq : sgQ I B false = 0 := by rw [HQQ.out, hok]; rfl
        have hr : sgR I B false = 0 := by rw [HRR.out, hok]; rfl
        go_enter Try.func3, Try.ntmps3
        go_wp2_with fail
        go_quiet (fail)
        go_wp2_with fail
        refine (div_89_false n0 n1 BY a0 (by omega) (by omega) HZ.out _).mono ?_
        rintro e w' ⟨rfl, ⟨nd, rfl⟩⟩
        rw [hD, hI, hB, hq, hr, hok]
        go_wp2_with (first
          | (go_at_call 16; refine (whole_c _ true false (by omega) _).mono ?_; rintro e w' ⟨rfl, ⟨nd, rfl⟩⟩)
          | (go_at_call 15; refine (rcut_c _ _ (by omega) _).mono ?_; rintro e w' ⟨rfl, ⟨nd, rfl⟩⟩)
          | (go_at_call 14; refine (rsize_c _ _).mono ?_; rintro e w' ⟨rfl, ⟨nd, rfl⟩⟩)
          | (go_at_call 17; refine (awake10_c _).mono ?_; rintro e w' ⟨rfl, ⟨nd, rfl⟩⟩))
        go_ret
        exact ⟨by first | rfl | exact rb (by simp; omega), by repeat (first | exact Below.refl _ _ | apply pw_below_drewN | apply below_alloc)⟩
      · have hok : sgOk I B false = true := by rw [HOK.out]; simp; omega
        have hq : sgQ I B false = QM := by rw [HQQ.out, hok]; rfl
        have hr : sgR I B false = RM := by rw [HRR.out, hok]; rfl
        go_enter Try.func3, Try.ntmps3
        go_wp2_with fail
        go_quiet (fail)
        go_wp2_with fail
        refine (div_89_false n0 n1 BY a0 (by omega) (by omega) HZ.out _).mono ?_
        rintro e w' ⟨rfl, ⟨nd, rfl⟩⟩
        rw [hD, hI, hB, hq, hr, hok]
        go_wp2_with (first
          | (go_at_call 16; refine (whole_c _ true false (by omega) _).mono ?_; rintro e w' ⟨rfl, ⟨nd, rfl⟩⟩)
          | (go_at_call 15; refine (rcut_c _ _ (by omega) _).mono ?_; rintro e w' ⟨rfl, ⟨nd, rfl⟩⟩)
          | (go_at_call 14; refine (rsize_c _ _).mono ?_; rintro e w' ⟨rfl, ⟨nd, rfl⟩⟩)
          | (go_at_call 17; refine (awake10_c _).mono ?_; rintro e w' ⟨rfl, ⟨nd, rfl⟩⟩))
        go_quiet (fail)
        go_wp2_with (first
          | (go_at_call 16; refine (whole_c _ true false (by omega) _).mono ?_; rintro e w' ⟨rfl, ⟨nd, rfl⟩⟩)
          | (go_at_call 15; refine (rcut_c _ _ (by omega) _).mono ?_; rintro e w' ⟨rfl, ⟨nd, rfl⟩⟩)
          | (go_at_call 14; refine (rsize_c _ _).mono ?_; rintro e w' ⟨rfl, ⟨nd, rfl⟩⟩)
          | (go_at_call 17; refine (awake10_c _).mono ?_; rintro e w' ⟨rfl, ⟨nd, rfl⟩⟩))
        go_ret
        exact ⟨by first | rfl | exact rb (by simp; omega), by repeat (first | exact Below.refl _ _ | apply pw_below_drewN | apply below_alloc)⟩
    · rw [hA0] at hi
      have hs' : decide (32768 ≤ A0) = true := by simp; omega
      have HI0 := Aside0.mk hI
      clear hA0 dL hs
      by_cases c1 : 127 < Q
      · have hok : sgOk I B false = false := by rw [HOK.out]; simp; omega
        have hq : sgQ I B false = 0 := by rw [HQQ.out, hok]; rfl
        have hr : sgR I B false = 0 := by rw [HRR.out, hok]; rfl
        go_enter Try.func3, Try.ntmps3
        go_wp2_with fail
        go_quiet (fail)
        go_wp2_with fail
        refine (div_89_false n0 n1 BY a0 (by omega) (by omega) HZ.out _).mono ?_
        rintro e w' ⟨rfl, ⟨nd, rfl⟩⟩
        rw [hD, hI, hB, hq, hr, hok]
        go_wp2_with (first
          | (go_at_call 16; refine (whole_c _ true false (by omega) _).mono ?_; rintro e w' ⟨rfl, ⟨nd, rfl⟩⟩)
          | (go_at_call 15; refine (rcut_c _ _ (by omega) _).mono ?_; rintro e w' ⟨rfl, ⟨nd, rfl⟩⟩)
          | (go_at_call 14; refine (rsize_c _ _).mono ?_; rintro e w' ⟨rfl, ⟨nd, rfl⟩⟩)
          | (go_at_call 17; refine (awake10_c _).mono ?_; rintro e w' ⟨rfl, ⟨nd, rfl⟩⟩))
        go_ret
        exact ⟨by first | rfl | exact rb (by simp; omega), by repeat (first | exact Below.refl _ _ | apply pw_below_drewN | apply below_alloc)⟩
      by_cases c2 : Q < -127
      · have hok : sgOk I B false = false := by rw [HOK.out]; simp; omega
        have hq : sgQ I B false = 0 := by rw [HQQ.out, hok]; rfl
        have hr : sgR I B false = 0 := by rw [HRR.out, hok]; rfl
        go_enter Try.func3, Try.ntmps3
        go_wp2_with fail
        go_quiet (fail)
        go_wp2_with fail
        refine (div_89_false n0 n1 BY a0 (by omega) (by omega) HZ.out _).mono ?_
        rintro e w' ⟨rfl, ⟨nd, rfl⟩⟩
        rw [hD, hI, hB, hq, hr, hok]
        go_wp2_with (first
          | (go_at_call 16; refine (whole_c _ true false (by omega) _).mono ?_; rintro e w' ⟨rfl, ⟨nd, rfl⟩⟩)
          | (go_at_call 15; refine (rcut_c _ _ (by omega) _).mono ?_; rintro e w' ⟨rfl, ⟨nd, rfl⟩⟩)
          | (go_at_call 14; refine (rsize_c _ _).mono ?_; rintro e w' ⟨rfl, ⟨nd, rfl⟩⟩)
          | (go_at_call 17; refine (awake10_c _).mono ?_; rintro e w' ⟨rfl, ⟨nd, rfl⟩⟩))
        go_ret
        exact ⟨by first | rfl | exact rb (by simp; omega), by repeat (first | exact Below.refl _ _ | apply pw_below_drewN | apply below_alloc)⟩
      · have hok : sgOk I B false = true := by rw [HOK.out]; simp; omega
        have hq : sgQ I B false = QM := by rw [HQQ.out, hok]; rfl
        have hr : sgR I B false = RM := by rw [HRR.out, hok]; rfl
        go_enter Try.func3, Try.ntmps3
        go_wp2_with fail
        go_quiet (fail)
        go_wp2_with fail
        refine (div_89_false n0 n1 BY a0 (by omega) (by omega) HZ.out _).mono ?_
        rintro e w' ⟨rfl, ⟨nd, rfl⟩⟩
        rw [hD, hI, hB, hq, hr, hok]
        go_wp2_with (first
          | (go_at_call 16; refine (whole_c _ true false (by omega) _).mono ?_; rintro e w' ⟨rfl, ⟨nd, rfl⟩⟩)
          | (go_at_call 15; refine (rcut_c _ _ (by omega) _).mono ?_; rintro e w' ⟨rfl, ⟨nd, rfl⟩⟩)
          | (go_at_call 14; refine (rsize_c _ _).mono ?_; rintro e w' ⟨rfl, ⟨nd, rfl⟩⟩)
          | (go_at_call 17; refine (awake10_c _).mono ?_; rintro e w' ⟨rfl, ⟨nd, rfl⟩⟩))
        go_quiet (fail)
        go_wp2_with (first
          | (go_at_call 16; refine (whole_c _ true false (by omega) _).mono ?_; rintro e w' ⟨rfl, ⟨nd, rfl⟩⟩)
          | (go_at_call 15; refine (rcut_c _ _ (by omega) _).mono ?_; rintro e w' ⟨rfl, ⟨nd, rfl⟩⟩)
          | (go_at_call 14; refine (rsize_c _ _).mono ?_; rintro e w' ⟨rfl, ⟨nd, rfl⟩⟩)
          | (go_at_call 17; refine (awake10_c _).mono ?_; rintro e w' ⟨rfl, ⟨nd, rfl⟩⟩))
        go_ret
        exact ⟨by first | rfl | exact rb (by simp; omega), by repeat (first | exact Below.refl _ _ | apply pw_below_drewN | apply below_alloc)⟩

set_option maxRecDepth 100000 in
set_option maxHeartbeats 16000000 in
theorem div_89_false_10 (n0 n1 n2 : Nat) (how : Int) (w : World) (a0 : n0 < 65536) (a1 : n1 < 65536) (a2 : n2 < 65536) (h1 : Go.bits .and .i64 how 1 = 1) (h2 : decide (0 < Go.bits .and .i64 how 2) = false) (h4 : decide (0 < Go.bits .and .i64 how 4) = true) (h8 : decide (0 < Go.bits .and .i64 how 8) = false) :
    Calls Try.prog 3 #[.agg #[.int .u16 n0, .int .u16 n1, .int .u16 n2], .int .i64 how] w fun e w' => e = .returned (.bool true) ∧ Below w.heap.size w w' := by
  have m1 : szN false = 8 := rfl
  have hand1 : Go.bits .and .u16 (n1 : Int) 3 = ((n1 % 4 : Nat) : Int) := by
    rw [u16_and _ _ (by omega) (by omega) (by omega) (by omega), show (3 : Int).toNat = 2 ^ 2 - 1 from rfl, Nat.and_two_pow_sub_one_eq_mod]; rfl
  obtain ⟨HI, hHI⟩ : ∃ HI, n1 % 4 = HI := ⟨_, rfl⟩
  rw [hHI] at hand1
  have hHl : HI < 65536 := by omega
  clear hHI
  have cM := cutN_M n2 false
  have dL := dvdN_lt n0 HI false
  have cH := cutN_M HI false
  have cL := cutN_M n0 false
  simp [MM] at cM dL cH cL
  by_cases hz : cutN n2 false = 0
  · have hw : wholeM n2 true false = 0 := by simp [wholeM, sprM, hz, HH]
    have HZ := Aside0.mk hz
    obtain ⟨A0, hA1⟩ : ∃ A0, ((cutN HI false : Nat) : Int) * 256 + ((cutN n0 false : Nat) : Int) = A0 := ⟨_, rfl⟩
    have A00 : 0 ≤ A0 := by omega
    have A01 : A0 ≤ 65535 := by omega
    clear hz dL
    cases hs : decide (32768 ≤ A0)
    all_goals
      go_enter Try.func3, Try.ntmps3
      go_wp2_with fail
      go_quiet (fail)
      go_wp2_with fail
      refine (divz_89_false n0 HI n2 a0 (by omega) (by omega) HZ.out _).mono ?_
      rintro e w' ⟨rfl, ⟨nd, rfl⟩⟩
      go_wp2_with (first
        | (go_at_call 16; refine (whole_c _ true false (by omega) _).mono ?_; rintro e w' ⟨rfl, ⟨nd, rfl⟩⟩)
        | (go_at_call 15; refine (rcut_c _ _ (by omega) _).mono ?_; rintro e w' ⟨rfl, ⟨nd, rfl⟩⟩)
        | (go_at_call 14; refine (rsize_c _ _).mono ?_; rintro e w' ⟨rfl, ⟨nd, rfl⟩⟩)
        | (go_at_call 17; refine (awake10_c _).mono ?_; rintro e w' ⟨rfl, ⟨nd, rfl⟩⟩))
      go_ret
      exact ⟨by first | rfl | exact rb (by simp; omega), by repeat (first | exact Below.refl _ _ | apply pw_below_drewN | apply below_alloc)⟩
  · obtain ⟨A0, hA0⟩ : ∃ A0, ((dvdN n0 HI false : Nat) : Int) = A0 := ⟨_, rfl⟩
    have hA1 : ((cutN HI false : Nat) : Int) * 256 + ((cutN n0 false : Nat) : Int) = A0 := by rw [← hA0]; unfold dvdN; simp [MM]
    have A00 : 0 ≤ A0 := by omega
    have A01 : A0 ≤ 65535 := by omega
    have HZ := Aside0.mk hz
    have hnz : sprM n2 false ≠ 0 := by
      have h := spr_ne (cutN n2 false) false (cutN_M _ _) hz
      have hsp : sprM (cutN n2 false) false = sprM n2 false := by unfold sprM; rw [cut_cut]
      rwa [hsp] at h
    obtain ⟨D, hD⟩ : ∃ D, dvdN n0 HI false = D := ⟨_, rfl⟩
    rw [hD] at hA0 dL
    clear hz
    obtain ⟨B, hB⟩ : ∃ B, sprM n2 false = B := ⟨_, rfl⟩
    have hw : wholeM n2 true false = B := hB
    obtain ⟨B0, B1⟩ := sprM_b n2 false
    rw [hB] at B0 B1
    simp [HH] at B0 B1
    rw [hB] at hnz
    have z0 : (B == 0) = false := by rw [beq_eq_false_iff_ne]; exact hnz
    obtain ⟨I, hI⟩ : ∃ I, sgnI D false = I := ⟨_, rfl⟩
    have hIb : -2147483648 ≤ I ∧ I ≤ 2147483647 := by have := sgnI_b D false (by simp [MM]; omega); omega
    obtain ⟨i0, i1⟩ := hIb
    obtain ⟨Q, hQ⟩ : ∃ Q, Int.tdiv I B = Q := ⟨_, rfl⟩
    obtain ⟨R, hR⟩ : ∃ R, Int.tmod I B = R := ⟨_, rfl⟩
    have hQb := tdiv_b I B
    have hRb := tmod_b I B
    rw [hQ] at hQb
    rw [hR] at hRb
    have q0 : -2147483648 ≤ Q := by omega
    have q1 : Q ≤ 2147483648 := by omega
    have r0 : -2147483648 ≤ R := by omega
    have r1 : R ≤ 2147483648 := by omega
    clear hQb hRb
    have HOK := Aside0.mk (show sgOk I B false = decide (-127 ≤ Int.tdiv I B ∧ Int.tdiv I B ≤ 127) from rfl)
    have HQQ := Aside0.mk (show sgQ I B false = if sgOk I B false then Int.tdiv I B % 256 else 0 from rfl)
    have HRR := Aside0.mk (show sgR I B false = if sgOk I B false then Int.tmod I B % 256 else 0 from rfl)
    rw [hQ] at HOK HQQ
    rw [hR] at HRR
    have tq := tmod_up Q 256 (by omega)
    obtain ⟨tq0, tq1⟩ := tmod_bb Q 256 (by omega)
    obtain ⟨TQ, hTQ⟩ : ∃ TQ, Int.tmod Q 256 = TQ := ⟨_, rfl⟩
    rw [hTQ] at tq tq0 tq1
    have tr := tmod_up R 256 (by omega)
    obtain ⟨tr0, tr1⟩ := tmod_bb R 256 (by omega)
    obtain ⟨TR, hTR⟩ : ∃ TR, Int.tmod R 256 = TR := ⟨_, rfl⟩
    rw [hTR] at tr tr0 tr1
    obtain ⟨QM, hQM⟩ : ∃ QM, Q % 256 = QM := ⟨_, rfl⟩
    obtain ⟨RM, hRM⟩ : ∃ RM, R % 256 = RM := ⟨_, rfl⟩
    rw [hQM] at tq HQQ
    rw [hRM] at tr HRR
    have qm0 : 0 ≤ QM := by omega
    have qm1 : QM ≤ 255 := by omega
    have rm0 : 0 ≤ RM := by omega
    have rm1 : RM ≤ 255 := by omega
    clear hQM hRM
    have hcase : (D < 32768 ∧ I = (D : Int)) ∨ (32768 ≤ D ∧ (D : Int) - 65536 = I) := by
      rw [← hI]; unfold sgnI
      by_cases q : D < 32768
      · rw [if_pos (by simpa [MM, HH] using q)]; left; exact ⟨q, rfl⟩
      · rw [if_neg (by simpa [MM, HH] using q)]; right; exact ⟨by omega, by simp [MM]⟩
    rcases hcase with ⟨hs, hi⟩ | ⟨hs, hi⟩
    · rw [hA0] at hi
      have hs' : decide (32768 ≤ A0) = false := by simp; omega
      have hQ2 : A0 / B = Q := by rw [← hQ, hi, Int.tdiv_eq_ediv_of_nonneg A00]
      have hR2 : A0 % B = R := by rw [← hR, hi, Int.tmod_eq_emod_of_nonneg A00]
      have hQ3 : Int.tdiv A0 B = Q := by rw [← hQ, hi]
      have hR3 : Int.tmod A0 B = R := by rw [← hR, hi]
      have HI0 := Aside0.mk hI
      clear hi hA0 dL hs
      by_cases c1 : 127 < Q
      · have hok : sgOk I B false = false := by rw [HOK.out]; simp; omega
        have hq : sgQ I B false = 0 := by rw [HQQ.out, hok]; rfl
        have hr : sgR I B false = 0 := by rw [HRR.out, hok]; rfl
        go_enter Try.func3, Try.ntmps3
        go_wp2_with fail
        go_quiet (fail)
        go_wp2_with fail
        refine (div_89_false n0 HI n2 a0 (by omega) (by omega) HZ.out _).mono ?_
        rintro e w' ⟨rfl, ⟨nd, rfl⟩⟩
        rw [hD, hI, hB, hq, hr, hok]
        go_wp2_with (first
          | (go_at_call 16; refine (whole_c _ true false (by omega) _).mono ?_; rintro e w' ⟨rfl, ⟨nd, rfl⟩⟩)
          | (go_at_call 15; refine (rcut_c _ _ (by omega) _).mono ?_; rintro e w' ⟨rfl, ⟨nd, rfl⟩⟩)
          | (go_at_call 14; refine (rsize_c _ _).mono ?_; rintro e w' ⟨rfl, ⟨nd, rfl⟩⟩)
          | (go_at_call 17; refine (awake10_c _).mono ?_; rintro e w' ⟨rfl, ⟨nd, rfl⟩⟩))
        go_ret
        exact ⟨by first | rfl | exact rb (by simp; omega), by repeat (first | exact Below.refl _ _ | apply pw_below_drewN | apply below_alloc)⟩
      by_cases c2 : Q < -127
      · have hok : sgOk I B false = false := by rw [HOK.out]; simp; omega
        have hq : sgQ I B false = 0 := by rw [HQQ.out, hok]; rfl
        have hr : sgR I B false = 0 := by rw [HRR.out, hok]; rfl
        go_enter Try.func3, Try.ntmps3
        go_wp2_with fail
        go_quiet (fail)
        go_wp2_with fail
        refine (div_89_false n0 HI n2 a0 (by omega) (by omega) HZ.out _).mono ?_
        rintro e w' ⟨rfl, ⟨nd, rfl⟩⟩
        rw [hD, hI, hB, hq, hr, hok]
        go_wp2_with (first
          | (go_at_call 16; refine (whole_c _ true false (by omega) _).mono ?_; rintro e w' ⟨rfl, ⟨nd, rfl⟩⟩)
          | (go_at_call 15; refine (rcut_c _ _ (by omega) _).mono ?_; rintro e w' ⟨rfl, ⟨nd, rfl⟩⟩)
          | (go_at_call 14; refine (rsize_c _ _).mono ?_; rintro e w' ⟨rfl, ⟨nd, rfl⟩⟩)
          | (go_at_call 17; refine (awake10_c _).mono ?_; rintro e w' ⟨rfl, ⟨nd, rfl⟩⟩))
        go_ret
        exact ⟨by first | rfl | exact rb (by simp; omega), by repeat (first | exact Below.refl _ _ | apply pw_below_drewN | apply below_alloc)⟩
      · have hok : sgOk I B false = true := by rw [HOK.out]; simp; omega
        have hq : sgQ I B false = QM := by rw [HQQ.out, hok]; rfl
        have hr : sgR I B false = RM := by rw [HRR.out, hok]; rfl
        go_enter Try.func3, Try.ntmps3
        go_wp2_with fail
        go_quiet (fail)
        go_wp2_with fail
        refine (div_89_false n0 HI n2 a0 (by omega) (by omega) HZ.out _).mono ?_
        rintro e w' ⟨rfl, ⟨nd, rfl⟩⟩
        rw [hD, hI, hB, hq, hr, hok]
        go_wp2_with (first
          | (go_at_call 16; refine (whole_c _ true false (by omega) _).mono ?_; rintro e w' ⟨rfl, ⟨nd, rfl⟩⟩)
          | (go_at_call 15; refine (rcut_c _ _ (by omega) _).mono ?_; rintro e w' ⟨rfl, ⟨nd, rfl⟩⟩)
          | (go_at_call 14; refine (rsize_c _ _).mono ?_; rintro e w' ⟨rfl, ⟨nd, rfl⟩⟩)
          | (go_at_call 17; refine (awake10_c _).mono ?_; rintro e w' ⟨rfl, ⟨nd, rfl⟩⟩))
        go_quiet (fail)
        go_wp2_with (first
          | (go_at_call 16; refine (whole_c _ true false (by omega) _).mono ?_; rintro e w' ⟨rfl, ⟨nd, rfl⟩⟩)
          | (go_at_call 15; refine (rcut_c _ _ (by omega) _).mono ?_; rintro e w' ⟨rfl, ⟨nd, rfl⟩⟩)
          | (go_at_call 14; refine (rsize_c _ _).mono ?_; rintro e w' ⟨rfl, ⟨nd, rfl⟩⟩)
          | (go_at_call 17; refine (awake10_c _).mono ?_; rintro e w' ⟨rfl, ⟨nd, rfl⟩⟩))
        go_ret
        exact ⟨by first | rfl | exact rb (by simp; omega), by repeat (first | exact Below.refl _ _ | apply pw_below_drewN | apply below_alloc)⟩
    · rw [hA0] at hi
      have hs' : decide (32768 ≤ A0) = true := by simp; omega
      have HI0 := Aside0.mk hI
      clear hA0 dL hs
      by_cases c1 : 127 < Q
      · have hok : sgOk I B false = false := by rw [HOK.out]; simp; omega
        have hq : sgQ I B false = 0 := by rw [HQQ.out, hok]; rfl
        have hr : sgR I B false = 0 := by rw [HRR.out, hok]; rfl
        go_enter Try.func3, Try.ntmps3
        go_wp2_with fail
        go_quiet (fail)
        go_wp2_with fail
        refine (div_89_false n0 HI n2 a0 (by omega) (by omega) HZ.out _).mono ?_
        rintro e w' ⟨rfl, ⟨nd, rfl⟩⟩
        rw [hD, hI, hB, hq, hr, hok]
        go_wp2_with (first
          | (go_at_call 16; refine (whole_c _ true false (by omega) _).mono ?_; rintro e w' ⟨rfl, ⟨nd, rfl⟩⟩)
          | (go_at_call 15; refine (rcut_c _ _ (by omega) _).mono ?_; rintro e w' ⟨rfl, ⟨nd, rfl⟩⟩)
          | (go_at_call 14; refine (rsize_c _ _).mono ?_; rintro e w' ⟨rfl, ⟨nd, rfl⟩⟩)
          | (go_at_call 17; refine (awake10_c _).mono ?_; rintro e w' ⟨rfl, ⟨nd, rfl⟩⟩))
        go_ret
        exact ⟨by first | rfl | exact rb (by simp; omega), by repeat (first | exact Below.refl _ _ | apply pw_below_drewN | apply below_alloc)⟩
      by_cases c2 : Q < -127
      · have hok : sgOk I B false = false := by rw [HOK.out]; simp; omega
        have hq : sgQ I B false = 0 := by rw [HQQ.out, hok]; rfl
        have hr : sgR I B false = 0 := by rw [HRR.out, hok]; rfl
        go_enter Try.func3, Try.ntmps3
        go_wp2_with fail
        go_quiet (fail)
        go_wp2_with fail
        refine (div_89_false n0 HI n2 a0 (by omega) (by omega) HZ.out _).mono ?_
        rintro e w' ⟨rfl, ⟨nd, rfl⟩⟩
        rw [hD, hI, hB, hq, hr, hok]
        go_wp2_with (first
          | (go_at_call 16; refine (whole_c _ true false (by omega) _).mono ?_; rintro e w' ⟨rfl, ⟨nd, rfl⟩⟩)
          | (go_at_call 15; refine (rcut_c _ _ (by omega) _).mono ?_; rintro e w' ⟨rfl, ⟨nd, rfl⟩⟩)
          | (go_at_call 14; refine (rsize_c _ _).mono ?_; rintro e w' ⟨rfl, ⟨nd, rfl⟩⟩)
          | (go_at_call 17; refine (awake10_c _).mono ?_; rintro e w' ⟨rfl, ⟨nd, rfl⟩⟩))
        go_ret
        exact ⟨by first | rfl | exact rb (by simp; omega), by repeat (first | exact Below.refl _ _ | apply pw_below_drewN | apply below_alloc)⟩
      · have hok : sgOk I B false = true := by rw [HOK.out]; simp; omega
        have hq : sgQ I B false = QM := by rw [HQQ.out, hok]; rfl
        have hr : sgR I B false = RM := by rw [HRR.out, hok]; rfl
        go_enter Try.func3, Try.ntmps3
        go_wp2_with fail
        go_quiet (fail)
        go_wp2_with fail
        refine (div_89_false n0 HI n2 a0 (by omega) (by omega) HZ.out _).mono ?_
        rintro e w' ⟨rfl, ⟨nd, rfl⟩⟩
        rw [hD, hI, hB, hq, hr, hok]
        go_wp2_with (first
          | (go_at_call 16; refine (whole_c _ true false (by omega) _).mono ?_; rintro e w' ⟨rfl, ⟨nd, rfl⟩⟩)
          | (go_at_call 15; refine (rcut_c _ _ (by omega) _).mono ?_; rintro e w' ⟨rfl, ⟨nd, rfl⟩⟩)
          | (go_at_call 14; refine (rsize_c _ _).mono ?_; rintro e w' ⟨rfl, ⟨nd, rfl⟩⟩)
          | (go_at_call 17; refine (awake10_c _).mono ?_; rintro e w' ⟨rfl, ⟨nd, rfl⟩⟩))
        go_quiet (fail)
        go_wp2_with (first
          | (go_at_call 16; refine (whole_c _ true false (by omega) _).mono ?_; rintro e w' ⟨rfl, ⟨nd, rfl⟩⟩)
          | (go_at_call 15; refine (rcut_c _ _ (by omega) _).mono ?_; rintro e w' ⟨rfl, ⟨nd, rfl⟩⟩)
          | (go_at_call 14; refine (rsize_c _ _).mono ?_; rintro e w' ⟨rfl, ⟨nd, rfl⟩⟩)
          | (go_at_call 17; refine (awake10_c _).mono ?_; rintro e w' ⟨rfl, ⟨nd, rfl⟩⟩))
        go_ret
        exact ⟨by first | rfl | exact rb (by simp; omega), by repeat (first | exact Below.refl _ _ | apply pw_below_drewN | apply below_alloc)⟩

set_option maxRecDepth 100000 in
set_option maxHeartbeats 16000000 in
theorem div_89_false_11 (n0 n1 n2 : Nat) (how : Int) (w : World) (a0 : n0 < 65536) (a1 : n1 < 65536) (a2 : n2 < 65536) (h1 : Go.bits .and .i64 how 1 = 1) (h2 : decide (0 < Go.bits .and .i64 how 2) = false) (h4 : decide (0 < Go.bits .and .i64 how 4) = true) (h8 : decide (0 < Go.bits .and .i64 how 8) = true) :
    Calls Try.prog 3 #[.agg #[.int .u16 n0, .int .u16 n1, .int .u16 n2], .int .i64 how] w fun e w' => e = .returned (.bool true) ∧ Below w.heap.size w w' := by
  have m1 : szN false = 8 := rfl
  have hand1 : Go.bits .and .u16 (n1 : Int) 3 = ((n1 % 4 : Nat) : Int) := by
    rw [u16_and _ _ (by omega) (by omega) (by omega) (by omega), show (3 : Int).toNat = 2 ^ 2 - 1 from rfl, Nat.and_two_pow_sub_one_eq_mod]; rfl
  obtain ⟨HI, hHI⟩ : ∃ HI, n1 % 4 = HI := ⟨_, rfl⟩
  rw [hHI] at hand1
  have hHl : HI < 65536 := by omega
  clear hHI
  have hand2 := and15 n2 a2
  obtain ⟨b15, h15⟩ : ∃ b15, ((n2 % 16 : Nat) : Int) = b15 := ⟨_, rfl⟩
  rw [h15] at hand2
  have b150 : 0 ≤ b15 := by omega
  have b151 : b15 ≤ 15 := by omega
  obtain ⟨BY, hBY⟩ : ∃ BY : Nat, b15 + 1 = (BY : Int) := ⟨n2 % 16 + 1, by omega⟩
  have hBl : BY < 65536 := by omega
  clear h15
  have cM := cutN_M BY false
  have dL := dvdN_lt n0 HI false
  have cH := cutN_M HI false
  have cL := cutN_M n0 false
  simp [MM] at cM dL cH cL
  by_cases hz : cutN BY false = 0
  · have hw : wholeM BY true false = 0 := by simp [wholeM, sprM, hz, HH]
    have HZ := Aside0.mk hz
    obtain ⟨A0, hA1⟩ : ∃ A0, ((cutN HI false : Nat) : Int) * 256 + ((cutN n0 false : Nat) : Int) = A0 := ⟨_, rfl⟩
    have A00 : 0 ≤ A0 := by omega
    have A01 : A0 ≤ 65535 := by omega
    clear hz dL
    cases hs : decide (32768 ≤ A0)
    all_goals
      go_enter Try.func3, Try.ntmps3
      go_wp2_with fail
      go_quiet (fail)
      go_wp2_with fail
      refine (divz_89_false n0 HI BY a0 (by omega) (by omega) HZ.out _).mono ?_
      rintro e w' ⟨rfl, ⟨nd, rfl⟩⟩
      go_wp2_with (first
        | (go_at_call 16; refine (whole_c _ true false (by omega) _).mono ?_; rintro e w' ⟨rfl, ⟨nd, rfl⟩⟩)
        | (go_at_call 15; refine (rcut_c _ _ (by omega) _).mono ?_; rintro e w' ⟨rfl, ⟨nd, rfl⟩⟩)
        | (go_at_call 14; refine (rsize_c _ _).mono ?_; rintro e w' ⟨rfl, ⟨nd, rfl⟩⟩)
        | (go_at_call 17; refine (awake10_c _).mono ?_; rintro e w' ⟨rfl, ⟨nd, rfl⟩⟩))
      go_ret
      exact ⟨by first | rfl | exact rb (by simp; omega), by repeat (first | exact Below.refl _ _ | apply pw_below_drewN | apply below_alloc)⟩
  · obtain ⟨A0, hA0⟩ : ∃ A0, ((dvdN n0 HI false : Nat) : Int) = A0 := ⟨_, rfl⟩
    have hA1 : ((cutN HI false : Nat) : Int) * 256 + ((cutN n0 false : Nat) : Int) = A0 := by rw [← hA0]; unfold dvdN; simp [MM]
    have A00 : 0 ≤ A0 := by omega
    have A01 : A0 ≤ 65535 := by omega
    have HZ := Aside0.mk hz
    have hnz : sprM BY false ≠ 0 := by
      have h := spr_ne (cutN BY false) false (cutN_M _ _) hz
      have hsp : sprM (cutN BY false) false = sprM BY false := by unfold sprM; rw [cut_cut]
      rwa [hsp] at h
    obtain ⟨D, hD⟩ : ∃ D, dvdN n0 HI false = D := ⟨_, rfl⟩
    rw [hD] at hA0 dL
    clear hz
    obtain ⟨B, hB⟩ : ∃ B, sprM BY false = B := ⟨_, rfl⟩
    have hw : wholeM BY true false = B := hB
    obtain ⟨B0, B1⟩ := sprM_b BY false
    rw [hB] at B0 B1
    simp [HH] at B0 B1
    rw [hB] at hnz
    have z0 : (B == 0) = false := by rw [beq_eq_false_iff_ne]; exact hnz
    obtain ⟨I, hI⟩ : ∃ I, sgnI D false = I := ⟨_, rfl⟩
    have hIb : -2147483648 ≤ I ∧ I ≤ 2147483647 := by have := sgnI_b D false (by simp [MM]; omega); omega
    obtain ⟨i0, i1⟩ := hIb
    obtain ⟨Q, hQ⟩ : ∃ Q, Int.tdiv I B = Q := ⟨_, rfl⟩
    obtain ⟨R, hR⟩ : ∃ R, Int.tmod I B = R := ⟨_, rfl⟩
    have hQb := tdiv_b I B
    have hRb := tmod_b I B
    rw [hQ] at hQb
    rw [hR] at hRb
    have q0 : -2147483648 ≤ Q := by omega
    have q1 : Q ≤ 2147483648 := by omega
    have r0 : -2147483648 ≤ R := by omega
    have r1 : R ≤ 2147483648 := by omega
    clear hQb hRb
    have HOK := Aside0.mk (show sgOk I B false = decide (-127 ≤ Int.tdiv I B ∧ Int.tdiv I B ≤ 127) from rfl)
    have HQQ := Aside0.mk (show sgQ I B false = if sgOk I B false then Int.tdiv I B % 256 else 0 from rfl)
    have HRR := Aside0.mk (show sgR I B false = if sgOk I B false then Int.tmod I B % 256 else 0 from rfl)
    rw [hQ] at HOK HQQ
    rw [hR] at HRR
    have tq := tmod_up Q 256 (by omega)
    obtain ⟨tq0, tq1⟩ := tmod_bb Q 256 (by omega)
    obtain ⟨TQ, hTQ⟩ : ∃ TQ, Int.tmod Q 256 = TQ := ⟨_, rfl⟩
    rw [hTQ] at tq tq0 tq1
    have tr := tmod_up R 256 (by omega)
    obtain ⟨tr0, tr1⟩ := tmod_bb R 256 (by omega)
    obtain ⟨TR, hTR⟩ : ∃ TR, Int.tmod R 256 = TR := ⟨_, rfl⟩
    rw [hTR] at tr tr0 tr1
    obtain ⟨QM, hQM⟩ : ∃ QM, Q % 256 = QM := ⟨_, rfl⟩
    obtain ⟨RM, hRM⟩ : ∃ RM, R % 256 = RM := ⟨_, rfl⟩
    rw [hQM] at tq HQQ
    rw [hRM] at tr HRR
    have qm0 : 0 ≤ QM := by omega
    have qm1 : QM ≤ 255 := by omega
    have rm0 : 0 ≤ RM := by omega
    have rm1 : RM ≤ 255 := by omega
    clear hQM hRM
    have hcase : (D < 32768 ∧ I = (D : Int)) ∨ (32768 ≤ D ∧ (D : Int) - 65536 = I) := by
      rw [← hI]; unfold sgnI
      by_cases q : D < 32768
      · rw [if_pos (by simpa [MM, HH] using q)]; left; exact ⟨q, rfl⟩
      · rw [if_neg (by simpa [MM, HH] using q)]; right; exact ⟨by omega, by simp [MM]⟩
    rcases hcase with ⟨hs, hi⟩ | ⟨hs, hi⟩
    · rw [hA0] at hi
      have hs' : decide (32768 ≤ A0) = false := by simp; omega
      have hQ2 : A0 / B = Q := by rw [← hQ, hi, Int.tdiv_eq_ediv_of_nonneg A00]
      have hR2 : A0 % B = R := by rw [← hR, hi, Int.tmod_eq_emod_of_nonneg A00]
      have hQ3 : Int.tdiv A0 B = Q := by rw [← hQ, hi]
      have hR3 : Int.tmod A0 B = R := by rw [← hR, hi]
      have HI0 := Aside0.mk hI
      clear hi hA0 dL hs
      by_cases c1 : 127 < Q
      · have hok : sgOk I B false = false := by rw [HOK.out]; simp; omega
        have hq : sgQ I B false = 0 := by rw [HQQ.out, hok]; rfl
        have hr : sgR I B false = 0 := by rw [HRR.out, hok]; rfl
        go_enter Try.func3, Try.ntmps3
        go_wp2_with fail
        go_quiet (fail)
        go_wp2_with fail
        refine (div_89_false n0 HI BY a0 (by omega) (by omega) HZ.out _).mono ?_
        rintro e w' ⟨rfl, ⟨nd, rfl⟩⟩
        rw [hD, hI, hB, hq, hr, hok]
        go_wp2_with (first
          | (go_at_call 16; refine (whole_c _ true false (by omega) _).mono ?_; rintro e w' ⟨rfl, ⟨nd, rfl⟩⟩)
          | (go_at_call 15; refine (rcut_c _ _ (by omega) _).mono ?_; rintro e w' ⟨rfl, ⟨nd, rfl⟩⟩)
          | (go_at_call 14; refine (rsize_c _ _).mono ?_; rintro e w' ⟨rfl, ⟨nd, rfl⟩⟩)
          | (go_at_call 17; refine (awake10_c _).mono ?_; rintro e w' ⟨rfl, ⟨nd, rfl⟩⟩))
        go_ret
        exact ⟨by first | rfl | exact rb (by simp; omega), by repeat (first | exact Below.refl _ _ | apply pw_below_drewN | apply below_alloc)⟩
      by_cases c2 : Q < -127
      · have hok : sgOk I B false = false := by rw [HOK.out]; simp; omega
        have hq : sgQ I B false = 0 := by rw [HQQ.out, hok]; rfl
        have hr : sgR I B false = 0 := by rw [HRR.out, hok]; rfl
        go_enter Try.func3, Try.ntmps3
        go_wp2_with fail
        go_quiet (fail)
        go_wp2_with fail
        refine (div_89_false n0 HI BY a0 (by omega) (by omega) HZ.out _).mono ?_
        rintro e w' ⟨rfl, ⟨nd, rfl⟩⟩
        rw [hD, hI, hB, hq, hr, hok]
        go_wp2_with (first
          | (go_at_call 16; refine (whole_c _ true false (by omega) _).mono ?_; rintro e w' ⟨rfl, ⟨nd, rfl⟩⟩)
          | (go_at_call 15; refine (rcut_c _ _ (by omega) _).mono ?_; rintro e w' ⟨rfl, ⟨nd, rfl⟩⟩)
          | (go_at_call 14; refine (rsize_c _ _).mono ?_; rintro e w' ⟨rfl, ⟨nd, rfl⟩⟩)
          | (go_at_call 17; refine (awake10_c _).mono ?_; rintro e w' ⟨rfl, ⟨nd, rfl⟩⟩))
        go_ret
        exact ⟨by first | rfl | exact rb (by simp; omega), by repeat (first | exact Below.refl _ _ | apply pw_below_drewN | apply below_alloc)⟩
      · have hok : sgOk I B false = true := by rw [HOK.out]; simp; omega
        have hq : sgQ I B false = QM := by rw [HQQ.out, hok]; rfl
        have hr : sgR I B false = RM := by rw [HRR.out, hok]; rfl
        go_enter Try.func3, Try.ntmps3
        go_wp2_with fail
        go_quiet (fail)
        go_wp2_with fail
        refine (div_89_false n0 HI BY a0 (by omega) (by omega) HZ.out _).mono ?_
        rintro e w' ⟨rfl, ⟨nd, rfl⟩⟩
        rw [hD, hI, hB, hq, hr, hok]
        go_wp2_with (first
          | (go_at_call 16; refine (whole_c _ true false (by omega) _).mono ?_; rintro e w' ⟨rfl, ⟨nd, rfl⟩⟩)
          | (go_at_call 15; refine (rcut_c _ _ (by omega) _).mono ?_; rintro e w' ⟨rfl, ⟨nd, rfl⟩⟩)
          | (go_at_call 14; refine (rsize_c _ _).mono ?_; rintro e w' ⟨rfl, ⟨nd, rfl⟩⟩)
          | (go_at_call 17; refine (awake10_c _).mono ?_; rintro e w' ⟨rfl, ⟨nd, rfl⟩⟩))
        go_quiet (fail)
        go_wp2_with (first
          | (go_at_call 16; refine (whole_c _ true false (by omega) _).mono ?_; rintro e w' ⟨rfl, ⟨nd, rfl⟩⟩)
          | (go_at_call 15; refine (rcut_c _ _ (by omega) _).mono ?_; rintro e w' ⟨rfl, ⟨nd, rfl⟩⟩)
          | (go_at_call 14; refine (rsize_c _ _).mono ?_; rintro e w' ⟨rfl, ⟨nd, rfl⟩⟩)
          | (go_at_call 17; refine (awake10_c _).mono ?_; rintro e w' ⟨rfl, ⟨nd, rfl⟩⟩))
        go_ret
        exact ⟨by first | rfl | exact rb (by simp; omega), by repeat (first | exact Below.refl _ _ | apply pw_below_drewN | apply below_alloc)⟩
    · rw [hA0] at hi
      have hs' : decide (32768 ≤ A0) = true := by simp; omega
      have HI0 := Aside0.mk hI
      clear hA0 dL hs
      by_cases c1 : 127 < Q
      · have hok : sgOk I B false = false := by rw [HOK.out]; simp; omega
        have hq : sgQ I B false = 0 := by rw [HQQ.out, hok]; rfl
        have hr : sgR I B false = 0 := by rw [HRR.out, hok]; rfl
        go_enter Try.func3, Try.ntmps3
        go_wp2_with fail
        go_quiet (fail)
        go_wp2_with fail
        refine (div_89_false n0 HI BY a0 (by omega) (by omega) HZ.out _).mono ?_
        rintro e w' ⟨rfl, ⟨nd, rfl⟩⟩
        rw [hD, hI, hB, hq, hr, hok]
        go_wp2_with (first
          | (go_at_call 16; refine (whole_c _ true false (by omega) _).mono ?_; rintro e w' ⟨rfl, ⟨nd, rfl⟩⟩)
          | (go_at_call 15; refine (rcut_c _ _ (by omega) _).mono ?_; rintro e w' ⟨rfl, ⟨nd, rfl⟩⟩)
          | (go_at_call 14; refine (rsize_c _ _).mono ?_; rintro e w' ⟨rfl, ⟨nd, rfl⟩⟩)
          | (go_at_call 17; refine (awake10_c _).mono ?_; rintro e w' ⟨rfl, ⟨nd, rfl⟩⟩))
        go_ret
        exact ⟨by first | rfl | exact rb (by simp; omega), by repeat (first | exact Below.refl _ _ | apply pw_below_drewN | apply below_alloc)⟩
      by_cases c2 : Q < -127
      · have hok : sgOk I B false = false := by rw [HOK.out]; simp; omega
        have hq : sgQ I B false = 0 := by rw [HQQ.out, hok]; rfl
        have hr : sgR I B false = 0 := by rw [HRR.out, hok]; rfl
        go_enter Try.func3, Try.ntmps3
        go_wp2_with fail
        go_quiet (fail)
        go_wp2_with fail
        refine (div_89_false n0 HI BY a0 (by omega) (by omega) HZ.out _).mono ?_
        rintro e w' ⟨rfl, ⟨nd, rfl⟩⟩
        rw [hD, hI, hB, hq, hr, hok]
        go_wp2_with (first
          | (go_at_call 16; refine (whole_c _ true false (by omega) _).mono ?_; rintro e w' ⟨rfl, ⟨nd, rfl⟩⟩)
          | (go_at_call 15; refine (rcut_c _ _ (by omega) _).mono ?_; rintro e w' ⟨rfl, ⟨nd, rfl⟩⟩)
          | (go_at_call 14; refine (rsize_c _ _).mono ?_; rintro e w' ⟨rfl, ⟨nd, rfl⟩⟩)
          | (go_at_call 17; refine (awake10_c _).mono ?_; rintro e w' ⟨rfl, ⟨nd, rfl⟩⟩))
        go_ret
        exact ⟨by first | rfl | exact rb (by simp; omega), by repeat (first | exact Below.refl _ _ | apply pw_below_drewN | apply below_alloc)⟩
      · have hok : sgOk I B false = true := by rw [HOK.out]; simp; omega
        have hq : sgQ I B false = QM := by rw [HQQ.out, hok]; rfl
        have hr : sgR I B false = RM := by rw [HRR.out, hok]; rfl
        go_enter Try.func3, Try.ntmps3
        go_wp2_with fail
        go_quiet (fail)
        go_wp2_with fail
        refine (div_89_false n0 HI BY a0 (by omega) (by omega) HZ.out _).mono ?_
        rintro e w' ⟨rfl, ⟨nd, rfl⟩⟩
        rw [hD, hI, hB, hq, hr, hok]
        go_wp2_with (first
          | (go_at_call 16; refine (whole_c _ true false (by omega) _).mono ?_; rintro e w' ⟨rfl, ⟨nd, rfl⟩⟩)
          | (go_at_call 15; refine (rcut_c _ _ (by omega) _).mono ?_; rintro e w' ⟨rfl, ⟨nd, rfl⟩⟩)
          | (go_at_call 14; refine (rsize_c _ _).mono ?_; rintro e w' ⟨rfl, ⟨nd, rfl⟩⟩)
          | (go_at_call 17; refine (awake10_c _).mono ?_; rintro e w' ⟨rfl, ⟨nd, rfl⟩⟩))
        go_quiet (fail)
        go_wp2_with (first
          | (go_at_call 16; refine (whole_c _ true false (by omega) _).mono ?_; rintro e w' ⟨rfl, ⟨nd, rfl⟩⟩)
          | (go_at_call 15; refine (rcut_c _ _ (by omega) _).mono ?_; rintro e w' ⟨rfl, ⟨nd, rfl⟩⟩)
          | (go_at_call 14; refine (rsize_c _ _).mono ?_; rintro e w' ⟨rfl, ⟨nd, rfl⟩⟩)
          | (go_at_call 17; refine (awake10_c _).mono ?_; rintro e w' ⟨rfl, ⟨nd, rfl⟩⟩))
        go_ret
        exact ⟨by first | rfl | exact rb (by simp; omega), by repeat (first | exact Below.refl _ _ | apply pw_below_drewN | apply below_alloc)⟩
end Go.Proofs.Ytefdfcdgghoknaa.My
