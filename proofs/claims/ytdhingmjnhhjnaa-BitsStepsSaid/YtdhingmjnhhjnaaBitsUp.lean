/- bits.Up and its reference: the least multiple of a step; and the law BitsSteps. -/
import Derived.Test.YtdhingmjnhhjnaaBitsLaw
import Derived.Test.YtdhingmjnhhjnaaLem
namespace Go.Proofs.Ytdhingmjnhhjnaa.My
open Go.RowKit Go.Proofs.YtdhingmjnhhjnaaW.PrintWords Go.Proofs.YtdhingmjnhhjnaaW.PrintLast Go.Proofs.YtdhingmjnhhjnaaW.PrintMore
set_option linter.unusedVariables false
set_option linter.unusedSimpArgs false
attribute [local go_sem] max2_int min2_int max_two min_two

/-- Which power of two a number is, from 0 to 12. -/
def isPow (s : Int) : Prop := ∃ j : Nat, j < 13 ∧ s = 2 ^ j
def powB (s : Int) (i : Nat) : Bool := (List.range i).any fun j => s == 2 ^ j
def stepM (s : Int) : Int := if powB s 13 then s else 1
def clampM (n : Int) : Int := if n < 0 then 0 else if n > 16777216 then 16777216 else n
def upM (n s : Int) : Int := (clampM n + stepM s - 1) / stepM s * stepM s
theorem clampM_b (n : Int) : 0 ≤ clampM n ∧ clampM n ≤ 16777216 := by unfold clampM; split; omega; split <;> omega
theorem powB_iff (s : Int) (i : Nat) : powB s i = true ↔ ∃ j : Nat, j < i ∧ s = 2 ^ j := by simp [powB]
theorem powB_succ (s : Int) (i : Nat) : powB s (i + 1) = (powB s i || s == 2 ^ i) := by
  simp [powB, List.range_succ]
theorem pow_and : ∀ s : Nat, 1 ≤ s → s < 4097 → (s &&& (s - 1) = 0 ↔ powB s 13 = true) := by
  have h : ∀ a : Nat, a < 65 → ∀ b : Nat, b < 64 → (1 ≤ 64 * a + b → ((64 * a + b) &&& (64 * a + b - 1) = 0 ↔ powB (64 * a + b : Nat) 13 = true)) := by decide +kernel
  intro s h1 h2
  have := h (s / 64) (by omega) (s % 64) (by omega)
  rw [Nat.div_add_mod] at this
  exact this h1
theorem pow_big (s : Int) (h : powB s 13 = true) : 1 ≤ s ∧ s ≤ 4096 := by
  obtain ⟨j, hj, rfl⟩ := (powB_iff s 13).1 h
  have h2 : ∀ j : Nat, j < 13 → (1 : Int) ≤ 2 ^ j ∧ (2 : Int) ^ j ≤ 4096 := by decide
  exact h2 j hj
theorem and_nat (s : Int) (h1 : 1 ≤ s) (h2 : s ≤ 4096) : Go.bits .and .i64 s (s - 1) = ((s.toNat &&& (s.toNat - 1) : Nat) : Int) := by
  obtain ⟨n, rfl⟩ := Int.eq_ofNat_of_zero_le (show 0 ≤ s by omega)
  have := (bits_nat .i64 62 (by decide) (fun k h0 h1 => by rw [IntKind.wrap_i64]; omega) n (n - 1) (by omega) (by omega)).1
  rw [Int.toNat_natCast, ← this]
  congr 1
  omega
theorem up_val (c s : Int) (hc0 : 0 ≤ c) (hc1 : c ≤ 16777216) (hs : powB s 13 = true) : Go.bits .andNot .i64 (c + s - 1) (s - 1) = (c + s - 1) / s * s := by
  obtain ⟨l, h⟩ := pow_big s hs
  obtain ⟨j, hj, rfl⟩ := (powB_iff s 13).1 hs
  obtain ⟨n, hn⟩ := Int.eq_ofNat_of_zero_le (show 0 ≤ c + 2 ^ j - 1 by omega)
  have h2 := i64_clear j (by omega) n (by omega)
  rw [hn, h2]
  simp
theorem up_one (c : Int) (hc0 : 0 ≤ c) (hc1 : c ≤ 16777216) : Go.bits .andNot .i64 c 0 = c := by
  have := up_val c 1 hc0 hc1 (by decide)
  simpa using this

set_option maxHeartbeats 1000000 in
theorem up_c (n s : Int) (hn0 : -9223372036854775808 ≤ n) (hn1 : n ≤ 9223372036854775807) (hs0 : -9223372036854775808 ≤ s) (hs1 : s ≤ 9223372036854775807) (w : World) : Calls Try.prog 34 #[.int .i64 n, .int .i64 s] w fun e w' => e = .returned (.int .i64 (upM n s)) ∧ w = w' := by
  obtain ⟨c, hc⟩ : ∃ c, clampM n = c := ⟨_, rfl⟩
  obtain ⟨c0, c1⟩ := clampM_b n
  rw [hc] at c0 c1
  have HC := Aside0.mk hc
  have hm1 : (if n < 0 then 0 else n) = (if n < 0 then 0 else n) := rfl
  obtain ⟨j3, hj3⟩ : ∃ j_ : Int, (if n < 0 then 0 else n) = j_ := ⟨_, rfl⟩
  have hj4 : (if 16777216 < j3 then 16777216 else j3) = c := by
    rw [← hc, ← hj3]; unfold clampM
    by_cases a : n < 0
    · rw [if_pos a, if_pos a, if_neg (by omega)]
    · rw [if_neg a, if_neg a]
  clear hm1 hc
  have H1 : powB s 13 = false → Aside0 (upM n s = c) := fun h => ⟨by unfold upM stepM; rw [h, HC.out]; simp⟩
  have H2 : powB s 13 = true → Aside0 (upM n s = (c + s - 1) / s * s) := fun h => ⟨by unfold upM stepM; rw [h, HC.out]; simp⟩
  have E1 := Aside0.mk (up_one c c0 c1)
  by_cases a1 : s < 1
  · have K := H1 (by by_cases h : powB s 13 = true; (have := pow_big s h; omega); simpa using h)
    clear H1 H2
    go_enter Try.func34, Try.ntmps34
    go_wp2
    go_ret
    exact ⟨ri (by rw [K.out]; simpa using E1.out), rfl⟩
  · by_cases a2 : 4096 < s
    · have K := H1 (by by_cases h : powB s 13 = true; (have := pow_big s h; omega); simpa using h)
      clear H1 H2
      go_enter Try.func34, Try.ntmps34
      go_wp2
      go_ret
      exact ⟨ri (by rw [K.out]; simpa using E1.out), rfl⟩
    · have an := and_nat s (by omega) (by omega)
      have ap := pow_and s.toNat (by omega) (by omega)
      rw [Int.toNat_of_nonneg (by omega)] at ap
      by_cases a3 : powB s 13 = true
      · have K := H2 a3
        have a4 := ap.2 a3
        rw [a4] at an
        have V := Aside0.mk (up_val c s c0 c1 a3)
        have a5 : (Go.bits .and .i64 s (s - 1) != 0) = false := by rw [an]; rfl
        clear an ap a4 H1 H2 a3
        go_enter Try.func34, Try.ntmps34
        go_wp2
        go_ret
        exact ⟨ri (by rw [K.out, ← V.out]), rfl⟩
      · have K := H1 (by simpa using a3)
        have a5 : (Go.bits .and .i64 s (s - 1) != 0) = true := by
          rw [an, bne_iff_ne]; intro h; exact a3 (ap.1 (by exact_mod_cast h))
        clear an ap H1 H2 a3
        go_enter Try.func34, Try.ntmps34
        go_wp2
        go_ret
        exact ⟨ri (by rw [K.out]; simpa using E1.out), rfl⟩

set_option maxHeartbeats 2000000 in
theorem rup_c (n s : Int) (hn0 : -9223372036854775808 ≤ n) (hn1 : n ≤ 9223372036854775807) (hs0 : -9223372036854775808 ≤ s) (hs1 : s ≤ 9223372036854775807) (w : World) : Calls Try.prog 35 #[.int .i64 n, .int .i64 s] w fun e w' => e = .returned (.int .i64 (upM n s)) ∧ w = w' := by
  go_enter Try.func35, Try.ntmps35
  go_wp2
  go_loop [5, 6] (fun v5 v6 => ∃ (i : Nat) (P : Int) (pb : Bool), i ≤ 13 ∧ 1 ≤ P ∧ P ≤ 8192 ∧ Aside0 (P = 2 ^ i) ∧ Aside0 (powB s i = pb) ∧ v5 = .bool pb ∧ v6 = .int .i64 P) (fun _ v6 => (8193 - intOf v6).toNat)
  case atStart => exact ⟨0, 1, false, by omega, by omega, by omega, ⟨rfl⟩, ⟨rfl⟩, rfl, rfl⟩
  case round =>
    obtain ⟨i, P, pb, hi, p0, p1, HP, HB, rfl, rfl⟩ := hrel
    by_cases hlt : i < 13
    · have hP : P ≤ 4096 := by
        rw [HP.out]
        have h2 : ∀ j : Nat, j < 13 → (2 : Int) ^ j ≤ 4096 := by decide
        exact h2 i hlt
      have HP2 := Aside0.mk (show P * 2 = 2 ^ (i + 1) by rw [HP.out, Int.pow_succ])
      have HB2 := Aside0.mk (powB_succ s i)
      cases pb
      · cases he : (s == P)
        all_goals
          have HE := Aside0.mk he
          go_wp2
          go_round
          case rel => exact ⟨i + 1, P * 2, (s == P), by omega, by omega, by omega, HP2, ⟨by rw [HB2.out, HB.out, HP.out]; simp⟩, by first | rfl | (rw [HE.out]), by go_num⟩
          case measure => simp [intOf]; omega
      · go_wp2
        go_round
        case rel => exact ⟨i + 1, P * 2, true, by omega, by omega, by omega, HP2, ⟨by rw [HB2.out, HB.out]; simp⟩, rfl, by go_num⟩
        case measure => simp [intOf]; omega
    · obtain rfl : i = 13 := by omega
      have hP : P = 8192 := HP.out
      subst hP
      have hst : stepM s = if pb then s else 1 := by unfold stepM; rw [HB.out]
      have hpos : pb = true → 1 ≤ s ∧ s ≤ 4096 := fun h => pow_big s (by rw [HB.out, h])
      have HU := Aside0.mk (show upM n s = (clampM n + stepM s - 1) / stepM s * stepM s from rfl)
      have HST := Aside0.mk hst
      clear hst
      cases pb
      · clear hpos
        by_cases a1 : n < 0
        · go_wp2
          go_ret
          exact ⟨ri (by rw [HU.out, HST.out]; unfold clampM; rw [if_pos a1]; rfl), rfl⟩
        · by_cases a2 : 16777216 < n
          · go_wp2
            go_ret
            exact ⟨ri (by rw [HU.out, HST.out]; unfold clampM; rw [if_neg (by omega), if_pos (by omega)]; rfl), rfl⟩
          · go_wp2
            go_ret
            exact ⟨ri (by rw [HU.out, HST.out]; unfold clampM; rw [if_neg (by omega), if_neg (by omega)]; simp), rfl⟩
      · obtain ⟨q0, q1⟩ := hpos rfl
        have q2 : (s == 0) = false := by rw [beq_eq_false_iff_ne]; omega
        clear hpos
        have dv : ∀ c : Int, 0 ≤ c → c ≤ 16777216 → 0 ≤ (c + s - 1) / s * s ∧ (c + s - 1) / s * s ≤ 16781312 := fun c h0 h1 => by
          have r1 : 0 ≤ (c + s - 1) / s := Int.ediv_nonneg (by omega) (by omega)
          have r2 : (c + s - 1) / s * s ≤ c + s - 1 := Int.ediv_mul_le _ (by omega)
          exact ⟨Int.mul_nonneg r1 (by omega), by omega⟩
        by_cases a1 : n < 0
        · obtain ⟨d1, d2⟩ := dv 0 (by omega) (by omega)
          simp only [Int.zero_add] at d1 d2
          clear dv
          go_wp2
          go_ret
          exact ⟨ri (by rw [HU.out, HST.out]; unfold clampM; rw [if_pos a1]; simp), rfl⟩
        · by_cases a2 : 16777216 < n
          · obtain ⟨d1, d2⟩ := dv 16777216 (by omega) (by omega)
            clear dv
            go_wp2
            go_ret
            exact ⟨ri (by rw [HU.out, HST.out]; unfold clampM; rw [if_neg (by omega), if_pos (by omega)]; simp), rfl⟩
          · obtain ⟨d1, d2⟩ := dv n (by omega) (by omega)
            clear dv
            go_wp2
            go_ret
            exact ⟨ri (by rw [HU.out, HST.out]; unfold clampM; rw [if_neg (by omega), if_neg (by omega)]; simp), rfl⟩

set_option maxHeartbeats 4000000 in
theorem bitsSteps_w (n s d : Int) (w : World) (wn : (Lit.int .i64 n).wf = true) (ws : (Lit.int .i64 s).wf = true) (wd : (Lit.int .u32 d).wf = true) : Calls Try.prog 8 #[.int .i64 n, .int .i64 s, .int .u32 d] w fun e w' => e = .returned (.bool true) ∧ Below w.heap.size w w' := by
  obtain ⟨n0, n1⟩ := wf_i64 wn
  obtain ⟨s0, s1⟩ := wf_i64 ws
  obtain ⟨d0, d1⟩ := wf_u32 wd
  clear wn ws wd
  have hk := i64_mask 4 (by omega) s
  obtain ⟨K, hK⟩ := Int.eq_ofNat_of_zero_le (show 0 ≤ s % 2 ^ 4 by omega)
  have hK2 : K < 16 := by omega
  rw [hK] at hk
  simp at hk
  clear hK
  have M1 : 1 ≤ K → K ≤ 8 → (mM (K : Int)).toNat = K := fun h1 h2 => by unfold mM; rw [if_neg (by omega), if_neg (by omega)]; simp
  have M2 : 8 < K → (mM (K : Int)).toNat = 8 := fun h1 => by unfold mM; rw [if_neg (by omega), if_pos (by omega)]; simp
  have M0 : K = 0 → (mM (K : Int)).toNat = 1 := fun h1 => by subst h1; rfl
  have P0 : n < 1 → parasM n = 0 := fun h => by unfold parasM; rw [if_pos h]
  have P1 : 1 ≤ n → 0 < n % 16 → parasM n = n / 16 + 1 := fun h h1 => by unfold parasM; rw [if_neg (by omega)]; omega
  have P2 : 1 ≤ n → n % 16 ≤ 0 → parasM n = n / 16 := fun h h1 => by unfold parasM; rw [if_neg (by omega)]; omega
  have hcase : (n < 1 ∨ (1 ≤ n ∧ 0 < n % 16) ∨ (1 ≤ n ∧ n % 16 ≤ 0)) := by omega
  have kcase : (K = 0 ∨ (1 ≤ K ∧ K ≤ 8) ∨ (8 < K)) := by omega
  rcases kcase with b1 | ⟨b1, b2⟩ | b1
  · subst b1
    have hm := M0 rfl
    clear M0 M1 M2
    rcases hcase with a1 | ⟨a1, a2⟩ | ⟨a1, a2⟩
    all_goals
      have hp := by first | exact P0 a1 | exact P1 a1 a2 | exact P2 a1 a2
      clear P0 P1 P2
      go_enter Try.func8, Try.ntmps8
      go_wp2_with fail
      refine (hex_c d 1 d0 d1 (by omega) _).mono ?_
      rintro e w1 ⟨rfl, hb⟩
      have HB := Aside0.mk hb
      clear hb
      go_wp2_with fail
      refine (awake_c _).mono ?_
      rintro e w2 ⟨rfl, hb⟩
      have HB2 := Aside0.mk (below_then HB.out HB.out.size hb)
      clear hb
      go_wp2_with (first
        | (go_at_call 33; refine (paras_c _ (by omega) (by omega) _).mono ?_; rintro e w' ⟨rfl, rfl⟩)
        | (go_at_call 34; refine (up_c _ _ (by omega) (by omega) (by omega) (by omega) _).mono ?_; rintro e w' ⟨rfl, rfl⟩)
        | (go_at_call 35; refine (rup_c _ _ (by omega) (by omega) (by omega) (by omega) _).mono ?_; rintro e w' ⟨rfl, rfl⟩)
        | (go_at_call 36; refine (digits_c _ _ (by omega) (by omega) _).mono ?_; rintro e w' ⟨rfl, hb⟩; have HB3 := Aside0.mk (below_then HB2.out HB2.out.size hb); clear hb))
      go_ret
      exact ⟨by first | rfl | exact rb (by rw [show (mM 0).toNat = 1 from rfl]; simp), HB3.out⟩
  · have hm := M1 b1 b2
    clear M0 M1 M2
    rcases hcase with a1 | ⟨a1, a2⟩ | ⟨a1, a2⟩
    all_goals
      have hp := by first | exact P0 a1 | exact P1 a1 a2 | exact P2 a1 a2
      clear P0 P1 P2
      go_enter Try.func8, Try.ntmps8
      go_wp2_with fail
      refine (hex_c d K d0 d1 (by omega) _).mono ?_
      rintro e w1 ⟨rfl, hb⟩
      have HB := Aside0.mk hb
      clear hb
      go_wp2_with fail
      refine (awake_c _).mono ?_
      rintro e w2 ⟨rfl, hb⟩
      have HB2 := Aside0.mk (below_then HB.out HB.out.size hb)
      clear hb
      go_wp2_with (first
        | (go_at_call 33; refine (paras_c _ (by omega) (by omega) _).mono ?_; rintro e w' ⟨rfl, rfl⟩)
        | (go_at_call 34; refine (up_c _ _ (by omega) (by omega) (by omega) (by omega) _).mono ?_; rintro e w' ⟨rfl, rfl⟩)
        | (go_at_call 35; refine (rup_c _ _ (by omega) (by omega) (by omega) (by omega) _).mono ?_; rintro e w' ⟨rfl, rfl⟩)
        | (go_at_call 36; refine (digits_c _ _ (by omega) (by omega) _).mono ?_; rintro e w' ⟨rfl, hb⟩; have HB3 := Aside0.mk (below_then HB2.out HB2.out.size hb); clear hb))
      go_ret
      exact ⟨by first | rfl | exact rb (by rw [show (mM 0).toNat = 1 from rfl]; simp), HB3.out⟩
  · have hm := M2 b1
    clear M0 M1 M2
    rcases hcase with a1 | ⟨a1, a2⟩ | ⟨a1, a2⟩
    all_goals
      have hp := by first | exact P0 a1 | exact P1 a1 a2 | exact P2 a1 a2
      clear P0 P1 P2
      go_enter Try.func8, Try.ntmps8
      go_wp2_with fail
      refine (hex_c d 8 d0 d1 (by omega) _).mono ?_
      rintro e w1 ⟨rfl, hb⟩
      have HB := Aside0.mk hb
      clear hb
      go_wp2_with fail
      refine (awake_c _).mono ?_
      rintro e w2 ⟨rfl, hb⟩
      have HB2 := Aside0.mk (below_then HB.out HB.out.size hb)
      clear hb
      go_wp2_with (first
        | (go_at_call 33; refine (paras_c _ (by omega) (by omega) _).mono ?_; rintro e w' ⟨rfl, rfl⟩)
        | (go_at_call 34; refine (up_c _ _ (by omega) (by omega) (by omega) (by omega) _).mono ?_; rintro e w' ⟨rfl, rfl⟩)
        | (go_at_call 35; refine (rup_c _ _ (by omega) (by omega) (by omega) (by omega) _).mono ?_; rintro e w' ⟨rfl, rfl⟩)
        | (go_at_call 36; refine (digits_c _ _ (by omega) (by omega) _).mono ?_; rintro e w' ⟨rfl, hb⟩; have HB3 := Aside0.mk (below_then HB2.out HB2.out.size hb); clear hb))
      go_ret
      exact ⟨by first | rfl | exact rb (by rw [show (mM 0).toNat = 1 from rfl]; simp), HB3.out⟩
end Go.Proofs.Ytdhingmjnhhjnaa.My
