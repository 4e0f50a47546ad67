/- Contracts of the walks of the reference of layer 1: each function answers as a plain function of its numbers; nothing that stood is written. -/
import Derived.Test.YtdhingmjnhhjnaaBitsW
namespace Go.Proofs.Ytdhingmjnhhjnaa.My
open Go.RowKit Go.Proofs.YtdhingmjnhhjnaaW.PrintWords Go.Proofs.YtdhingmjnhhjnaaW.PrintLast Go.Proofs.YtdhingmjnhhjnaaW.PrintMore
set_option linter.unusedVariables false
set_option linter.unusedSimpArgs false

set_option maxHeartbeats 1000000 in
theorem ones_c (n : Int) (k : Nat) (h1 : 0 ≤ n) (h2 : n < 65536) (hk : k ≤ 16) (w : World) : Calls Try.prog 28 #[.int .u16 n, .int .i64 k] w fun e w' => e = .returned (.int .i64 (onesM n k)) ∧ w = w' := by
  go_enter Try.func28, Try.ntmps28
  go_wp2
  go_loop [0, 5, 6] (fun v0 v5 v6 => ∃ (i : Nat) (m acc : Int), i ≤ k ∧ 0 ≤ m ∧ m < 65536 ∧ 0 ≤ acc ∧ acc ≤ i ∧ Aside0 (acc + onesM m (k - i) = onesM n k) ∧ v0 = .int .u16 m ∧ v5 = .int .i64 acc ∧ v6 = .int .i64 i) (fun _ _ v6 => k - (intOf v6).toNat)
  case atStart => exact ⟨0, n, 0, Nat.zero_le _, h1, h2, by omega, by omega, ⟨by simp⟩, rfl, rfl, rfl⟩
  case round =>
    obtain ⟨i, m, acc, hi, m0, m1, a0, a1, HA, rfl, rfl, rfl⟩ := hrel
    by_cases hlt : i < k
    · have HA' := Aside0.mk (show (acc + m % 2) + onesM (m / 2) (k - (i + 1)) = onesM n k by
        have := HA.out; rw [show k - i = (k - (i + 1)) + 1 by omega] at this; simp only [onesM] at this; omega)
      clear HA
      go_wp2
      go_round
      case rel => exact ⟨i + 1, m / 2, acc + m % 2, by omega, by omega, by omega, by omega, by omega, HA', vi (by rw [IntKind.wrap_u16, Int.tdiv_eq_ediv_of_nonneg (by omega)]; omega), by go_num, by go_num⟩
      case measure => simp [intOf]; omega
    · obtain rfl : i = k := by omega
      go_wp2
      go_ret
      exact ⟨ri (by have := HA.out; simp [onesM] at this; exact this), rfl⟩
theorem rsign_c (a : Int) (h1 : 0 ≤ a) (h2 : a < 256) (w : World) : Calls Try.prog 21 #[.int .u8 a] w fun e w' => e = .returned (.int .u16 (signM a)) ∧ w = w' := by
  by_cases h : a < 128
  all_goals
    go_enter Try.func21, Try.ntmps21
    go_wp2
    go_ret
    exact ⟨ri (by unfold signM; first | rw [if_pos h] | (rw [if_neg (by omega)]; omega)), rfl⟩
theorem rfits_c (a : Int) (h1 : 0 ≤ a) (h2 : a < 65536) (w : World) : Calls Try.prog 23 #[.int .u16 a] w fun e w' => e = .returned (.bool (fitsM a)) ∧ w = w' := by
  by_cases h : a < 128
  all_goals
    go_enter Try.func23, Try.ntmps23
    go_wp2
    go_ret
    exact ⟨rb (by unfold fitsM; rw [Bool.eq_iff_iff]; simp; omega), rfl⟩
theorem rlinear_c (s o : Int) (h1 : 0 ≤ s) (h2 : s < 65536) (h3 : 0 ≤ o) (h4 : o < 65536) (w : World) : Calls Try.prog 31 #[.int .u16 s, .int .u16 o] w fun e w' => e = .returned (.int .i64 ((s * 16 + o) % 1048576)) ∧ w = w' := by
  go_enter Try.func31, Try.ntmps31
  go_wp2
  go_ret
  exact ⟨rfl, rfl⟩
set_option maxHeartbeats 2000000 in
theorem hex_c (n : Int) (k : Nat) (h1 : 0 ≤ n) (h2 : n < 4294967296) (hk : k ≤ 16) (w : World) : Calls Try.prog 32 #[.int .u32 n, .int .i64 k] w fun e w' => e = .returned (.string (strOfNums (hexL n k))) ∧ Below w.heap.size w w' := by
  go_enter Try.func32, Try.ntmps32
  go_wp2
  go_loopw [0, 5, 6] (fun v0 v5 v6 w' => ∃ i : Nat, i ≤ k ∧ v0 = .int .u32 (hexS n i) ∧ v5 = .string (strOfNums (hexL n i)) ∧ v6 = .int .i64 i ∧ Aside0 (Below w.heap.size w w')) (fun _ _ v6 _ => k - (intOf v6).toNat)
  case atStart => exact ⟨0, Nat.zero_le _, rfl, by simp [hexL, strOfNums], rfl, ⟨Below.refl _ _⟩⟩
  case round =>
    obtain ⟨i, hi, rfl, rfl, rfl, HB⟩ := hrel
    obtain ⟨s0, s1⟩ := hexS_b n h1 h2 i
    by_cases hlt : i < k
    · obtain ⟨s, hs⟩ : ∃ s, strOfNums (hexL n i) = s := ⟨_, rfl⟩
      have HS := Aside0.mk hs
      have hsz : s.size ≤ 16 := by rw [← hs, strOfNums_size, hexL_len]; omega
      rw [hs]
      clear hs
      by_cases hd : hexS n i % 16 < 10
      · have hc1 := conv1 wr (hexD (hexS n i % 16))
        have hw : hexD (hexS n i % 16) = 48 + hexS n i % 16 := by unfold hexD; rw [if_pos hd]
        have HE := Aside0.mk (show strOfNums [hexD (hexS n i % 16)] ++ s = strOfNums (hexL n (i + 1)) by rw [← HS.out, strOfNums_cat]; rfl)
        have hz := strOfNums_size [hexD (hexS n i % 16)]
        rw [hw] at hc1 HE hz
        generalize hS1 : strOfNums _ = S1 at hc1 HE hz
        clear hS1 hw
        simp only [List.length_singleton] at hz
        have hcat : S1.size + s.size ≤ 9223372036854775807 := by omega
        clear hz
        go_wp2
        exact ⟨⟨i + 1, by omega, rfl, by rw [HE.out], by go_num, ⟨below_alloc HB.out _⟩⟩, by simp [intOf]; omega⟩
      · have hc1 := conv1 wr (hexD (hexS n i % 16))
        have hw : hexD (hexS n i % 16) = 65 + hexS n i % 16 - 10 := by unfold hexD; rw [if_neg hd]; omega
        have HE := Aside0.mk (show strOfNums [hexD (hexS n i % 16)] ++ s = strOfNums (hexL n (i + 1)) by rw [← HS.out, strOfNums_cat]; rfl)
        have hz := strOfNums_size [hexD (hexS n i % 16)]
        rw [hw] at hc1 HE hz
        generalize hS1 : strOfNums _ = S1 at hc1 HE hz
        clear hS1 hw
        simp only [List.length_singleton] at hz
        have hcat : S1.size + s.size ≤ 9223372036854775807 := by omega
        clear hz
        go_wp2
        exact ⟨⟨i + 1, by omega, rfl, by rw [HE.out], by go_num, ⟨below_alloc HB.out _⟩⟩, by simp [intOf]; omega⟩
    · obtain rfl : i = k := by omega
      go_wp2
      go_ret
      exact ⟨rfl, HB.out⟩
end Go.Proofs.Ytdhingmjnhhjnaa.My
