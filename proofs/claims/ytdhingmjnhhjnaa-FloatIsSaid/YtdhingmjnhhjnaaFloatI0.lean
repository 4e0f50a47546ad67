/- The walk of the law FloatIs: it returns true at every input. -/
import Derived.Test.YtdhingmjnhhjnaaFloatI
namespace Go.Proofs.Ytdhingmjnhhjnaa.My
open Go.RowKit Go.Proofs.YtdhingmjnhhjnaaW.PrintWords Go.Proofs.YtdhingmjnhhjnaaW.PrintLast Go.Proofs.YtdhingmjnhhjnaaW.PrintMore Go.Proofs.Ytdhingmjnhhjnaa.PFloatIs
set_option linter.unusedVariables false
set_option linter.unusedSimpArgs false
set_option maxRecDepth 100000 in
set_option maxHeartbeats 4000000 in
theorem fi_0_1 (b X : Nat) (kind m : Int) (hX : X < 18446744073709551616) (hm : Go.bits .and .i64 kind 7 = m) (h0 : (m == 0) = true) (e0 : IntKind.u64.wrap (Go.bits .and .u64 (b : Int) 9223372036854775808 + 9218868437227405312) = (X : Int)) (hk : kindF X = 1) (w : World) :
    Calls Try.prog 5 #[.int .u64 b, .int .i64 kind] w fun e w' => e = .returned (.bool true) ∧ Below w.heap.size w w' := by
  have f1 := t_exp X hX
  rw [hk, show decide (1 ≠ 0) = true by decide] at f1
  have f2 := t_frac X hX (by rw [hk]; decide)
  rw [hk, show decide (1 = 2) = false by decide] at f2
  have f3 := t_sign X hX
  have HI := Aside0.mk (is_c X hX)
  rw [hk] at HI
  clear hX hk
  go_enter Try.func5, Try.ntmps5
  go_wp2_with fail
  refine (HI.out _).mono ?_
  rintro e w' ⟨rfl, rfl⟩
  go_wp2_with fail
  refine (float_Bytes.calls 9 (X : Int) (eight X) _ (bytes_f X)).mono ?_
  rintro e w1 ⟨v0, rfl, hR, hb⟩
  obtain ⟨g, c, rfl, hc8, hcell⟩ := bytes_cells hR rfl
  have BB := Aside0.mk hb
  have HCELL := Aside0.mk hcell
  have hc8' : (8 : Int) ≤ (c : Int) := by omega
  clear hR hb hcell hc8
  go_wp2_with fail
  go_loop [9, 11] (fun s i => ∃ k : Nat, k ≤ 8 ∧ i = .int .i64 k ∧ s = .string (strOfNums ((eight X).take k))) (fun _ i => 8 - (intOf i).toNat)
  case atStart => exact ⟨0, by omega, rfl, rfl⟩
  case round =>
    obtain ⟨k, hk, rfl, rfl⟩ := hrel
    rcases (show k = 0 ∨ k = 1 ∨ k = 2 ∨ k = 3 ∨ k = 4 ∨ k = 5 ∨ k = 6 ∨ k = 7 ∨ k = 8 by omega) with rfl | rfl | rfl | rfl | rfl | rfl | rfl | rfl | rfl
    · have hv := conv_at w1 g c 0 (eight X) HCELL.out (by omega)
      go_wp2_with fail
      go_round
      case rel => exact ⟨1, by omega, rfl, by rw [str_cat]; rfl⟩
      case measure => simp [intOf]
    · have hv := conv_at w1 g (c - 1) 1 (eight X) HCELL.out (by omega)
      go_wp2_with fail
      go_round
      case rel => exact ⟨2, by omega, rfl, by rw [str_cat]; rfl⟩
      case measure => simp [intOf]
    · have hv := conv_at w1 g (c - 2) 2 (eight X) HCELL.out (by omega)
      go_wp2_with fail
      go_round
      case rel => exact ⟨3, by omega, rfl, by rw [str_cat]; rfl⟩
      case measure => simp [intOf]
    · have hv := conv_at w1 g (c - 3) 3 (eight X) HCELL.out (by omega)
      go_wp2_with fail
      go_round
      case rel => exact ⟨4, by omega, rfl, by rw [str_cat]; rfl⟩
      case measure => simp [intOf]
    · have hv := conv_at w1 g (c - 4) 4 (eight X) HCELL.out (by omega)
      go_wp2_with fail
      go_round
      case rel => exact ⟨5, by omega, rfl, by rw [str_cat]; rfl⟩
      case measure => simp [intOf]
    · have hv := conv_at w1 g (c - 5) 5 (eight X) HCELL.out (by omega)
      go_wp2_with fail
      go_round
      case rel => exact ⟨6, by omega, rfl, by rw [str_cat]; rfl⟩
      case measure => simp [intOf]
    · have hv := conv_at w1 g (c - 6) 6 (eight X) HCELL.out (by omega)
      go_wp2_with fail
      go_round
      case rel => exact ⟨7, by omega, rfl, by rw [str_cat]; rfl⟩
      case measure => simp [intOf]
    · have hv := conv_at w1 g (c - 7) 7 (eight X) HCELL.out (by omega)
      go_wp2_with fail
      go_round
      case rel => exact ⟨8, by omega, rfl, by rw [str_cat]; rfl⟩
      case measure => simp [intOf]
    · go_wp2_with fail
      clear hc8' hk
      go_loopw [12, 13] (fun s i wr => ∃ k : Nat, k ≤ 8 ∧ i = .int .i64 k ∧ s = .string (strOfNums ((eight X).take k)) ∧ Below w.heap.size w wr) (fun _ i _ => 8 - (intOf i).toNat)
      case atStart => exact ⟨0, by omega, rfl, rfl, BB.out⟩
      case round =>
        obtain ⟨k, hk, rfl, rfl, hbw⟩ := hrel
        have BW := Aside0.mk hbw
        clear hbw
        have cv := conv1 wr
        rcases (show k = 0 ∨ k = 1 ∨ k = 2 ∨ k = 3 ∨ k = 4 ∨ k = 5 ∨ k = 6 ∨ k = 7 ∨ k = 8 by omega) with rfl | rfl | rfl | rfl | rfl | rfl | rfl | rfl | rfl
        · go_wp2_with fail
          go_roundw
          case rel => exact ⟨1, by omega, rfl, by rw [str_cat]; rfl, below_alloc BW.out _⟩
          case measure => simp [intOf]
        · go_wp2_with fail
          go_roundw
          case rel => exact ⟨2, by omega, rfl, by rw [str_cat]; rfl, below_alloc BW.out _⟩
          case measure => simp [intOf]
        · go_wp2_with fail
          go_roundw
          case rel => exact ⟨3, by omega, rfl, by rw [str_cat]; rfl, below_alloc BW.out _⟩
          case measure => simp [intOf]
        · go_wp2_with fail
          go_roundw
          case rel => exact ⟨4, by omega, rfl, by rw [str_cat]; rfl, below_alloc BW.out _⟩
          case measure => simp [intOf]
        · go_wp2_with fail
          go_roundw
          case rel => exact ⟨5, by omega, rfl, by rw [str_cat]; rfl, below_alloc BW.out _⟩
          case measure => simp [intOf]
        · go_wp2_with fail
          go_roundw
          case rel => exact ⟨6, by omega, rfl, by rw [str_cat]; rfl, below_alloc BW.out _⟩
          case measure => simp [intOf]
        · go_wp2_with fail
          go_roundw
          case rel => exact ⟨7, by omega, rfl, by rw [str_cat]; rfl, below_alloc BW.out _⟩
          case measure => simp [intOf]
        · go_wp2_with fail
          go_roundw
          case rel => exact ⟨8, by omega, rfl, by rw [str_cat]; rfl, below_alloc BW.out _⟩
          case measure => simp [intOf]
        · go_wp2_with (go_at_call 13; (with_reducible refine (awake35_c _).mono ?_); rintro e wd ⟨rfl, ⟨nd, rfl⟩⟩)
          go_ret
          exact ⟨rfl, pw_below_drewN BW.out _⟩
end Go.Proofs.Ytdhingmjnhhjnaa.My
