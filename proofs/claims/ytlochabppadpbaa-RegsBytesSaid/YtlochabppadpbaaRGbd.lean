/- RegsBytes by the plain machine: the law. -/
import Derived.Test.YtlochabppadpbaaRGb1
import Derived.Test.YtlochabppadpbaaRGb2
namespace Go.Proofs.Ytlochabppadpbaa.VM
open Go Go.RowKit
set_option linter.unusedVariables false
set_option linter.unusedSimpArgs false
set_option maxRecDepth 40000
set_option maxHeartbeats 1600000
theorem regsBytes_e (mk : Mk) (g s : Nat → VT) (ip f n b : Int) (hg : ∀ i, U16 (g i).1) (hb : U8 b) : Ends (FF mk 14 0 5 [.agg (regsL g s ip f), .int .i64 n, .int .u8 b] []) (fun r => r.1 = .bool true) := by
  by_cases h : 0 ≤ n ∧ n < 8
  · rcases i8cases h with rfl | rfl | rfl | rfl | rfl | rfl | rfl | rfl
    · exact regsBytes_0 mk g s ip f b hg hb
    · exact regsBytes_1 mk g s ip f b hg hb
    · exact regsBytes_2 mk g s ip f b hg hb
    · exact regsBytes_3 mk g s ip f b hg hb
    · exact regsBytes_4 mk g s ip f b hg hb
    · exact regsBytes_5 mk g s ip f b hg hb
    · exact regsBytes_6 mk g s ip f b hg hb
    · exact regsBytes_7 mk g s ip f b hg hb
  · exact regsBytes_out mk g s ip f b n hg hb h
theorem u16_wf {x : Int} (h : (Lit.int .u16 x).wf = true) : U16 x := by
  simp only [Lit.wf, Bool.and_eq_true, decide_eq_true_eq] at h
  have h1 : IntKind.u16.min = 0 := rfl
  have h2 : IntKind.u16.max = 65535 := rfl
  unfold U16
  omega
theorem u8_wf {x : Int} (h : (Lit.int .u8 x).wf = true) : U8 x := by
  simp only [Lit.wf, Bool.and_eq_true, decide_eq_true_eq] at h
  have h1 : IntKind.u8.min = 0 := rfl
  have h2 : IntKind.u8.max = 255 := rfl
  unfold U8
  omega
theorem regsBytes_w (a0_0 : Int) (a0_1 : Bool) (a0_2 : Int) (a0_3 : Bool) (a0_4 : Int) (a0_5 : Bool) (a0_6 : Int) (a0_7 : Bool) (a0_8 : Int) (a0_9 : Bool) (a0_10 : Int) (a0_11 : Bool) (a0_12 : Int) (a0_13 : Bool) (a0_14 : Int) (a0_15 : Bool) (a0_16 : Int) (a0_17 : Bool) (a0_18 : Int) (a0_19 : Bool) (a0_20 : Int) (a0_21 : Bool) (a0_22 : Int) (a0_23 : Bool) (a0_24 : Int) (a0_25 : Int) (a1 a2 : Int) (W : World) (w0_0 : (Lit.int .u16 a0_0).wf = true) (w0_2 : (Lit.int .u16 a0_2).wf = true) (w0_4 : (Lit.int .u16 a0_4).wf = true) (w0_6 : (Lit.int .u16 a0_6).wf = true) (w0_8 : (Lit.int .u16 a0_8).wf = true) (w0_10 : (Lit.int .u16 a0_10).wf = true) (w0_12 : (Lit.int .u16 a0_12).wf = true) (w0_14 : (Lit.int .u16 a0_14).wf = true) (w0_16 : (Lit.int .u16 a0_16).wf = true) (w0_18 : (Lit.int .u16 a0_18).wf = true) (w0_20 : (Lit.int .u16 a0_20).wf = true) (w0_22 : (Lit.int .u16 a0_22).wf = true) (w0_24 : (Lit.int .u16 a0_24).wf = true) (w0_25 : (Lit.int .u16 a0_25).wf = true) (w1 : (Lit.int .i64 a1).wf = true) (w2 : (Lit.int .u8 a2).wf = true) :
    Calls Try.prog 5 #[.agg #[.int .u16 a0_0, .bool a0_1, .int .u16 a0_2, .bool a0_3, .int .u16 a0_4, .bool a0_5, .int .u16 a0_6, .bool a0_7, .int .u16 a0_8, .bool a0_9, .int .u16 a0_10, .bool a0_11, .int .u16 a0_12, .bool a0_13, .int .u16 a0_14, .bool a0_15, .int .u16 a0_16, .bool a0_17, .int .u16 a0_18, .bool a0_19, .int .u16 a0_20, .bool a0_21, .int .u16 a0_22, .bool a0_23, .int .u16 a0_24, .int .u16 a0_25], .int .i64 a1, .int .u8 a2] W fun e W' => e = .returned (.bool true) ∧ Below W.heap.size W W' := by
  obtain ⟨⟨v, H'⟩, he, hv⟩ := regsBytes_e Mk.plain (fun i => match i with | 0 => (a0_0, a0_1) | 1 => (a0_2, a0_3) | 2 => (a0_4, a0_5) | 3 => (a0_6, a0_7) | 4 => (a0_8, a0_9) | 5 => (a0_10, a0_11) | 6 => (a0_12, a0_13) | _ => (a0_14, a0_15)) (fun i => match i with | 0 => (a0_16, a0_17) | 1 => (a0_18, a0_19) | 2 => (a0_20, a0_21) | _ => (a0_22, a0_23)) a0_24 a0_25 a1 a2 (fun i => by
    match i with
    | 0 => exact u16_wf w0_0
    | 1 => exact u16_wf w0_2
    | 2 => exact u16_wf w0_4
    | 3 => exact u16_wf w0_6
    | 4 => exact u16_wf w0_8
    | 5 => exact u16_wf w0_10
    | 6 => exact u16_wf w0_12
    | _ + 7 => exact u16_wf w0_14) (u8_wf w2)
  replace hv : v = .bool true := hv
  subst hv
  refine law_of (ρ := fun _ => none) (H0 := []) follows annok extok he (fun b c z => by cases z) (fun k c cs z => by cases z) (fun b c z => by cases z) ?_
  exact ⟨⟨_, rfl, rfl, rfl, rfl, rfl, rfl, rfl, rfl, rfl, rfl, rfl, rfl, rfl, rfl, rfl, rfl, rfl, rfl, rfl, rfl, rfl, rfl, rfl, rfl, rfl, rfl, rfl, trivial⟩, rfl, rfl, trivial⟩
end Go.Proofs.Ytlochabppadpbaa.VM
