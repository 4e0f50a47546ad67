/- RegsWords by the plain machine: the law. -/
import Derived.Test.YtlochabppadpbaaRGw0
import Derived.Test.YtlochabppadpbaaRGw1
import Derived.Test.YtlochabppadpbaaRGw2
import Derived.Test.YtlochabppadpbaaRGw3
namespace Go.Proofs.Ytlochabppadpbaa.VM
open Go Go.RowKit
set_option linter.unusedVariables false
set_option linter.unusedSimpArgs false
set_option maxRecDepth 40000
set_option maxHeartbeats 1600000
theorem regsWords_e (mk : Mk) (g s : Nat → VT) (ip f n j : Int) (x : VT) : Ends (FF mk 14 0 6 [.agg (regsL g s ip f), .agg [.int .i64 n, .int .i64 j], .agg (pairV x)] []) (fun r => r.1 = .bool true) := by
  have hn : n < 0 ∨ 7 < n ∨ 3 < n ∧ n < 8 ∨ 0 ≤ n ∧ n < 4 := by omega
  have hj : j < 0 ∨ 7 < j ∨ 3 < j ∧ j < 8 ∨ 0 ≤ j ∧ j < 4 := by omega
  rcases hn with h | h | h | h <;> rcases hj with h' | h' | h' | h'
  · exact regsWords_neg_neg mk g s ip f n j x h h'
  · exact regsWords_neg_big mk g s ip f n j x h h'
  · exact regsWords_neg_mid mk g s ip f n j x h h'
  · exact regsWords_neg_small mk g s ip f n j x h h'
  · exact regsWords_big_neg mk g s ip f n j x h h'
  · exact regsWords_big_big mk g s ip f n j x h h'
  · exact regsWords_big_mid mk g s ip f n j x h h'
  · exact regsWords_big_small mk g s ip f n j x h h'
  · exact regsWords_mid_neg mk g s ip f n j x h h'
  · exact regsWords_mid_big mk g s ip f n j x h h'
  · exact regsWords_mid_mid mk g s ip f n j x h h'
  · exact regsWords_mid_small mk g s ip f n j x h h'
  · exact regsWords_small_neg mk g s ip f n j x h h'
  · exact regsWords_small_big mk g s ip f n j x h h'
  · exact regsWords_small_mid mk g s ip f n j x h h'
  · exact regsWords_small_small mk g s ip f n j x h h'
theorem regsWords_w (a0_0 : Int) (a0_1 : Bool) (a0_2 : Int) (a0_3 : Bool) (a0_4 : Int) (a0_5 : Bool) (a0_6 : Int) (a0_7 : Bool) (a0_8 : Int) (a0_9 : Bool) (a0_10 : Int) (a0_11 : Bool) (a0_12 : Int) (a0_13 : Bool) (a0_14 : Int) (a0_15 : Bool) (a0_16 : Int) (a0_17 : Bool) (a0_18 : Int) (a0_19 : Bool) (a0_20 : Int) (a0_21 : Bool) (a0_22 : Int) (a0_23 : Bool) (a0_24 : Int) (a0_25 : Int) (a1_0 a1_1 : Int) (a2_0 : Int) (a2_1 : Bool) (W : World) (w0_0 : (Lit.int .u16 a0_0).wf = true) (w0_2 : (Lit.int .u16 a0_2).wf = true) (w0_4 : (Lit.int .u16 a0_4).wf = true) (w0_6 : (Lit.int .u16 a0_6).wf = true) (w0_8 : (Lit.int .u16 a0_8).wf = true) (w0_10 : (Lit.int .u16 a0_10).wf = true) (w0_12 : (Lit.int .u16 a0_12).wf = true) (w0_14 : (Lit.int .u16 a0_14).wf = true) (w0_16 : (Lit.int .u16 a0_16).wf = true) (w0_18 : (Lit.int .u16 a0_18).wf = true) (w0_20 : (Lit.int .u16 a0_20).wf = true) (w0_22 : (Lit.int .u16 a0_22).wf = true) (w0_24 : (Lit.int .u16 a0_24).wf = true) (w0_25 : (Lit.int .u16 a0_25).wf = true) (w1_0 : (Lit.int .i64 a1_0).wf = true) (w1_1 : (Lit.int .i64 a1_1).wf = true) (w2_0 : (Lit.int .u16 a2_0).wf = true) :
    Calls Try.prog 6 #[.agg #[.int .u16 a0_0, .bool a0_1, .int .u16 a0_2, .bool a0_3, .int .u16 a0_4, .bool a0_5, .int .u16 a0_6, .bool a0_7, .int .u16 a0_8, .bool a0_9, .int .u16 a0_10, .bool a0_11, .int .u16 a0_12, .bool a0_13, .int .u16 a0_14, .bool a0_15, .int .u16 a0_16, .bool a0_17, .int .u16 a0_18, .bool a0_19, .int .u16 a0_20, .bool a0_21, .int .u16 a0_22, .bool a0_23, .int .u16 a0_24, .int .u16 a0_25], .agg #[.int .i64 a1_0, .int .i64 a1_1], .agg #[.int .u16 a2_0, .bool a2_1]] W fun e W' => e = .returned (.bool true) ∧ Below W.heap.size W W' := by
  obtain ⟨⟨v, H'⟩, he, hv⟩ := regsWords_e Mk.plain (fun i => match i with | 0 => (a0_0, a0_1) | 1 => (a0_2, a0_3) | 2 => (a0_4, a0_5) | 3 => (a0_6, a0_7) | 4 => (a0_8, a0_9) | 5 => (a0_10, a0_11) | 6 => (a0_12, a0_13) | _ => (a0_14, a0_15)) (fun i => match i with | 0 => (a0_16, a0_17) | 1 => (a0_18, a0_19) | 2 => (a0_20, a0_21) | _ => (a0_22, a0_23)) a0_24 a0_25 a1_0 a1_1 (a2_0, a2_1)
  replace hv : v = .bool true := hv
  subst hv
  refine law_of (ρ := fun _ => none) (H0 := []) follows annok extok he (fun b c z => by cases z) (fun k c cs z => by cases z) (fun b c z => by cases z) ?_
  exact ⟨⟨_, rfl, rfl, rfl, rfl, rfl, rfl, rfl, rfl, rfl, rfl, rfl, rfl, rfl, rfl, rfl, rfl, rfl, rfl, rfl, rfl, rfl, rfl, rfl, rfl, rfl, rfl, rfl, trivial⟩, ⟨_, rfl, rfl, rfl, trivial⟩, ⟨_, rfl, rfl, rfl, trivial⟩, trivial⟩
end Go.Proofs.Ytlochabppadpbaa.VM
