/- AddrSegs by the plain machine: the law. -/
import Derived.Test.YtponkdimnafppaaDoorASh
import Derived.Test.YtponkdimnafppaaDoorGLa
namespace Go.Proofs.YtponkdimnafppaaDoor.VM
open Go Go.RowKit Go.ChangeShapes
set_option linter.unusedVariables false
set_option linter.unusedSimpArgs false
set_option maxRecDepth 100000
set_option maxHeartbeats 1600000
theorem addrSegs_w (a0_0 : Int) (a0_1 : Bool) (a0_2 : Int) (a0_3 : Bool) (a0_4 : Int) (a0_5 : Bool) (a0_6 : Int) (a0_7 : Bool) (a0_8 : Int) (a0_9 : Bool) (a0_10 : Int) (a0_11 : Bool) (a0_12 : Int) (a0_13 : Bool) (a0_14 : Int) (a0_15 : Bool) (a0_16 : Int) (a0_17 : Bool) (a0_18 : Int) (a0_19 : Bool) (a0_20 : Int) (a0_21 : Bool) (a0_22 : Int) (a0_23 : Bool) (a0_24 : Int) (a0_25 : Int) (a1_0 : Bool) (a1_1 : Int) (a1_2 : Int) (a1_3 : Int) (a1_4 : Int) (a1_5 : Int) (a1_6 : Int) (a1_7 : Int) (a1_8 : Int) (a1_9 : Int) (W : World) (w0_0 : (Lit.int .u16 a0_0).wf = true) (w0_2 : (Lit.int .u16 a0_2).wf = true) (w0_4 : (Lit.int .u16 a0_4).wf = true) (w0_6 : (Lit.int .u16 a0_6).wf = true) (w0_8 : (Lit.int .u16 a0_8).wf = true) (w0_10 : (Lit.int .u16 a0_10).wf = true) (w0_12 : (Lit.int .u16 a0_12).wf = true) (w0_14 : (Lit.int .u16 a0_14).wf = true) (w0_16 : (Lit.int .u16 a0_16).wf = true) (w0_18 : (Lit.int .u16 a0_18).wf = true) (w0_20 : (Lit.int .u16 a0_20).wf = true) (w0_22 : (Lit.int .u16 a0_22).wf = true) (w0_24 : (Lit.int .u16 a0_24).wf = true) (w0_25 : (Lit.int .u16 a0_25).wf = true) (w1_1 : (Lit.int .i64 a1_1).wf = true) (w1_2 : (Lit.int .i64 a1_2).wf = true) (w1_3 : (Lit.int .u8 a1_3).wf = true) (w1_4 : (Lit.int .i64 a1_4).wf = true) (w1_5 : (Lit.int .i64 a1_5).wf = true) (w1_6 : (Lit.int .i64 a1_6).wf = true) (w1_7 : (Lit.int .u16 a1_7).wf = true) (w1_8 : (Lit.int .u16 a1_8).wf = true) (w1_9 : (Lit.int .u16 a1_9).wf = true) (hB : BasesIn W) :
    Calls Tryd.prog 4 #[.agg #[.int .u16 a0_0, .bool a0_1, .int .u16 a0_2, .bool a0_3, .int .u16 a0_4, .bool a0_5, .int .u16 a0_6, .bool a0_7, .int .u16 a0_8, .bool a0_9, .int .u16 a0_10, .bool a0_11, .int .u16 a0_12, .bool a0_13, .int .u16 a0_14, .bool a0_15, .int .u16 a0_16, .bool a0_17, .int .u16 a0_18, .bool a0_19, .int .u16 a0_20, .bool a0_21, .int .u16 a0_22, .bool a0_23, .int .u16 a0_24, .int .u16 a0_25], .agg #[.bool a1_0, .int .i64 a1_1, .int .i64 a1_2, .int .u8 a1_3, .int .i64 a1_4, .int .i64 a1_5, .int .i64 a1_6, .int .u16 a1_7, .int .u16 a1_8, .int .u16 a1_9]] W fun e W' => e = .returned (.bool true) ∧ Below W.heap.size W W' := by
  obtain ⟨K, hK⟩ : ∃ K, K = 9400 := ⟨_, rfl⟩
  have h : Ends (FF Mk.plain (K + 1) 1 4 [.agg (regsL (fun i => match i with | 0 => (a0_0, a0_1) | 1 => (a0_2, a0_3) | 2 => (a0_4, a0_5) | 3 => (a0_6, a0_7) | 4 => (a0_8, a0_9) | 5 => (a0_10, a0_11) | 6 => (a0_12, a0_13) | _ => (a0_14, a0_15)) (fun i => match i with | 0 => (a0_16, a0_17) | 1 => (a0_18, a0_19) | 2 => (a0_20, a0_21) | _ => (a0_22, a0_23)) a0_24 a0_25), .agg (inL ⟨a1_0, a1_1, a1_2, a1_3, a1_4, a1_5, a1_6, a1_7, a1_8, a1_9⟩)] [⟨basesL, true⟩]) (fun r => r.1 = .bool true) := by
    exact addrSegs_e Mk.plain K 1 hK _ _ _ _ ⟨a1_0, a1_1, a1_2, a1_3, a1_4, a1_5, a1_6, a1_7, a1_8, a1_9⟩ (u8_wf' w1_3) (u16_wf' w1_7) (u16_wf' w1_8) (u16_wf' w1_9) _ rfl
  obtain ⟨⟨v, H'⟩, he, hv⟩ := h
  replace hv : v = .bool true := hv
  subst hv
  exact law_bases hB he ⟨⟨_, rfl, rfl, rfl, rfl, rfl, rfl, rfl, rfl, rfl, rfl, rfl, rfl, rfl, rfl, rfl, rfl, rfl, rfl, rfl, rfl, rfl, rfl, rfl, rfl, rfl, rfl, rfl, trivial⟩, ⟨_, rfl, rfl, rfl, rfl, rfl, rfl, rfl, rfl, rfl, rfl, rfl, trivial⟩, trivial⟩
end Go.Proofs.YtponkdimnafppaaDoor.VM
