/- CoreMemory by the plain machine: the law. -/
import Derived.Test.YtkjcipdfciajhaaNB
import Derived.Test.YtkjcipdfciajhaaVZ
namespace Go.Proofs.Ytkjcipdfciajhaa.VM
open Go Go.RowKit Go.ChangeShapes
set_option linter.unusedVariables false
set_option linter.unusedSimpArgs false
set_option maxRecDepth 100000
set_option maxHeartbeats 3200000
theorem coreMemory_w (a0 : Int) (a1_0 : Int) (a1_1 : Bool) (a2 : Int) (W : World) (w0 : (Lit.int .u16 a0).wf = true) (w1_0 : (Lit.int .u16 a1_0).wf = true) (w2 : (Lit.int .i64 a2).wf = true) :
    Calls Try.prog 4 #[.int .u16 a0, .agg #[.int .u16 a1_0, .bool a1_1], .int .i64 a2] W fun e W' => e = .returned (.bool true) ∧ Below W.heap.size W W' := by
  obtain ⟨K, hK⟩ : ∃ K, K = 200 := ⟨_, rfl⟩
  obtain ⟨⟨v, H'⟩, he, hv⟩ := coreMemory_e Mk.plain K 0 hK a0 (u16_wf' w0) (a1_0, a1_1) (u16_wf' w1_0) a2 [] (by simp)
  replace hv : v = .bool true := hv
  subst hv
  exact law_of (ρ := fun _ => none) (H0 := []) follows annok extok he (fun b c z => by cases z) (fun k c cs z => by cases z) (fun b c z => by cases z) ⟨rfl, ⟨_, rfl, rfl, rfl, trivial⟩, rfl, trivial⟩
end Go.Proofs.Ytkjcipdfciajhaa.VM
