/- A new memory, and a paragraph's word in it, in the plain machine. -/
import Derived.Test.YtkjcipdfciajhaaMI
namespace Go.Proofs.Ytkjcipdfciajhaa.VM
open Go Go.RowKit
set_option linter.unusedVariables false
set_option linter.unusedSimpArgs false
set_option maxRecDepth 40000
set_option maxHeartbeats 1600000
theorem mnew_E (mk : Mk) (k lo : Nat) (hk : 1 ≤ k) {N : Nat} (hN : N = 1048576) (H : List Blk) : Ends (FF mk k lo 29 [] H) fun r => r.1 = .ptr (.hp (H.length + 2)) 0 ∧ Grown H r.2 ∧ r.2.length = H.length + 3 ∧ HasMem N r.2 (H.length + 2) H.length (H.length + 1) (fun _ => 0) (fun _ => 0) := by
  have e : mk.f 1048576 [.int .u8 0] = memL N fun _ => 0 := by rw [← hN]; exact memL_zero mk N
  refine ⟨_, mnew_F mk k lo hk H, rfl, ((Grown.one _ _).trans (Grown.one _ _)).trans (Grown.one _ _), by simp, ?_⟩
  rw [e]
  refine ⟨hN, ?_, ?_, ?_, by omega, by omega, by omega⟩
  · simp
  · simp [List.getElem?_append_right]
  · rw [List.getElem?_append_left (by simp), List.getElem?_append_right (by simp)]; simp
theorem HasMem.grow {N : Nat} {H H' : List Blk} {p q s : Nat} {f g : Nat → Int} (h : HasMem N H p q s f g) (hg : Grown H H') : HasMem N H' p q s f g := ⟨h.n, hg.at h.hp, hg.at h.hq, hg.at h.hs, h.pq, h.ps, h.qs⟩
theorem putMem_grown {N : Nat} {A H : List Blk} (g : Grown A H) {q s : Nat} (hq : A.length ≤ q) (hs : A.length ≤ s) (f f' : Nat → Int) : Grown A (putMem N H q s f f') := (g.set hq _).set hs _
end Go.Proofs.Ytkjcipdfciajhaa.VM
