/- A new memory, and a paragraph's word in it, in the plain machine. -/
import Derived.Test.YtfflejhodmcoeaaMI
namespace Go.Proofs.Ytfflejhodmcoeaa.VM
open Go Go.RowKit
set_option linter.unusedVariables false
set_option linter.unusedSimpArgs false
set_option maxRecDepth 40000
set_option maxHeartbeats 1600000
theorem mnew_E (mk : Mk) (k lo : Nat) (hk : 1 ≤ k) {N : Nat} (hN : N = 1048576) (H : List Blk) : Ends (FF mk k lo 7 [] H) fun r => r.1 = .ptr (.hp (H.length + 2)) 0 ∧ Grown H r.2 ∧ r.2.length = H.length + 3 ∧ HasMem N r.2 (H.length + 2) H.length (H.length + 1) (fun _ => 0) (fun _ => 0) := by
  have e : mk.f 1048576 [.int .u8 0] = memL N fun _ => 0 := by rw [← hN]; exact memL_zero mk N
  refine ⟨_, mnew_F mk k lo hk H, rfl, ((Grown.one _ _).trans (Grown.one _ _)).trans (Grown.one _ _), by simp, ?_⟩
  rw [e]
  refine ⟨hN, ?_, ?_, ?_, by omega, by omega, by omega⟩
  · simp
  · simp [List.getElem?_append_right]
  · rw [List.getElem?_append_left (by simp), List.getElem?_append_right (by simp)]; simp
theorem HasMem.grow {N : Nat} {H H' : List Blk} {p q s : Nat} {f g : Nat → Int} (h : HasMem N H p q s f g) (hg : Grown H H') : HasMem N H' p q s f g := ⟨h.n, hg.at h.hp, hg.at h.hq, hg.at h.hs, h.pq, h.ps, h.qs⟩
theorem putMem_grown {N : Nat} {A H : List Blk} (g : Grown A H) {q s : Nat} (hq : A.length ≤ q) (hs : A.length ≤ s) (f f' : Nat → Int) : Grown A (putMem N H q s f f') := (g.set hq _).set hs _
theorem awake02_F (mk : Mk) (k lo : Nat) (hk : 8 ≤ k) (H : List Blk) (hlo : lo ≤ H.length) : Ends (FF mk k lo 18 [] H) fun r => r.1 = .bool true ∧ Grown H r.2 := by
  obtain ⟨k, rfl⟩ : ∃ m, k = m + 1 := ⟨k - 1, by omega⟩
  obtain ⟨N, hN⟩ : ∃ N, N = 1048576 := ⟨_, rfl⟩
  conv => enter [1]; whnf
  refine Ends.callE (mnew_E mk k lo (by omega) hN H) (fun v H1 hv => ?_)
  obtain ⟨hv, g1, l1, h1⟩ := hv
  replace hv : v = .ptr (.hp (H.length + 2)) 0 := hv
  subst hv
  replace g1 : Grown H H1 := g1
  replace h1 : HasMem N H1 (H.length + 2) H.length (H.length + 1) (fun _ => 0) (fun _ => 0) := h1
  conv => enter [1]; whnf
  have c1 := msetw_F mk k lo (by omega) h1 hlo (by omega) 2 3 4660 true (by unfold U16; decide) (by unfold U16; decide) (by unfold U16; decide)
  have h2 := h1.put (updI (updI (fun _ => 0) (linN 2 3) (4660 % 256)) (linN 2 (nxt 3)) (4660 / 256)) (if true then updI (updI (updI (updI (fun _ => 0) (linN 2 3) 0) (linN 2 (nxt 3)) 0) (linN 2 3) 1) (linN 2 (nxt 3)) 2 else updI (updI (fun _ => 0) (linN 2 3) 0) (linN 2 (nxt 3)) 0)
  have G2 := putMem_grown (N := N) g1 (Nat.le_refl H.length) (by omega : H.length ≤ H.length + 1) (updI (updI (fun _ => 0) (linN 2 3) (4660 % 256)) (linN 2 (nxt 3)) (4660 / 256)) (if true then updI (updI (updI (updI (fun _ => 0) (linN 2 3) 0) (linN 2 (nxt 3)) 0) (linN 2 3) 1) (linN 2 (nxt 3)) 2 else updI (updI (fun _ => 0) (linN 2 3) 0) (linN 2 (nxt 3)) 0)
  generalize hF : updI (updI (fun _ => (0 : Int)) (linN 2 3) (4660 % 256)) (linN 2 (nxt 3)) (4660 / 256) = F at *
  generalize hG : (if true then updI (updI (updI (updI (fun _ => (0 : Int)) (linN 2 3) 0) (linN 2 (nxt 3)) 0) (linN 2 3) 1) (linN 2 (nxt 3)) 2 else updI (updI (fun _ => (0 : Int)) (linN 2 3) 0) (linN 2 (nxt 3)) 0) = G at *
  have e35 : linN 2 3 = 35 := by decide
  have e36 : linN 2 (nxt 3) = 36 := by decide
  have e36' : linN 2 4 = 36 := by decide
  have e37 : linN 2 (nxt 4) = 37 := by decide
  rw [e35, e36] at hF hG
  have f35 : F 35 = 52 := by rw [← hF]; decide
  have f36 : F 36 = 18 := by rw [← hF]; decide
  have g35 : G 35 = 1 := by rw [← hG]; decide
  have g36 : G 36 = 2 := by rw [← hG]; decide
  have g37 : G 37 = 0 := by rw [← hG]; decide
  have u8F : ∀ i, U8 (F i) := by
    intro i
    rw [← hF]
    unfold updI U8
    split
    · decide
    · split
      · decide
      · show (0 : Int) ≤ 0 ∧ (0 : Int) < 256
        decide
  refine Ends.call c1 ?_
  generalize putMem N H1 H.length (H.length + 1) F G = H2 at *
  conv => enter [1]; whnf
  have w1 := mword_F mk k lo (by omega) h2 u8F 2 3 (by unfold U16; decide) (by unfold U16; decide)
  have t1 : tok G 2 3 = true := by unfold tok; rw [e35, e36, g35, g36]; decide
  rw [t1, e35, e36, f35, f36, g35] at w1
  have w2 := mword_F mk k lo (by omega) h2 u8F 2 4 (by unfold U16; decide) (by unfold U16; decide)
  have t2 : tok G 2 4 = false := by unfold tok; rw [e36', e37, g36, g37]; decide
  rw [t2, e36', e37, g36] at w2
  replace w1 : FF mk k lo 14 [.ptr (.hp (H.length + 2)) 0, .int .u16 2, .int .u16 3] H2 = some (.tup [.agg [.int .u16 4660, .bool true], .bool true], H2) := w1
  generalize F 36 + 256 * F 37 = y at w2
  replace w2 : FF mk k lo 14 [.ptr (.hp (H.length + 2)) 0, .int .u16 2, .int .u16 4] H2 = some (.tup [.agg [.int .u16 y, .bool false], .bool false], H2) := w2
  refine Ends.call w1 ?_
  conv => enter [1]; whnf
  refine Ends.call w2 ?_
  conv => enter [1]; whnf
  have a1 := mat_F mk k lo (by omega) h2 35 (by decide)
  rw [show ((35 : Int) % 1048576).toNat = 35 from rfl, f35] at a1
  have a2 := mplain_F mk k lo (by omega) h2 36 (by decide)
  rw [show ((36 : Int) % 1048576).toNat = 36 from rfl, g36] at a2
  have a3 := mplain_F mk k lo (by omega) h2 37 (by decide)
  rw [show ((37 : Int) % 1048576).toNat = 37 from rfl, g37] at a3
  refine Ends.call a1 ?_
  conv => enter [1]; whnf
  refine Ends.call a2 ?_
  conv => enter [1]; whnf
  refine Ends.call a3 ?_
  conv => enter [1]; whnf
  exact Ends.some' ⟨rfl, G2⟩
theorem msetw_N (mk : Mk) (k lo : Nat) (hk : 4 ≤ k) (H : List Blk) : FF mk k lo 10 [.nilp, .int .u16 1, .int .u16 2, .agg [.int .u16 3, .bool false]] H = some (.tup [], H) := by
  obtain ⟨k, rfl⟩ : ∃ m, k = m + 4 := ⟨k - 4, by omega⟩
  kernel_rfl
theorem mword_N (mk : Mk) (k lo : Nat) (hk : 5 ≤ k) (H : List Blk) : FF mk k lo 14 [.nilp, .int .u16 1, .int .u16 2] H = some (.tup [.agg [.int .u16 0, .bool false], .bool true], H) := by
  obtain ⟨k, rfl⟩ : ∃ m, k = m + 5 := ⟨k - 5, by omega⟩
  kernel_rfl
end Go.Proofs.Ytfflejhodmcoeaa.VM
