/- The stack, there and back, in the plain machine. -/
import Derived.Test.YtkjcipdfciajhaaMR
namespace Go.Proofs.Ytkjcipdfciajhaa.VM
open Go Go.RowKit
set_option linter.unusedVariables false
set_option linter.unusedSimpArgs false
set_option maxRecDepth 40000
set_option maxHeartbeats 1600000
theorem HasMem.setc {N : Nat} {H : List Blk} {p q s : Nat} {f g : Nat → Int} (h : HasMem N H p q s f g) {r : Nat} (B : Blk) (h1 : r ≠ p) (h2 : r ≠ q) (h3 : r ≠ s) : HasMem N (H.set r B) p q s f g :=
  ⟨h.n, by rw [List.getElem?_set_ne h1]; exact h.hp, by rw [List.getElem?_set_ne h2]; exact h.hq, by rw [List.getElem?_set_ne h3]; exact h.hs, h.pq, h.ps, h.qs⟩
theorem wide4_F (mk : Mk) (k lo : Nat) (hk : 1 ≤ k) (H : List Blk) : FF mk k lo 35 [.int .i64 4] H = some (.bool true, H) := by
  obtain ⟨k, rfl⟩ : ∃ m, k = m + 1 := ⟨k - 1, by omega⟩
  kernel_rfl
theorem wide3_F (mk : Mk) (k lo : Nat) (hk : 1 ≤ k) (H : List Blk) : FF mk k lo 35 [.int .i64 3] H = some (.bool false, H) := by
  obtain ⟨k, rfl⟩ : ∃ m, k = m + 1 := ⟨k - 1, by omega⟩
  kernel_rfl
theorem awake13_F (mk : Mk) (k lo : Nat) (hk : 60 ≤ k) (H : List Blk) (hlo : lo ≤ H.length) : Ends (FF mk k lo 10 [] H) fun r => r.1 = .bool true ∧ Grown H r.2 := by
  obtain ⟨k, rfl⟩ : ∃ m, k = m + 1 := ⟨k - 1, by omega⟩
  obtain ⟨N, hN⟩ : ∃ N, N = 1048576 := ⟨_, rfl⟩
  conv => enter [1]; whnf
  refine Ends.callE (begin13_F mk k lo (by omega) hN H hlo 256 512 9 (by unfold U16; decide) (by decide)) (fun v H1 hv => ?_)
  obtain ⟨c, p, w, q, r, hv, h1, m1, g1, hc, hq, hr, hcq, hcr, hcp⟩ := hv
  replace hv : v = .ptr (.hp c) 0 := hv
  subst hv
  replace h1 : HasMach H1 c (updR g0 4 (9, false)) (fun _ => (256, true)) 0 0 p w (256 * 16) 512 0 := h1
  replace m1 : HasMem N H1 p q r (fun _ => 0) (fun _ => 0) := m1
  replace g1 : Grown H H1 := g1
  conv => enter [1]; whnf
  have c1 := cpush_F mk k lo (by omega) h1 m1 (by omega) (by omega) (by omega) (fun i => by unfold U8; exact ⟨Int.le_refl 0, by decide⟩) (by decide) (5, false) (by unfold U16; decide) (by unfold U16; decide) hcq hcr rfl (by decide) (by decide) (by decide)
  have e7 : prv (updR g0 4 (9, false) 4).1 = 7 := by decide
  have e8 : nxt 7 = 8 := by decide
  rw [e7, e8] at c1
  have hF := m1.put (updI (updI (fun _ => 0) (linN 256 7) ((5 : Int) % 256)) (linN 256 8) ((5 : Int) / 256)) (kindT false (fun _ => 0) (linN 256 7) (linN 256 8))
  have G2 := putMem_grown (N := N) g1 hq hr (updI (updI (fun _ => 0) (linN 256 7) ((5 : Int) % 256)) (linN 256 8) ((5 : Int) / 256)) (kindT false (fun _ => 0) (linN 256 7) (linN 256 8))
  replace c1 : FF mk k lo 8 [.ptr (.hp c) 0, .agg [.int .u16 5, .bool false]] H1 = some (.tup [], (putMem N H1 q r (updI (updI (fun _ => 0) (linN 256 7) ((5 : Int) % 256)) (linN 256 8) ((5 : Int) / 256)) (kindT false (fun _ => 0) (linN 256 7) (linN 256 8))).set c ⟨machL (updR (updR g0 4 (9, false)) 4 (7, false)) (fun _ => (256, true)) 0 0 p w (256 * 16) 512 0, true⟩) := c1
  have hcl : c < (putMem N H1 q r (updI (updI (fun _ => 0) (linN 256 7) ((5 : Int) % 256)) (linN 256 8) ((5 : Int) / 256)) (kindT false (fun _ => 0) (linN 256 7) (linN 256 8))).length := by rw [putMem_len]; exact at_lt h1.hc
  have f7 : updI (updI (fun _ => 0) (linN 256 7) ((5 : Int) % 256)) (linN 256 8) ((5 : Int) / 256) (linN 256 7) = 5 := by decide
  have f8 : updI (updI (fun _ => 0) (linN 256 7) ((5 : Int) % 256)) (linN 256 8) ((5 : Int) / 256) (linN 256 8) = 0 := by decide
  have t7 : kindT false (fun _ => 0) (linN 256 7) (linN 256 8) (linN 256 7) = 0 := by decide
  have t8 : kindT false (fun _ => 0) (linN 256 7) (linN 256 8) (linN 256 8) = 0 := by decide
  have uF : ∀ i, U8 (updI (updI (fun _ => 0) (linN 256 7) ((5 : Int) % 256)) (linN 256 8) ((5 : Int) / 256) i) := by
    intro i
    unfold updI U8
    split
    · decide
    · split
      · decide
      · show (0 : Int) ≤ 0 ∧ (0 : Int) < 256
        decide
  generalize updI (updI (fun _ => 0) (linN 256 7) ((5 : Int) % 256)) (linN 256 8) ((5 : Int) / 256) = F at *
  generalize kindT false (fun _ => 0) (linN 256 7) (linN 256 8) = T2 at *
  generalize putMem N H1 q r F T2 = X at *
  have h2 : HasMach (X.set c ⟨machL (updR (updR g0 4 (9, false)) 4 (7, false)) (fun _ => (256, true)) 0 0 p w (256 * 16) 512 0, true⟩) c (updR (updR g0 4 (9, false)) 4 (7, false)) (fun _ => (256, true)) 0 0 p w (256 * 16) 512 0 := ⟨List.getElem?_set_self hcl⟩
  have m2 : HasMem N (X.set c ⟨machL (updR (updR g0 4 (9, false)) 4 (7, false)) (fun _ => (256, true)) 0 0 p w (256 * 16) 512 0, true⟩) p q r F T2 := hF.setc _ hcp hcq hcr
  have G3 : Grown H (X.set c ⟨machL (updR (updR g0 4 (9, false)) 4 (7, false)) (fun _ => (256, true)) 0 0 p w (256 * 16) 512 0, true⟩) := G2.set hc _
  refine Ends.call c1 ?_
  generalize X.set c ⟨machL (updR (updR g0 4 (9, false)) 4 (7, false)) (fun _ => (256, true)) 0 0 p w (256 * 16) 512 0, true⟩ = H2 at *
  conv => enter [1]; whnf
  have hg7 : (updR (updR g0 4 (9, false)) 4 (7, false) 4) = (7, false) := rfl
  have c2 := cpop_F mk k lo (by omega) h2 m2 (by omega) uF (by decide) (by unfold U16; decide) (by unfold U16; decide) rfl (by decide) (by show (tok T2 256 7 || (T2 (linN 256 7) == 0 && T2 (linN 256 (nxt 7)) == 0)) = true; rw [e8, t7, t8]; simp)
  have et : tok T2 256 7 = false := by unfold tok; rw [t7]; rfl
  replace c2 : FF mk k lo 11 [.ptr (.hp c) 0] H2 = some (.agg (pairV (F (linN 256 7) + 256 * F (linN 256 (nxt 7)), tok T2 256 7)), H2.set c ⟨machL (updR (updR (updR g0 4 (9, false)) 4 (7, false)) 4 (nx2 7, false)) (fun _ => (256, true)) 0 0 p w (256 * 16) 512 0, true⟩) := c2
  rw [e8, f7, f8, et] at c2
  have hcl2 := at_lt h2.hc
  have h3 : HasMach (H2.set c ⟨machL (updR (updR (updR g0 4 (9, false)) 4 (7, false)) 4 (nx2 7, false)) (fun _ => (256, true)) 0 0 p w (256 * 16) 512 0, true⟩) c (updR (updR (updR g0 4 (9, false)) 4 (7, false)) 4 (nx2 7, false)) (fun _ => (256, true)) 0 0 p w (256 * 16) 512 0 := ⟨List.getElem?_set_self hcl2⟩
  have m3 : HasMem N (H2.set c ⟨machL (updR (updR (updR g0 4 (9, false)) 4 (7, false)) 4 (nx2 7, false)) (fun _ => (256, true)) 0 0 p w (256 * 16) 512 0, true⟩) p q r F T2 := m2.setc _ hcp hcq hcr
  have G4 : Grown H (H2.set c ⟨machL (updR (updR (updR g0 4 (9, false)) 4 (7, false)) 4 (nx2 7, false)) (fun _ => (256, true)) 0 0 p w (256 * 16) 512 0, true⟩) := G3.set hc _
  replace c2 : FF mk k lo 11 [.ptr (.hp c) 0] H2 = some (.agg [.int .u16 5, .bool false], H2.set c ⟨machL (updR (updR (updR g0 4 (9, false)) 4 (7, false)) 4 (nx2 7, false)) (fun _ => (256, true)) 0 0 p w (256 * 16) 512 0, true⟩) := c2
  refine Ends.call c2 ?_
  generalize (updR (updR (updR g0 4 (9, false)) 4 (7, false)) 4 (nx2 7, false)) = gg at *
  generalize H2.set c ⟨machL gg (fun _ => (256, true)) 0 0 p w (256 * 16) 512 0, true⟩ = H3 at *
  conv => enter [1]; whnf
  have c3 := cbyte_F mk k lo (by omega) h3 m3 (by omega) uF (by decide) (256, false) 0 (by unfold U16; decide) (by unfold U16; decide)
  rw [show (T2 (linN (256, false).1 0) == 0 && ownZ (256 * 16) 512 (256, false) 0) = false from by rw [show ownZ (256 * 16) 512 (256, false) 0 = false from by decide]; simp, if_neg (by decide)] at c3
  generalize F (linN (256, false).1 0) = bb at c3
  replace c3 : FF mk k lo 17 [.ptr (.hp c) 0, .agg [.int .u16 256, .bool false, .int .u16 0]] H3 = some (.int .u16 bb, H3.set c ⟨machL gg (fun _ => (256, true)) 0 0 p w (256 * 16) 512 2, true⟩) := c3
  have hcl3 := at_lt h3.hc
  have h4 : HasMach (H3.set c ⟨machL gg (fun _ => (256, true)) 0 0 p w (256 * 16) 512 2, true⟩) c gg (fun _ => (256, true)) 0 0 p w (256 * 16) 512 2 := ⟨List.getElem?_set_self hcl3⟩
  have G5 : Grown H (H3.set c ⟨machL gg (fun _ => (256, true)) 0 0 p w (256 * 16) 512 2, true⟩) := G4.set hc _
  refine Ends.call c3 ?_
  generalize H3.set c ⟨machL gg (fun _ => (256, true)) 0 0 p w (256 * 16) 512 2, true⟩ = H4 at *
  conv => enter [1]; whnf
  refine Ends.call (cstate_F mk k lo (by omega) h4) ?_
  conv => enter [1]; whnf
  refine Ends.call (wide4_F mk k lo (by omega) _) ?_
  conv => enter [1]; whnf
  refine Ends.call (wide3_F mk k lo (by omega) _) ?_
  conv => enter [1]; whnf
  exact Ends.some' ⟨rfl, G5⟩
end Go.Proofs.Ytkjcipdfciajhaa.VM
