/- CoreStack by the plain machine: what is pushed. -/
import Derived.Test.YtkjcipdfciajhaaMU
namespace Go.Proofs.Ytkjcipdfciajhaa.VM
open Go Go.RowKit
set_option linter.unusedVariables false
set_option linter.unusedSimpArgs false
set_option maxRecDepth 40000
set_option maxHeartbeats 1600000
theorem updR_updR (g : Nat → VT) (n : Nat) (x y : VT) : updR (updR g n x) n y = updR g n y := by
  funext i; unfold updR; split <;> rfl
theorem u8_upd2 {f : Nat → Int} {a b : Nat} {v : Int} (hf : ∀ i, U8 (f i)) (hv : U16 v) : ∀ i, U8 (updI (updI f a (v % 256)) b (v / 256) i) := by
  intro i
  unfold updI
  split
  · unfold U8; unfold U16 at hv; omega
  · split
    · unfold U8; omega
    · exact hf i
/-- A stack behind so many words. -/
def Pushed (N : Nat) (H H' : List Blk) (c p w q r : Nat) (sp : Int) (l : List VT) (j : Nat) (f t : Nat → Int) (st : Int) : Prop :=
  HasMach H' c (updR g0 4 (stO sp (2 * j), false)) (fun _ => (256, true)) 0 0 p w (256 * 16) 65536 st ∧ HasMem N H' p q r f t ∧ (∀ i, U8 (f i)) ∧ Grown H H' ∧ (∀ m, 2 * j < m → m < 100 → t (linN 256 (stO sp m)) = 0) ∧
  ((st = 0 ∧ Stk f t sp l j) ∨ (st = 2 ∧ ∃ i, i < j ∧ stO sp (2 * i + 2) = 65535))
theorem push_step (mk : Mk) (k lo : Nat) (hk : 50 ≤ k) {N : Nat} {H H' : List Blk} {c p w q r : Nat} {sp : Int} {l : List VT} {j : Nat} {f t : Nat → Int} {st : Int} (h : Pushed N H H' c p w q r sp l j f t st) (hlo : lo ≤ H.length) (hc : H.length ≤ c) (hq : H.length ≤ q) (hr : H.length ≤ r) (hcq : c ≠ q) (hcr : c ≠ r) (hcp : c ≠ p) (hj : j < l.length) (h20 : j < 20) (hu : U16 l[j].1) :
    Ends (FF mk k lo 8 [.ptr (.hp c) 0, .agg (pairV l[j])] H') fun x => x.1 = .tup [] ∧ ∃ f' t' st', Pushed N H x.2 c p w q r sp l (j + 1) f' t' st' := by
  obtain ⟨hm, mm, hf, hG, hrest, hst⟩ := h
  have hb : (0 : Int) ≤ 256 * 16 ∧ (256 * 16 : Int) < 1048576 := by decide
  have e1 : prv (stO sp (2 * j)) = stO sp (2 * j + 2) := stO_prv sp (2 * j)
  have e2 : nxt (stO sp (2 * j + 2)) = stO sp (2 * j + 1) := stO_nxt sp (2 * j + 1)
  have g4 : (updR g0 4 (stO sp (2 * j), false)) 4 = (stO sp (2 * j), false) := updR_same _ _ _
  have u2 := stO_u16 sp (2 * j + 2)
  have u1 := stO_u16 sp (2 * j + 1)
  have ok : (ownZ (256 * 16) 65536 (256, true) (stO sp (2 * j + 2)) && ownZ (256 * 16) 65536 (256, true) (nxt (stO sp (2 * j + 2)))) = true := by rw [e2, own_st _ u2, own_st _ u1]; rfl
  have cl : (tok t 256 (stO sp (2 * j + 2)) || (t (linN 256 (stO sp (2 * j + 2))) == 0 && t (linN 256 (nxt (stO sp (2 * j + 2)))) == 0)) = true := by
    rw [e2, hrest (2 * j + 2) (by omega) (by omega), hrest (2 * j + 1) (by omega) (by omega)]; simp
  have hus : U16 ((fun _ => ((256 : Int), true) : Nat → VT) 2).1 := by unfold U16; decide
  have hcl := at_lt hm.hc
  by_cases hs : l[j].2 = true ∧ stO sp (2 * j + 2) = 65535
  · obtain ⟨hs1, hs2⟩ := hs
    rcases hst with ⟨rfl, hS⟩ | ⟨rfl, i, hi, hi2⟩
    · rw [hs2] at ok cl
      have c1 := cpushS_F mk k lo hk hm mm (by omega) hf hb l[j].1 hus (by rw [g4]) (by rw [g4]; exact e1.trans hs2) ok cl
      have ey : l[j] = (l[j].1, true) := by rw [← hs1]
      rw [ey]
      refine ⟨_, c1, rfl, f, t, 2, ?_, ?_, hf, ?_, fun m a b => hrest m (by omega) b, .inr ⟨rfl, j, by omega, hs2⟩⟩
      · rw [updR_updR, ← hs2]
        exact ⟨List.getElem?_set_self (by rw [List.length_set]; exact hcl)⟩
      · exact (mm.setc _ hcp hcq hcr).setc _ hcp hcq hcr
      · exact (hG.set hc _).set hc _
    · exact absurd (stO_inj (by omega) (by omega) (hi2.trans hs2.symm)) (by omega)
  · have c1 := cpush_F mk k lo hk hm mm (by omega) (by omega) (by omega) hf hb l[j] hu hus hcq hcr (by rw [g4]) (by rw [g4, e1]; exact ok) (by rw [g4, e1]; exact cl) (by rw [g4, e1]; exact fun a b => hs ⟨a, b⟩)
    rw [g4, e1, e2, updR_updR] at c1
    refine ⟨_, c1, rfl, _, _, st, ⟨List.getElem?_set_self (by rw [putMem_len]; exact hcl)⟩, (mm.put _ _).setc _ hcp hcq hcr, ?_, (putMem_grown hG hq hr _ _).set hc _, fun m a b => ?_, ?_⟩
    · exact u8_upd2 hf hu
    · rw [kindT_ne (pl_ne (by omega) (by omega) (by omega)) (pl_ne (by omega) (by omega) (by omega))]
      exact hrest m (by omega) b
    · rcases hst with ⟨rfl, hS⟩ | ⟨rfl, i, hi, hi2⟩
      · exact .inl ⟨rfl, hS.step hj h20⟩
      · exact .inr ⟨rfl, i, by omega, hi2⟩
theorem pop_step (mk : Mk) (k lo : Nat) (hk : 50 ≤ k) {N : Nat} {H' : List Blk} {c p w q r : Nat} {sp : Int} {l : List VT} {j i : Nat} {f t : Nat → Int} (hm : HasMach H' c (updR g0 4 (stO sp (2 * i + 2), false)) (fun _ => (256, true)) 0 0 p w (256 * 16) 65536 0) (mm : HasMem N H' p q r f t) (hf : ∀ i, U8 (f i)) (hS : Stk f t sp l j) (hc : lo ≤ c) (hi : i < j) (hl : i < l.length) (h20 : j ≤ 20) (hu : U16 l[i].1) (hv : ∀ n : Nat, i = n → True) :
    FF mk k lo 11 [.ptr (.hp c) 0] H' = some (.agg (pairV l[i]), H'.set c ⟨machL (updR g0 4 (stO sp (2 * i), false)) (fun _ => (256, true)) 0 0 p w (256 * 16) 65536 0, true⟩) := by
  have hb : (0 : Int) ≤ 256 * 16 ∧ (256 * 16 : Int) < 1048576 := by decide
  have e2 : nxt (stO sp (2 * i + 2)) = stO sp (2 * i + 1) := stO_nxt sp (2 * i + 1)
  have g4 : (updR g0 4 (stO sp (2 * i + 2), false)) 4 = (stO sp (2 * i + 2), false) := updR_same _ _ _
  have u2 := stO_u16 sp (2 * i + 2)
  have u1 := stO_u16 sp (2 * i + 1)
  obtain ⟨a1, a2, a3, a4⟩ := hS.have' i hl hi
  have ok : (ownZ (256 * 16) 65536 (256, true) (stO sp (2 * i + 2)) && ownZ (256 * 16) 65536 (256, true) (nxt (stO sp (2 * i + 2)))) = true := by rw [e2, own_st _ u2, own_st _ u1]; rfl
  have et : tok t 256 (stO sp (2 * i + 2)) = l[i].2 := by
    unfold tok
    rw [e2, a3, a4]
    cases l[i].2 <;> rfl
  have cl : (tok t 256 (stO sp (2 * i + 2)) || (t (linN 256 (stO sp (2 * i + 2))) == 0 && t (linN 256 (nxt (stO sp (2 * i + 2)))) == 0)) = true := by
    rw [et, e2, a3, a4]
    cases l[i].2 <;> rfl
  have hus : U16 ((fun _ => ((256 : Int), true) : Nat → VT) 2).1 := by unfold U16; decide
  have c1 := cpop_F mk k lo hk hm mm hc hf hb hus (by rw [g4]; exact u2) (by rw [g4]) (by rw [g4]; exact ok) (by rw [g4]; exact cl)
  rw [g4, updR_updR, stO_nx2, e2, et, a1, a2] at c1
  rw [c1]
  have ev : l[i].1 % 256 + 256 * (l[i].1 / 256) = l[i].1 := by omega
  rw [ev]
end Go.Proofs.Ytkjcipdfciajhaa.VM
