/- CoreMemory by the plain machine: the walk. -/
import Derived.Test.YtkjcipdfciajhaaNA
namespace Go.Proofs.Ytkjcipdfciajhaa.VM
open Go Go.RowKit
set_option linter.unusedVariables false
set_option linter.unusedSimpArgs false
set_option maxRecDepth 40000
set_option maxHeartbeats 3200000
theorem lin256 {o : Int} (h : U16 o) : linN 256 o = (4096 + o).toNat := by
  unfold linN linZ; unfold U16 at h; congr 1; omega
theorem nxt_lt {o : Int} (h : 0 ≤ o ∧ o < 65535) : nxt o = o + 1 := by unfold nxt; rw [wu16]; omega
theorem own_in {o : Int} (h : U16 o) (t : Bool) : ownZ (256 * 16) 4096 (256, t) o = (t && decide (o < 4096)) := by
  have e : decide ((linZ 256 o - 256 * 16) % 1048576 < 4096) = decide (o < 4096) := by
    rw [decide_eq_decide]; unfold linZ; unfold U16 at h; omega
  unfold ownZ
  show (t && decide ((linZ 256 o - 256 * 16) % 1048576 < 4096)) = _
  rw [e]
theorem own_yes {o : Int} (h : 0 ≤ o ∧ o < 4095) : (ownZ (256 * 16) 4096 (256, true) o && ownZ (256 * 16) 4096 (256, true) (nxt o)) = true := by
  rw [own_in (by unfold U16; omega), own_in (nxt_u16 o), nxt_lt (by omega)]
  rw [decide_eq_true (by omega), decide_eq_true (by omega)]; rfl
theorem own_no {o : Int} (h : U16 o) (h2 : ¬ o < 4095) : (ownZ (256 * 16) 4096 (256, true) o && ownZ (256 * 16) 4096 (256, true) (nxt o)) = false := by
  rw [own_in h, own_in (nxt_u16 o)]
  by_cases h3 : o < 4096
  · unfold U16 at h
    rw [nxt_lt (by omega), decide_eq_false (p := o + 1 < 4096) (by omega)]; simp
  · rw [decide_eq_false h3]; rfl
theorem own_noT {o : Int} (h : U16 o) : (ownZ (256 * 16) 4096 (256, false) o && ownZ (256 * 16) 4096 (256, false) (nxt o)) = false := by
  rw [own_in h]; rfl
theorem u256 : U16 256 := by unfold U16; decide
theorem hb13 : (0 : Int) ≤ 256 * 16 ∧ (256 * 16 : Int) < 1048576 := by decide
theorem u8_two {f : Nat → Int} {a b : Nat} {v : Int} (hf : ∀ i, U8 (f i)) (hv : U16 v) : ∀ i, U8 (updI (updI f a (v % 256)) b (v / 256) i) := by
  intro i
  unfold updI
  split
  · unfold U8; unfold U16 at hv; omega
  · split
    · unfold U8; omega
    · exact hf i
theorem mach_put2 (N : Nat) {H : List Blk} {c : Nat} {g s : Nat → VT} {ip fl : Int} {p w q r : Nat} {b z st : Int} (h : HasMach H c g s ip fl p w b z st) (hcq : c ≠ q) (hcr : c ≠ r) (f t : Nat → Int) : HasMach (putMem N H q r f t) c g s ip fl p w b z st := by
  refine ⟨?_⟩
  unfold putMem
  rw [List.getElem?_set_ne (Ne.symm hcr), List.getElem?_set_ne (Ne.symm hcq)]
  exact h.hc
/-- A word is written where it may be. -/
theorem setw_ok (mk : Mk) (k lo : Nat) (hk : 40 ≤ k) {N : Nat} {H0 H : List Blk} {c : Nat} {g s : Nat → VT} {ip fl : Int} {p w q r : Nat} {f t : Nat → Int} (h : HasMach H c g s ip fl p w (256 * 16) 4096 0) (hm : HasMem N H p q r f t) (hG : Grown H0 H) (hlo : lo ≤ H0.length) (hq : H0.length ≤ q) (hr : H0.length ≤ r) (hcq : c ≠ q) (hcr : c ≠ r) (hf : ∀ i, U8 (f i)) (y : VT) (o : Int) (ho : 0 ≤ o ∧ o < 4095) (u3 : U16 y.1) (cl : (tok t 256 o || (t (linN 256 o) == 0 && t (linN 256 (nxt o)) == 0)) = true) :
    ∃ H2 f2 t2, FF mk k lo 13 [.ptr (.hp c) 0, .agg (pairV (256, true) ++ [.int .u16 o]), .agg (pairV y)] H = some (.tup [], H2) ∧ HasMach H2 c g s ip fl p w (256 * 16) 4096 0 ∧ HasMem N H2 p q r f2 t2 ∧ Grown H0 H2 ∧ (∀ i, U8 (f2 i)) ∧ f2 (linN 256 o) + 256 * f2 (linN 256 (nxt o)) = y.1 ∧ t2 (linN 256 o) = (if y.2 then 1 else 0) ∧ t2 (linN 256 (nxt o)) = (if y.2 then 2 else 0) ∧ (∀ i, i ≠ linN 256 o → i ≠ linN 256 (nxt o) → t2 i = t i) := by
  have uo : U16 o := by unfold U16; omega
  have c1 := csetw_F mk k lo hk h hm (by omega) (by omega) hf hb13 (256, true) y o u256 uo u3 (own_yes ho) cl (by omega)
  have hne : linN 256 (nxt o) ≠ linN 256 o := by rw [nxt_lt (by omega), lin256 uo, lin256 (by unfold U16; omega)]; omega
  refine ⟨_, _, _, c1, ⟨?_⟩, hm.put _ _, putMem_grown hG hq hr _ _, u8_two hf u3, ?_, ?_, ?_, ?_⟩
  · unfold putMem
    rw [List.getElem?_set_ne (Ne.symm hcr), List.getElem?_set_ne (Ne.symm hcq)]
    exact h.hc
  · unfold U16 at u3
    simp only [updI, if_neg hne.symm, if_true]; omega
  · cases y.2 <;> simp [updI, hne.symm]
  · cases y.2 <;> simp [updI, hne.symm, hne]
  · intro i h1 h2
    cases y.2 <;> simp [updI, h1, h2]
theorem coreMemory_e (mk : Mk) (K lo : Nat) (hK : K = 200) (off : Int) (hoff : U16 off) (y : VT) (hy : U16 y.1) (how : Int) (H : List Blk) (hlo : lo ≤ H.length) :
    Ends (FF mk (K + 1) lo 4 [.int .u16 off, .agg (pairV y), .int .i64 how] H) (fun r => r.1 = .bool true) := by
  obtain ⟨N, hN⟩ : ∃ N, N = 1048576 := ⟨_, rfl⟩
  obtain ⟨a, bb⟩ := y
  conv => enter [1]; whnf
  refine Ends.callE (begin13_F mk K lo (by omega) hN H hlo 256 4096 0 (by unfold U16; decide) (by decide)) (fun v H1 hv => ?_)
  obtain ⟨c, p, w, q, r, hv, h1, m1, g1, hc, hq, hr, hcq, hcr, hcp⟩ := hv
  replace hv : v = .ptr (.hp c) 0 := hv
  subst hv
  replace g1 : Grown H H1 := g1
  have hz : ∀ i : Nat, U8 ((fun _ => (0 : Int) : Nat → Int) i) := fun i => by show (0 : Int) ≤ 0 ∧ (0 : Int) < 256; decide
  conv => enter [1]; whnf
  refine Ends.ite (fun hcc => ?_) (fun hcc => ?_) <;> (conv => enter [1]; whnf)
  · skip
    refine Ends.ite (fun hcd => ?_) (fun hcd => ?_) <;> (conv => enter [1]; whnf)
    · skip
      have ok : (ownZ (256 * 16) 4096 (256, false) off && ownZ (256 * 16) 4096 (256, false) (nxt off)) = false := own_noT hoff
      have c1 := cOwn_F mk K lo (by omega) h1 hb13 (256, false) off u256 hoff
      rw [ok] at c1
      refine Ends.call c1 ?_
      conv => enter [1]; whnf
      refine Ends.call (csetwN_F mk K lo (by omega) h1 m1 (by omega) hz hb13 (256, false) (a, bb) off u256 hoff ok) ?_
      conv => enter [1]; whnf
      have hcl := at_lt h1.hc
      have h2 : HasMach (H1.set c ⟨machL (updR g0 4 (0, false)) (fun _ => (256, true)) 0 0 p w (256 * 16) 4096 2, true⟩) c (updR g0 4 (0, false)) (fun _ => (256, true)) 0 0 p w (256 * 16) 4096 2 := ⟨List.getElem?_set_self hcl⟩
      have m2 := m1.setc ⟨machL (updR g0 4 (0, false)) (fun _ => (256, true)) 0 0 p w (256 * 16) 4096 2, true⟩ hcp hcq hcr
      have g2 := g1.set hc ⟨machL (updR g0 4 (0, false)) (fun _ => (256, true)) 0 0 p w (256 * 16) 4096 2, true⟩
      generalize H1.set c ⟨machL (updR g0 4 (0, false)) (fun _ => (256, true)) 0 0 p w (256 * 16) 4096 2, true⟩ = H2 at h2 m2 g2 ⊢
      refine Ends.opt (h2.get _) ?_
      conv => enter [1]; whnf
      refine Ends.call (mword_F mk K lo (by omega) m2 hz 256 off u256 hoff) ?_
      conv => enter [1]; whnf
      refine Ends.callE (awake13_F mk K lo (by omega) H2 (by have := g2.len; omega)) (fun v H3 hv => ?_)
      obtain ⟨hv, g3⟩ := hv
      replace hv : v = .bool true := hv
      replace g3 : Grown H2 H3 := g3
      subst hv
      conv => enter [1]; whnf
      have h3 : HasMach H3 c (updR g0 4 (0, false)) (fun _ => (256, true)) 0 0 p w (256 * 16) 4096 2 := ⟨g3.at h2.hc⟩
      refine Ends.call (cstate_F mk K lo (by omega) h3) ?_
      conv => enter [1]; whnf
      refine Ends.iteF (eqBadVal mk) ?_
      conv => enter [1]; whnf
      exact Ends.some' rfl

    · by_cases hlt : 0 ≤ off ∧ off < 4095
      · skip
        have c1 := cOwn_F mk K lo (by omega) h1 hb13 (256, true) off u256 hoff
        rw [own_yes hlt] at c1
        refine Ends.call c1 ?_
        conv => enter [1]; whnf
        obtain ⟨H2, f2, t2, c2, h2, m2, g2, u2, e1, e2, e3, e4⟩ := setw_ok mk K lo (by omega) h1 m1 g1 hlo hq hr hcq hcr hz (a, bb) off hlt hy rfl
        refine Ends.call c2 ?_
        conv => enter [1]; whnf
        refine Ends.call (cstate_F mk K lo (by omega) h2) ?_
        conv => enter [1]; whnf
        have cl2 : (tok t2 256 off || (t2 (linN 256 off) == 0 && t2 (linN 256 (nxt off)) == 0)) = true := by
          unfold tok
          rw [e2, e3]
          cases bb <;> rfl
        have et : tok t2 256 off = bb := by
          unfold tok
          rw [e2, e3]
          cases bb <;> rfl
        have c3 := cword_F mk K lo (by omega) h2 m2 u2 hb13 (256, true) off u256 hoff (own_yes hlt) cl2
        rw [show f2 (linN (256, true).1 off) + 256 * f2 (linN (256, true).1 (nxt off)) = a from e1, show tok t2 (256, true).1 off = bb from et] at c3
        refine Ends.call c3 ?_
        conv => enter [1]; whnf
        refine Ends.iteF (eqBadVal mk) ?_
        conv => enter [1]; whnf
        refine Ends.iteT (by simp) ?_
        conv => enter [1]; whnf
        refine Ends.call (cstate_F mk K lo (by omega) h2) ?_
        conv => enter [1]; whnf
        have own1 : ownZ (256 * 16) 4096 (256, true) off = true := by rw [own_in hoff, decide_eq_true (by omega)]; rfl
        refine Ends.ite (fun s1 => ?_) (fun s1 => ?_) <;> (conv => enter [1]; whnf)
        · cases bb
          · have cl4 : (t2 (linN 256 off) == 0) = true := by rw [e2]; rfl
            have c4 := csetb_F mk K lo (by omega) h2 m2 (by omega) (by omega) hb13 (256, true) off 9 u256 hoff own1 cl4
            refine Ends.call c4 ?_
            have h4 := mach_put2 N h2 hcq hcr (updI f2 (linN (256, true).1 off) 9) (updI t2 (linN (256, true).1 off) 0)
            have g4 := putMem_grown (N := N) g2 hq hr (updI f2 (linN (256, true).1 off) 9) (updI t2 (linN (256, true).1 off) 0)
            generalize putMem N H2 q r (updI f2 (linN (256, true).1 off) 9) (updI t2 (linN (256, true).1 off) 0) = H4 at h4 g4 ⊢
            conv => enter [1]; whnf
            refine Ends.callE (awake13_F mk K lo (by omega) H4 (by have := g4.len; omega)) (fun v H9 hv => ?_)
            obtain ⟨hv, g9⟩ := hv
            replace hv : v = .bool true := hv
            replace g9 : Grown H4 H9 := g9
            subst hv
            conv => enter [1]; whnf
            have h9 : HasMach H9 c (updR g0 4 (0, false)) (fun _ => (256, true)) 0 0 p w (256 * 16) 4096 0 := ⟨g9.at h4.hc⟩
            refine Ends.call (cstate_F mk K lo (by omega) h9) ?_
            conv => enter [1]; whnf
            exact Ends.some' rfl
          · have cl4 : (t2 (linN 256 off) == 0) = false := by rw [e2]; rfl
            refine Ends.call (csetbT_F mk K lo (by omega) h2 m2 (by omega) hb13 (256, true) off 9 u256 hoff own1 cl4) ?_
            have hcl2 := at_lt h2.hc
            have h4 : HasMach (H2.set c ⟨machL (updR g0 4 (0, false)) (fun _ => (256, true)) 0 0 p w (256 * 16) 4096 2, true⟩) c (updR g0 4 (0, false)) (fun _ => (256, true)) 0 0 p w (256 * 16) 4096 2 := ⟨List.getElem?_set_self hcl2⟩
            have g4 := g2.set hc ⟨machL (updR g0 4 (0, false)) (fun _ => (256, true)) 0 0 p w (256 * 16) 4096 2, true⟩
            generalize H2.set c ⟨machL (updR g0 4 (0, false)) (fun _ => (256, true)) 0 0 p w (256 * 16) 4096 2, true⟩ = H4 at h4 g4 ⊢
            conv => enter [1]; whnf
            refine Ends.callE (awake13_F mk K lo (by omega) H4 (by have := g4.len; omega)) (fun v H9 hv => ?_)
            obtain ⟨hv, g9⟩ := hv
            replace hv : v = .bool true := hv
            replace g9 : Grown H4 H9 := g9
            subst hv
            conv => enter [1]; whnf
            have h9 : HasMach H9 c (updR g0 4 (0, false)) (fun _ => (256, true)) 0 0 p w (256 * 16) 4096 2 := ⟨g9.at h4.hc⟩
            refine Ends.call (cstate_F mk K lo (by omega) h9) ?_
            conv => enter [1]; whnf
            exact Ends.some' rfl
        refine Ends.ite (fun s2 => ?_) (fun s2 => ?_) <;> (conv => enter [1]; whnf)
        · have c4 := cbyte_F mk K lo (by omega) h2 m2 (by omega) u2 hb13 (256, true) off u256 hoff
          cases bb
          · have cl4 : (t2 (linN (256, true).1 off) == 0) = true := by rw [show (((256 : Int), true).1) = 256 from rfl, e2]; rfl
            rw [cl4, own1, if_pos (by decide)] at c4
            refine Ends.call c4 ?_
            conv => enter [1]; whnf
            refine Ends.callE (awake13_F mk K lo (by omega) H2 (by have := g2.len; omega)) (fun v H9 hv => ?_)
            obtain ⟨hv, g9⟩ := hv
            replace hv : v = .bool true := hv
            replace g9 : Grown H2 H9 := g9
            subst hv
            conv => enter [1]; whnf
            have h9 : HasMach H9 c (updR g0 4 (0, false)) (fun _ => (256, true)) 0 0 p w (256 * 16) 4096 0 := ⟨g9.at h2.hc⟩
            refine Ends.call (cstate_F mk K lo (by omega) h9) ?_
            conv => enter [1]; whnf
            exact Ends.some' rfl
          · have cl4 : (t2 (linN (256, true).1 off) == 0) = false := by rw [show (((256 : Int), true).1) = 256 from rfl, e2]; rfl
            rw [cl4, own1, if_neg (by decide)] at c4
            refine Ends.call c4 ?_
            have hcl2 := at_lt h2.hc
            have h4 : HasMach (H2.set c ⟨machL (updR g0 4 (0, false)) (fun _ => (256, true)) 0 0 p w (256 * 16) 4096 2, true⟩) c (updR g0 4 (0, false)) (fun _ => (256, true)) 0 0 p w (256 * 16) 4096 2 := ⟨List.getElem?_set_self hcl2⟩
            have g4 := g2.set hc ⟨machL (updR g0 4 (0, false)) (fun _ => (256, true)) 0 0 p w (256 * 16) 4096 2, true⟩
            generalize H2.set c ⟨machL (updR g0 4 (0, false)) (fun _ => (256, true)) 0 0 p w (256 * 16) 4096 2, true⟩ = H4 at h4 g4 ⊢
            conv => enter [1]; whnf
            refine Ends.callE (awake13_F mk K lo (by omega) H4 (by have := g4.len; omega)) (fun v H9 hv => ?_)
            obtain ⟨hv, g9⟩ := hv
            replace hv : v = .bool true := hv
            replace g9 : Grown H4 H9 := g9
            subst hv
            conv => enter [1]; whnf
            have h9 : HasMach H9 c (updR g0 4 (0, false)) (fun _ => (256, true)) 0 0 p w (256 * 16) 4096 2 := ⟨g9.at h4.hc⟩
            refine Ends.call (cstate_F mk K lo (by omega) h9) ?_
            conv => enter [1]; whnf
            exact Ends.some' rfl
        refine Ends.ite (fun s3 => ?_) (fun s3 => ?_) <;> (conv => enter [1]; whnf)
        · have hnx : nxt off = off + 1 := nxt_lt (by omega)
          by_cases hl2 : 0 ≤ nxt off ∧ nxt off < 4095
          · have c4 := cOwn_F mk K lo (by omega) h2 hb13 (256, true) (nxt off) u256 (nxt_u16 _)
            rw [own_yes hl2] at c4
            refine Ends.call c4 ?_
            conv => enter [1]; whnf
            cases bb
            · have hx : linN 256 (nxt (nxt off)) = (4096 + (off + 2)).toNat := by rw [lin256 (nxt_u16 _), nxt_lt (by omega), hnx]; congr 1; omega
              have hz2 : t2 (linN 256 (nxt (nxt off))) = 0 := by
                rw [e4 _ (by rw [hx, lin256 hoff]; omega) (by rw [hx, lin256 (nxt_u16 _), hnx]; omega)]
              obtain ⟨H4, f4, t4, c5, h4, m4, g4, _⟩ := setw_ok mk K lo (by omega) h2 m2 g2 hlo hq hr hcq hcr u2 (3, false) (nxt off) hl2 (by unfold U16; decide) (by unfold tok; rw [e3, hz2]; rfl)
              refine Ends.call c5 ?_
              conv => enter [1]; whnf
              refine Ends.callE (awake13_F mk K lo (by omega) H4 (by have := g4.len; omega)) (fun v H9 hv => ?_)
              obtain ⟨hv, g9⟩ := hv
              replace hv : v = .bool true := hv
              replace g9 : Grown H4 H9 := g9
              subst hv
              conv => enter [1]; whnf
              have h9 : HasMach H9 c (updR g0 4 (0, false)) (fun _ => (256, true)) 0 0 p w (256 * 16) 4096 0 := ⟨g9.at h4.hc⟩
              refine Ends.call (cstate_F mk K lo (by omega) h9) ?_
              conv => enter [1]; whnf
              exact Ends.some' rfl
            · have c5 := csetwU_F mk K lo (by omega) h2 m2 (by omega) u2 hb13 (256, true) (3, false) (nxt off) u256 (nxt_u16 _) (own_yes hl2) (by unfold tok; rw [show (((256 : Int), true).1) = 256 from rfl, e3]; rfl)
              refine Ends.call c5 ?_
              have hcl2 := at_lt h2.hc
              have h4 : HasMach (H2.set c ⟨machL (updR g0 4 (0, false)) (fun _ => (256, true)) 0 0 p w (256 * 16) 4096 2, true⟩) c (updR g0 4 (0, false)) (fun _ => (256, true)) 0 0 p w (256 * 16) 4096 2 := ⟨List.getElem?_set_self hcl2⟩
              have g4 := g2.set hc ⟨machL (updR g0 4 (0, false)) (fun _ => (256, true)) 0 0 p w (256 * 16) 4096 2, true⟩
              generalize H2.set c ⟨machL (updR g0 4 (0, false)) (fun _ => (256, true)) 0 0 p w (256 * 16) 4096 2, true⟩ = H4 at h4 g4 ⊢
              conv => enter [1]; whnf
              refine Ends.callE (awake13_F mk K lo (by omega) H4 (by have := g4.len; omega)) (fun v H9 hv => ?_)
              obtain ⟨hv, g9⟩ := hv
              replace hv : v = .bool true := hv
              replace g9 : Grown H4 H9 := g9
              subst hv
              conv => enter [1]; whnf
              have h9 : HasMach H9 c (updR g0 4 (0, false)) (fun _ => (256, true)) 0 0 p w (256 * 16) 4096 2 := ⟨g9.at h4.hc⟩
              refine Ends.call (cstate_F mk K lo (by omega) h9) ?_
              conv => enter [1]; whnf
              exact Ends.some' rfl
          · have c4 := cOwn_F mk K lo (by omega) h2 hb13 (256, true) (nxt off) u256 (nxt_u16 _)
            rw [own_no (nxt_u16 _) (by omega)] at c4
            refine Ends.call c4 ?_
            conv => enter [1]; whnf
            refine Ends.callE (awake13_F mk K lo (by omega) H2 (by have := g2.len; omega)) (fun v H9 hv => ?_)
            obtain ⟨hv, g9⟩ := hv
            replace hv : v = .bool true := hv
            replace g9 : Grown H2 H9 := g9
            subst hv
            conv => enter [1]; whnf
            exact Ends.some' rfl
        obtain ⟨H4, f4, t4, c5, h4, m4, g4, u4, d1, d2, d3, _⟩ := setw_ok mk K lo (by omega) h2 m2 g2 hlo hq hr hcq hcr u2 (3, false) off hlt (by unfold U16; decide) cl2
        refine Ends.call c5 ?_
        conv => enter [1]; whnf
        refine Ends.callE (awake13_F mk K lo (by omega) H4 (by have := g4.len; omega)) (fun v H9 hv => ?_)
        obtain ⟨hv, g9⟩ := hv
        replace hv : v = .bool true := hv
        replace g9 : Grown H4 H9 := g9
        subst hv
        conv => enter [1]; whnf
        have h9 : HasMach H9 c (updR g0 4 (0, false)) (fun _ => (256, true)) 0 0 p w (256 * 16) 4096 0 := ⟨g9.at h4.hc⟩
        refine Ends.call (cstate_F mk K lo (by omega) h9) ?_
        conv => enter [1]; whnf
        have m9 := m4.grow g9
        have cl5 : (tok t4 256 off || (t4 (linN 256 off) == 0 && t4 (linN 256 (nxt off)) == 0)) = true := by
          unfold tok
          rw [d2, d3]; rfl
        have et5 : tok t4 256 off = false := by
          unfold tok
          rw [d2, d3]; rfl
        have c6 := cword_F mk K lo (by omega) h9 m9 u4 hb13 (256, true) off u256 hoff (own_yes hlt) cl5
        rw [show f4 (linN (256, true).1 off) + 256 * f4 (linN (256, true).1 (nxt off)) = 3 from d1, show tok t4 (256, true).1 off = false from et5] at c6
        refine Ends.call c6 ?_
        conv => enter [1]; whnf
        refine Ends.iteF (eqBadVal mk) ?_
        conv => enter [1]; whnf
        exact Ends.some' rfl

      · have hn : ¬ off < 4095 := fun w => hlt ⟨hoff.1, w⟩
        have ok : (ownZ (256 * 16) 4096 (256, true) off && ownZ (256 * 16) 4096 (256, true) (nxt off)) = false := own_no hoff hn
        have c1 := cOwn_F mk K lo (by omega) h1 hb13 (256, true) off u256 hoff
        rw [ok] at c1
        refine Ends.call c1 ?_
        conv => enter [1]; whnf
        refine Ends.call (csetwN_F mk K lo (by omega) h1 m1 (by omega) hz hb13 (256, true) (a, bb) off u256 hoff ok) ?_
        conv => enter [1]; whnf
        have hcl := at_lt h1.hc
        have h2 : HasMach (H1.set c ⟨machL (updR g0 4 (0, false)) (fun _ => (256, true)) 0 0 p w (256 * 16) 4096 2, true⟩) c (updR g0 4 (0, false)) (fun _ => (256, true)) 0 0 p w (256 * 16) 4096 2 := ⟨List.getElem?_set_self hcl⟩
        have m2 := m1.setc ⟨machL (updR g0 4 (0, false)) (fun _ => (256, true)) 0 0 p w (256 * 16) 4096 2, true⟩ hcp hcq hcr
        have g2 := g1.set hc ⟨machL (updR g0 4 (0, false)) (fun _ => (256, true)) 0 0 p w (256 * 16) 4096 2, true⟩
        generalize H1.set c ⟨machL (updR g0 4 (0, false)) (fun _ => (256, true)) 0 0 p w (256 * 16) 4096 2, true⟩ = H2 at h2 m2 g2 ⊢
        refine Ends.opt (h2.get _) ?_
        conv => enter [1]; whnf
        refine Ends.call (mword_F mk K lo (by omega) m2 hz 256 off u256 hoff) ?_
        conv => enter [1]; whnf
        refine Ends.callE (awake13_F mk K lo (by omega) H2 (by have := g2.len; omega)) (fun v H3 hv => ?_)
        obtain ⟨hv, g3⟩ := hv
        replace hv : v = .bool true := hv
        replace g3 : Grown H2 H3 := g3
        subst hv
        conv => enter [1]; whnf
        have h3 : HasMach H3 c (updR g0 4 (0, false)) (fun _ => (256, true)) 0 0 p w (256 * 16) 4096 2 := ⟨g3.at h2.hc⟩
        refine Ends.call (cstate_F mk K lo (by omega) h3) ?_
        conv => enter [1]; whnf
        refine Ends.iteF (eqBadVal mk) ?_
        conv => enter [1]; whnf
        exact Ends.some' rfl
  · have ho : U16 (IntKind.u16.wrap ((BitVec.ofInt IntKind.u16.bits off &&& BitVec.ofInt IntKind.u16.bits 2047).toNat : Nat)) := by unfold U16; rw [wu16]; omega
    generalize IntKind.u16.wrap ((BitVec.ofInt IntKind.u16.bits off &&& BitVec.ofInt IntKind.u16.bits 2047).toNat : Nat) = o at ho ⊢
    refine Ends.ite (fun hcd => ?_) (fun hcd => ?_) <;> (conv => enter [1]; whnf)
    · skip
      have ok : (ownZ (256 * 16) 4096 (256, false) o && ownZ (256 * 16) 4096 (256, false) (nxt o)) = false := own_noT ho
      have c1 := cOwn_F mk K lo (by omega) h1 hb13 (256, false) o u256 ho
      rw [ok] at c1
      refine Ends.call c1 ?_
      conv => enter [1]; whnf
      refine Ends.call (csetwN_F mk K lo (by omega) h1 m1 (by omega) hz hb13 (256, false) (a, bb) o u256 ho ok) ?_
      conv => enter [1]; whnf
      have hcl := at_lt h1.hc
      have h2 : HasMach (H1.set c ⟨machL (updR g0 4 (0, false)) (fun _ => (256, true)) 0 0 p w (256 * 16) 4096 2, true⟩) c (updR g0 4 (0, false)) (fun _ => (256, true)) 0 0 p w (256 * 16) 4096 2 := ⟨List.getElem?_set_self hcl⟩
      have m2 := m1.setc ⟨machL (updR g0 4 (0, false)) (fun _ => (256, true)) 0 0 p w (256 * 16) 4096 2, true⟩ hcp hcq hcr
      have g2 := g1.set hc ⟨machL (updR g0 4 (0, false)) (fun _ => (256, true)) 0 0 p w (256 * 16) 4096 2, true⟩
      generalize H1.set c ⟨machL (updR g0 4 (0, false)) (fun _ => (256, true)) 0 0 p w (256 * 16) 4096 2, true⟩ = H2 at h2 m2 g2 ⊢
      refine Ends.opt (h2.get _) ?_
      conv => enter [1]; whnf
      refine Ends.call (mword_F mk K lo (by omega) m2 hz 256 o u256 ho) ?_
      conv => enter [1]; whnf
      refine Ends.callE (awake13_F mk K lo (by omega) H2 (by have := g2.len; omega)) (fun v H3 hv => ?_)
      obtain ⟨hv, g3⟩ := hv
      replace hv : v = .bool true := hv
      replace g3 : Grown H2 H3 := g3
      subst hv
      conv => enter [1]; whnf
      have h3 : HasMach H3 c (updR g0 4 (0, false)) (fun _ => (256, true)) 0 0 p w (256 * 16) 4096 2 := ⟨g3.at h2.hc⟩
      refine Ends.call (cstate_F mk K lo (by omega) h3) ?_
      conv => enter [1]; whnf
      refine Ends.iteF (eqBadVal mk) ?_
      conv => enter [1]; whnf
      exact Ends.some' rfl

    · by_cases hlt : 0 ≤ o ∧ o < 4095
      · skip
        have c1 := cOwn_F mk K lo (by omega) h1 hb13 (256, true) o u256 ho
        rw [own_yes hlt] at c1
        refine Ends.call c1 ?_
        conv => enter [1]; whnf
        obtain ⟨H2, f2, t2, c2, h2, m2, g2, u2, e1, e2, e3, e4⟩ := setw_ok mk K lo (by omega) h1 m1 g1 hlo hq hr hcq hcr hz (a, bb) o hlt hy rfl
        refine Ends.call c2 ?_
        conv => enter [1]; whnf
        refine Ends.call (cstate_F mk K lo (by omega) h2) ?_
        conv => enter [1]; whnf
        have cl2 : (tok t2 256 o || (t2 (linN 256 o) == 0 && t2 (linN 256 (nxt o)) == 0)) = true := by
          unfold tok
          rw [e2, e3]
          cases bb <;> rfl
        have et : tok t2 256 o = bb := by
          unfold tok
          rw [e2, e3]
          cases bb <;> rfl
        have c3 := cword_F mk K lo (by omega) h2 m2 u2 hb13 (256, true) o u256 ho (own_yes hlt) cl2
        rw [show f2 (linN (256, true).1 o) + 256 * f2 (linN (256, true).1 (nxt o)) = a from e1, show tok t2 (256, true).1 o = bb from et] at c3
        refine Ends.call c3 ?_
        conv => enter [1]; whnf
        refine Ends.iteF (eqBadVal mk) ?_
        conv => enter [1]; whnf
        refine Ends.iteT (by simp) ?_
        conv => enter [1]; whnf
        refine Ends.call (cstate_F mk K lo (by omega) h2) ?_
        conv => enter [1]; whnf
        have own1 : ownZ (256 * 16) 4096 (256, true) o = true := by rw [own_in ho, decide_eq_true (by omega)]; rfl
        refine Ends.ite (fun s1 => ?_) (fun s1 => ?_) <;> (conv => enter [1]; whnf)
        · cases bb
          · have cl4 : (t2 (linN 256 o) == 0) = true := by rw [e2]; rfl
            have c4 := csetb_F mk K lo (by omega) h2 m2 (by omega) (by omega) hb13 (256, true) o 9 u256 ho own1 cl4
            refine Ends.call c4 ?_
            have h4 := mach_put2 N h2 hcq hcr (updI f2 (linN (256, true).1 o) 9) (updI t2 (linN (256, true).1 o) 0)
            have g4 := putMem_grown (N := N) g2 hq hr (updI f2 (linN (256, true).1 o) 9) (updI t2 (linN (256, true).1 o) 0)
            generalize putMem N H2 q r (updI f2 (linN (256, true).1 o) 9) (updI t2 (linN (256, true).1 o) 0) = H4 at h4 g4 ⊢
            conv => enter [1]; whnf
            refine Ends.callE (awake13_F mk K lo (by omega) H4 (by have := g4.len; omega)) (fun v H9 hv => ?_)
            obtain ⟨hv, g9⟩ := hv
            replace hv : v = .bool true := hv
            replace g9 : Grown H4 H9 := g9
            subst hv
            conv => enter [1]; whnf
            have h9 : HasMach H9 c (updR g0 4 (0, false)) (fun _ => (256, true)) 0 0 p w (256 * 16) 4096 0 := ⟨g9.at h4.hc⟩
            refine Ends.call (cstate_F mk K lo (by omega) h9) ?_
            conv => enter [1]; whnf
            exact Ends.some' rfl
          · have cl4 : (t2 (linN 256 o) == 0) = false := by rw [e2]; rfl
            refine Ends.call (csetbT_F mk K lo (by omega) h2 m2 (by omega) hb13 (256, true) o 9 u256 ho own1 cl4) ?_
            have hcl2 := at_lt h2.hc
            have h4 : HasMach (H2.set c ⟨machL (updR g0 4 (0, false)) (fun _ => (256, true)) 0 0 p w (256 * 16) 4096 2, true⟩) c (updR g0 4 (0, false)) (fun _ => (256, true)) 0 0 p w (256 * 16) 4096 2 := ⟨List.getElem?_set_self hcl2⟩
            have g4 := g2.set hc ⟨machL (updR g0 4 (0, false)) (fun _ => (256, true)) 0 0 p w (256 * 16) 4096 2, true⟩
            generalize H2.set c ⟨machL (updR g0 4 (0, false)) (fun _ => (256, true)) 0 0 p w (256 * 16) 4096 2, true⟩ = H4 at h4 g4 ⊢
            conv => enter [1]; whnf
            refine Ends.callE (awake13_F mk K lo (by omega) H4 (by have := g4.len; omega)) (fun v H9 hv => ?_)
            obtain ⟨hv, g9⟩ := hv
            replace hv : v = .bool true := hv
            replace g9 : Grown H4 H9 := g9
            subst hv
            conv => enter [1]; whnf
            have h9 : HasMach H9 c (updR g0 4 (0, false)) (fun _ => (256, true)) 0 0 p w (256 * 16) 4096 2 := ⟨g9.at h4.hc⟩
            refine Ends.call (cstate_F mk K lo (by omega) h9) ?_
            conv => enter [1]; whnf
            exact Ends.some' rfl
        refine Ends.ite (fun s2 => ?_) (fun s2 => ?_) <;> (conv => enter [1]; whnf)
        · have c4 := cbyte_F mk K lo (by omega) h2 m2 (by omega) u2 hb13 (256, true) o u256 ho
          cases bb
          · have cl4 : (t2 (linN (256, true).1 o) == 0) = true := by rw [show (((256 : Int), true).1) = 256 from rfl, e2]; rfl
            rw [cl4, own1, if_pos (by decide)] at c4
            refine Ends.call c4 ?_
            conv => enter [1]; whnf
            refine Ends.callE (awake13_F mk K lo (by omega) H2 (by have := g2.len; omega)) (fun v H9 hv => ?_)
            obtain ⟨hv, g9⟩ := hv
            replace hv : v = .bool true := hv
            replace g9 : Grown H2 H9 := g9
            subst hv
            conv => enter [1]; whnf
            have h9 : HasMach H9 c (updR g0 4 (0, false)) (fun _ => (256, true)) 0 0 p w (256 * 16) 4096 0 := ⟨g9.at h2.hc⟩
            refine Ends.call (cstate_F mk K lo (by omega) h9) ?_
            conv => enter [1]; whnf
            exact Ends.some' rfl
          · have cl4 : (t2 (linN (256, true).1 o) == 0) = false := by rw [show (((256 : Int), true).1) = 256 from rfl, e2]; rfl
            rw [cl4, own1, if_neg (by decide)] at c4
            refine Ends.call c4 ?_
            have hcl2 := at_lt h2.hc
            have h4 : HasMach (H2.set c ⟨machL (updR g0 4 (0, false)) (fun _ => (256, true)) 0 0 p w (256 * 16) 4096 2, true⟩) c (updR g0 4 (0, false)) (fun _ => (256, true)) 0 0 p w (256 * 16) 4096 2 := ⟨List.getElem?_set_self hcl2⟩
            have g4 := g2.set hc ⟨machL (updR g0 4 (0, false)) (fun _ => (256, true)) 0 0 p w (256 * 16) 4096 2, true⟩
            generalize H2.set c ⟨machL (updR g0 4 (0, false)) (fun _ => (256, true)) 0 0 p w (256 * 16) 4096 2, true⟩ = H4 at h4 g4 ⊢
            conv => enter [1]; whnf
            refine Ends.callE (awake13_F mk K lo (by omega) H4 (by have := g4.len; omega)) (fun v H9 hv => ?_)
            obtain ⟨hv, g9⟩ := hv
            replace hv : v = .bool true := hv
            replace g9 : Grown H4 H9 := g9
            subst hv
            conv => enter [1]; whnf
            have h9 : HasMach H9 c (updR g0 4 (0, false)) (fun _ => (256, true)) 0 0 p w (256 * 16) 4096 2 := ⟨g9.at h4.hc⟩
            refine Ends.call (cstate_F mk K lo (by omega) h9) ?_
            conv => enter [1]; whnf
            exact Ends.some' rfl
        refine Ends.ite (fun s3 => ?_) (fun s3 => ?_) <;> (conv => enter [1]; whnf)
        · have hnx : nxt o = o + 1 := nxt_lt (by omega)
          by_cases hl2 : 0 ≤ nxt o ∧ nxt o < 4095
          · have c4 := cOwn_F mk K lo (by omega) h2 hb13 (256, true) (nxt o) u256 (nxt_u16 _)
            rw [own_yes hl2] at c4
            refine Ends.call c4 ?_
            conv => enter [1]; whnf
            cases bb
            · have hx : linN 256 (nxt (nxt o)) = (4096 + (o + 2)).toNat := by rw [lin256 (nxt_u16 _), nxt_lt (by omega), hnx]; congr 1; omega
              have hz2 : t2 (linN 256 (nxt (nxt o))) = 0 := by
                rw [e4 _ (by rw [hx, lin256 ho]; omega) (by rw [hx, lin256 (nxt_u16 _), hnx]; omega)]
              obtain ⟨H4, f4, t4, c5, h4, m4, g4, _⟩ := setw_ok mk K lo (by omega) h2 m2 g2 hlo hq hr hcq hcr u2 (3, false) (nxt o) hl2 (by unfold U16; decide) (by unfold tok; rw [e3, hz2]; rfl)
              refine Ends.call c5 ?_
              conv => enter [1]; whnf
              refine Ends.callE (awake13_F mk K lo (by omega) H4 (by have := g4.len; omega)) (fun v H9 hv => ?_)
              obtain ⟨hv, g9⟩ := hv
              replace hv : v = .bool true := hv
              replace g9 : Grown H4 H9 := g9
              subst hv
              conv => enter [1]; whnf
              have h9 : HasMach H9 c (updR g0 4 (0, false)) (fun _ => (256, true)) 0 0 p w (256 * 16) 4096 0 := ⟨g9.at h4.hc⟩
              refine Ends.call (cstate_F mk K lo (by omega) h9) ?_
              conv => enter [1]; whnf
              exact Ends.some' rfl
            · have c5 := csetwU_F mk K lo (by omega) h2 m2 (by omega) u2 hb13 (256, true) (3, false) (nxt o) u256 (nxt_u16 _) (own_yes hl2) (by unfold tok; rw [show (((256 : Int), true).1) = 256 from rfl, e3]; rfl)
              refine Ends.call c5 ?_
              have hcl2 := at_lt h2.hc
              have h4 : HasMach (H2.set c ⟨machL (updR g0 4 (0, false)) (fun _ => (256, true)) 0 0 p w (256 * 16) 4096 2, true⟩) c (updR g0 4 (0, false)) (fun _ => (256, true)) 0 0 p w (256 * 16) 4096 2 := ⟨List.getElem?_set_self hcl2⟩
              have g4 := g2.set hc ⟨machL (updR g0 4 (0, false)) (fun _ => (256, true)) 0 0 p w (256 * 16) 4096 2, true⟩
              generalize H2.set c ⟨machL (updR g0 4 (0, false)) (fun _ => (256, true)) 0 0 p w (256 * 16) 4096 2, true⟩ = H4 at h4 g4 ⊢
              conv => enter [1]; whnf
              refine Ends.callE (awake13_F mk K lo (by omega) H4 (by have := g4.len; omega)) (fun v H9 hv => ?_)
              obtain ⟨hv, g9⟩ := hv
              replace hv : v = .bool true := hv
              replace g9 : Grown H4 H9 := g9
              subst hv
              conv => enter [1]; whnf
              have h9 : HasMach H9 c (updR g0 4 (0, false)) (fun _ => (256, true)) 0 0 p w (256 * 16) 4096 2 := ⟨g9.at h4.hc⟩
              refine Ends.call (cstate_F mk K lo (by omega) h9) ?_
              conv => enter [1]; whnf
              exact Ends.some' rfl
          · have c4 := cOwn_F mk K lo (by omega) h2 hb13 (256, true) (nxt o) u256 (nxt_u16 _)
            rw [own_no (nxt_u16 _) (by omega)] at c4
            refine Ends.call c4 ?_
            conv => enter [1]; whnf
            refine Ends.callE (awake13_F mk K lo (by omega) H2 (by have := g2.len; omega)) (fun v H9 hv => ?_)
            obtain ⟨hv, g9⟩ := hv
            replace hv : v = .bool true := hv
            replace g9 : Grown H2 H9 := g9
            subst hv
            conv => enter [1]; whnf
            exact Ends.some' rfl
        obtain ⟨H4, f4, t4, c5, h4, m4, g4, u4, d1, d2, d3, _⟩ := setw_ok mk K lo (by omega) h2 m2 g2 hlo hq hr hcq hcr u2 (3, false) o hlt (by unfold U16; decide) cl2
        refine Ends.call c5 ?_
        conv => enter [1]; whnf
        refine Ends.callE (awake13_F mk K lo (by omega) H4 (by have := g4.len; omega)) (fun v H9 hv => ?_)
        obtain ⟨hv, g9⟩ := hv
        replace hv : v = .bool true := hv
        replace g9 : Grown H4 H9 := g9
        subst hv
        conv => enter [1]; whnf
        have h9 : HasMach H9 c (updR g0 4 (0, false)) (fun _ => (256, true)) 0 0 p w (256 * 16) 4096 0 := ⟨g9.at h4.hc⟩
        refine Ends.call (cstate_F mk K lo (by omega) h9) ?_
        conv => enter [1]; whnf
        have m9 := m4.grow g9
        have cl5 : (tok t4 256 o || (t4 (linN 256 o) == 0 && t4 (linN 256 (nxt o)) == 0)) = true := by
          unfold tok
          rw [d2, d3]; rfl
        have et5 : tok t4 256 o = false := by
          unfold tok
          rw [d2, d3]; rfl
        have c6 := cword_F mk K lo (by omega) h9 m9 u4 hb13 (256, true) o u256 ho (own_yes hlt) cl5
        rw [show f4 (linN (256, true).1 o) + 256 * f4 (linN (256, true).1 (nxt o)) = 3 from d1, show tok t4 (256, true).1 o = false from et5] at c6
        refine Ends.call c6 ?_
        conv => enter [1]; whnf
        refine Ends.iteF (eqBadVal mk) ?_
        conv => enter [1]; whnf
        exact Ends.some' rfl

      · have hn : ¬ o < 4095 := fun w => hlt ⟨ho.1, w⟩
        have ok : (ownZ (256 * 16) 4096 (256, true) o && ownZ (256 * 16) 4096 (256, true) (nxt o)) = false := own_no ho hn
        have c1 := cOwn_F mk K lo (by omega) h1 hb13 (256, true) o u256 ho
        rw [ok] at c1
        refine Ends.call c1 ?_
        conv => enter [1]; whnf
        refine Ends.call (csetwN_F mk K lo (by omega) h1 m1 (by omega) hz hb13 (256, true) (a, bb) o u256 ho ok) ?_
        conv => enter [1]; whnf
        have hcl := at_lt h1.hc
        have h2 : HasMach (H1.set c ⟨machL (updR g0 4 (0, false)) (fun _ => (256, true)) 0 0 p w (256 * 16) 4096 2, true⟩) c (updR g0 4 (0, false)) (fun _ => (256, true)) 0 0 p w (256 * 16) 4096 2 := ⟨List.getElem?_set_self hcl⟩
        have m2 := m1.setc ⟨machL (updR g0 4 (0, false)) (fun _ => (256, true)) 0 0 p w (256 * 16) 4096 2, true⟩ hcp hcq hcr
        have g2 := g1.set hc ⟨machL (updR g0 4 (0, false)) (fun _ => (256, true)) 0 0 p w (256 * 16) 4096 2, true⟩
        generalize H1.set c ⟨machL (updR g0 4 (0, false)) (fun _ => (256, true)) 0 0 p w (256 * 16) 4096 2, true⟩ = H2 at h2 m2 g2 ⊢
        refine Ends.opt (h2.get _) ?_
        conv => enter [1]; whnf
        refine Ends.call (mword_F mk K lo (by omega) m2 hz 256 o u256 ho) ?_
        conv => enter [1]; whnf
        refine Ends.callE (awake13_F mk K lo (by omega) H2 (by have := g2.len; omega)) (fun v H3 hv => ?_)
        obtain ⟨hv, g3⟩ := hv
        replace hv : v = .bool true := hv
        replace g3 : Grown H2 H3 := g3
        subst hv
        conv => enter [1]; whnf
        have h3 : HasMach H3 c (updR g0 4 (0, false)) (fun _ => (256, true)) 0 0 p w (256 * 16) 4096 2 := ⟨g3.at h2.hc⟩
        refine Ends.call (cstate_F mk K lo (by omega) h3) ?_
        conv => enter [1]; whnf
        refine Ends.iteF (eqBadVal mk) ?_
        conv => enter [1]; whnf
        exact Ends.some' rfl
end Go.Proofs.Ytkjcipdfciajhaa.VM
