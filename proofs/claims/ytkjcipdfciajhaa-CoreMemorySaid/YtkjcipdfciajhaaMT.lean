/- What is pushed where no word may be, in the plain machine. -/
import Derived.Test.YtkjcipdfciajhaaMS
namespace Go.Proofs.Ytkjcipdfciajhaa.VM
open Go Go.RowKit
set_option linter.unusedVariables false
set_option linter.unusedSimpArgs false
set_option maxRecDepth 40000
set_option maxHeartbeats 1600000
/-- A paragraph's word at a segment's last byte: it is stuck, and writes nothing. -/
theorem csetwS_F (mk : Mk) (k lo : Nat) (hk : 40 ≤ k) {N : Nat} {H : List Blk} {c : Nat} {g s : Nat → VT} {ip fl : Int} {p w q r : Nat} {b z : Int} {f t : Nat → Int} (h : HasMach H c g s ip fl p w b z 0) (hm : HasMem N H p q r f t) (hc : lo ≤ c) (hf : ∀ i, U8 (f i)) (hb : 0 ≤ b ∧ b < 1048576) (x : VT) (a : Int) (u1 : U16 x.1) (ok : (ownZ b z x 65535 && ownZ b z x (nxt 65535)) = true) (cl : (tok t x.1 65535 || (t (linN x.1 65535) == 0 && t (linN x.1 (nxt 65535)) == 0)) = true) : FF mk k lo 13 [.ptr (.hp c) 0, .agg (pairV x ++ [.int .u16 65535]), .agg (pairV (a, true))] H = some (.tup [], H.set c ⟨machL g s ip fl p w b z 2, true⟩) := by
  obtain ⟨k, rfl⟩ : ∃ m, k = m + 1 := ⟨k - 1, by omega⟩
  obtain ⟨o, ho⟩ : ∃ o : Int, o = 65535 := ⟨_, rfl⟩
  rw [← ho] at ok cl ⊢
  have u2 : U16 o := by rw [ho]; unfold U16; decide
  obtain ⟨v, yy⟩ := x
  refine eq_of_ends ?_
  conv => enter [1]; whnf
  refine Ends.opt (h.get _) ?_
  conv => enter [1]; whnf
  have c1 := mword_F mk k lo (by omega) hm hf v o u1 u2
  refine Ends.call c1 ?_
  rw [cl]
  conv => enter [1]; whnf
  have c2 := cOwn_F mk k lo (by omega) h hb (v, yy) o u1 u2
  refine Ends.call c2 ?_
  rw [ok]
  conv => enter [1]; whnf
  refine Ends.iteT (beq_iff_eq.2 ho) ?_
  conv => enter [1]; whnf
  refine Ends.call (cstuck_F mk k lo (by omega) h hc) ?_
  conv => enter [1]; whnf
  exact Ends.some' rfl
theorem cpushS_F (mk : Mk) (k lo : Nat) (hk : 50 ≤ k) {N : Nat} {H : List Blk} {c : Nat} {g s : Nat → VT} {ip fl : Int} {p w q r : Nat} {b z : Int} {f t : Nat → Int} (h : HasMach H c g s ip fl p w b z 0) (hm : HasMem N H p q r f t) (hc : lo ≤ c) (hf : ∀ i, U8 (f i)) (hb : 0 ≤ b ∧ b < 1048576) (a : Int) (us : U16 (s 2).1) (hsp : (g 4).2 = false) (h5 : prv (g 4).1 = 65535) (ok : (ownZ b z (s 2) 65535 && ownZ b z (s 2) (nxt 65535)) = true) (cl : (tok t (s 2).1 65535 || (t (linN (s 2).1 65535) == 0 && t (linN (s 2).1 (nxt 65535)) == 0)) = true) : FF mk k lo 8 [.ptr (.hp c) 0, .agg (pairV (a, true))] H = some (.tup [], (H.set c ⟨machL g s ip fl p w b z 2, true⟩).set c ⟨machL (updR g 4 (65535, false)) s ip fl p w b z 2, true⟩) := by
  obtain ⟨k, rfl⟩ : ∃ m, k = m + 1 := ⟨k - 1, by omega⟩
  refine eq_of_ends ?_
  conv => enter [1]; whnf
  refine Ends.opt (h.get _) ?_
  conv => enter [1]; whnf
  have e4 : pairV (g (Int.toNat 4)) = [.int .u16 (g 4).1, .bool false] := by
    show [Val.int .u16 (g 4).1, Val.bool (g 4).2] = _
    rw [hsp]
  have c1 := rget_F mk k lo (by omega) g s ip fl 4 (by omega) H
  rw [e4] at c1
  refine Ends.call c1 ?_
  conv => enter [1]; whnf
  refine Ends.call (cplain_F mk k lo (by omega) c (g 4).1) ?_
  conv => enter [1]; whnf
  have e5 : IntKind.u16.wrap ((g 4).1 - 2) = 65535 := h5
  rw [e5]
  refine Ends.call (cstack_F mk k lo (by omega) h 65535) ?_
  conv => enter [1]; whnf
  refine Ends.opt (by rfl) ?_
  conv => enter [1]; whnf
  have c2 := csetwS_F mk k lo (by omega) h hm hc hf hb (s 2) a us ok cl
  refine Ends.call c2 ?_
  have hl : c < H.length := at_lt h.hc
  have h2 : HasMach (H.set c ⟨machL g s ip fl p w b z 2, true⟩) c g s ip fl p w b z 2 := ⟨List.getElem?_set_self hl⟩
  generalize H.set c ⟨machL g s ip fl p w b z 2, true⟩ = H2 at *
  conv => enter [1]; whnf
  first
    | (refine Ends.iteT (by first | (simp [freeB, freeOne, commB, disjB, newsOf, wrsOf, rdsOf, outOf, isLoc, hl]; done) | fail "open") ?_; conv => enter [1]; whnf)
    | skip
  refine Ends.opt (h2.get _) ?_
  conv => enter [1]; whnf
  have c3 := rput_F mk k lo (by omega) g s ip fl 4 (65535, false) (by omega) H2
  refine Ends.call c3 ?_
  conv => enter [1]; whnf
  refine Ends.iteT (may_hp hc) ?_
  conv => enter [1]; whnf
  refine Ends.opt (h2.get _) ?_
  conv => enter [1]; whnf
  exact Ends.some' rfl
end Go.Proofs.Ytkjcipdfciajhaa.VM
