/- The machine's bytes and words written where they are stuck, in the plain machine. -/
import Derived.Test.YtkjcipdfciajhaaMT
namespace Go.Proofs.Ytkjcipdfciajhaa.VM
open Go Go.RowKit
set_option linter.unusedVariables false
set_option linter.unusedSimpArgs false
set_option maxRecDepth 40000
set_option maxHeartbeats 1600000
theorem csetwN_F (mk : Mk) (k lo : Nat) (hk : 40 ≤ k) {N : Nat} {H : List Blk} {c : Nat} {g s : Nat → VT} {ip fl : Int} {p w q r : Nat} {b z : Int} {f t : Nat → Int} (h : HasMach H c g s ip fl p w b z 0) (hm : HasMem N H p q r f t) (hc : lo ≤ c) (hf : ∀ i, U8 (f i)) (hb : 0 ≤ b ∧ b < 1048576) (x y : VT) (o : Int) (u1 : U16 x.1) (u2 : U16 o) (ok : (ownZ b z x o && ownZ b z x (nxt o)) = false) : FF mk k lo 13 [.ptr (.hp c) 0, .agg (pairV x ++ [.int .u16 o]), .agg (pairV y)] H = some (.tup [], H.set c ⟨machL g s ip fl p w b z 2, true⟩) := by
  obtain ⟨k, rfl⟩ : ∃ m, k = m + 1 := ⟨k - 1, by omega⟩
  obtain ⟨v, yy⟩ := x
  obtain ⟨a, bb⟩ := y
  refine eq_of_ends ?_
  conv => enter [1]; whnf
  refine Ends.opt (h.get _) ?_
  conv => enter [1]; whnf
  have c1 := mword_F mk k lo (by omega) hm hf v o u1 u2
  refine Ends.call c1 ?_
  generalize (tok t v o || (t (linN v o) == 0 && t (linN v (nxt o)) == 0)) = cl
  conv => enter [1]; whnf
  have c2 := cOwn_F mk k lo (by omega) h hb (v, yy) o u1 u2
  refine Ends.call c2 ?_
  rw [ok]
  conv => enter [1]; whnf
  refine Ends.call (cstuck_F mk k lo (by omega) h hc) ?_
  conv => enter [1]; whnf
  exact Ends.some' rfl
theorem csetwU_F (mk : Mk) (k lo : Nat) (hk : 40 ≤ k) {N : Nat} {H : List Blk} {c : Nat} {g s : Nat → VT} {ip fl : Int} {p w q r : Nat} {b z : Int} {f t : Nat → Int} (h : HasMach H c g s ip fl p w b z 0) (hm : HasMem N H p q r f t) (hc : lo ≤ c) (hf : ∀ i, U8 (f i)) (hb : 0 ≤ b ∧ b < 1048576) (x y : VT) (o : Int) (u1 : U16 x.1) (u2 : U16 o) (ok : (ownZ b z x o && ownZ b z x (nxt o)) = true) (cl : (tok t x.1 o || (t (linN x.1 o) == 0 && t (linN x.1 (nxt o)) == 0)) = false) : FF mk k lo 13 [.ptr (.hp c) 0, .agg (pairV x ++ [.int .u16 o]), .agg (pairV y)] H = some (.tup [], H.set c ⟨machL g s ip fl p w b z 2, true⟩) := by
  obtain ⟨k, rfl⟩ : ∃ m, k = m + 1 := ⟨k - 1, by omega⟩
  obtain ⟨v, yy⟩ := x
  obtain ⟨a, bb⟩ := y
  refine eq_of_ends ?_
  conv => enter [1]; whnf
  refine Ends.opt (h.get _) ?_
  conv => enter [1]; whnf
  have c1 := mword_F mk k lo (by omega) hm hf v o u1 u2
  refine Ends.call c1 ?_
  rw [cl]
  conv => enter [1]; whnf
  have c2 := cOwn_F mk k lo (by omega) h hb (v, yy) o u1 u2
  refine Ends.call c2 ?_
  rw [ok]
  conv => enter [1]; whnf
  refine Ends.call (cstuck_F mk k lo (by omega) h hc) ?_
  conv => enter [1]; whnf
  exact Ends.some' rfl
theorem ctorn_F (mk : Mk) (k lo : Nat) (hk : 20 ≤ k) {N : Nat} {H : List Blk} {c : Nat} {g s : Nat → VT} {ip fl : Int} {p w q r : Nat} {b z st : Int} {f t : Nat → Int} (h : HasMach H c g s ip fl p w b z st) (hm : HasMem N H p q r f t) (x : VT) (o : Int) (u1 : U16 x.1) (u2 : U16 o) : FF mk k lo 42 [.ptr (.hp c) 0, .agg (pairV x ++ [.int .u16 o])] H = some (.bool !(t (linN x.1 o) == 0), H) := by
  obtain ⟨k, rfl⟩ : ∃ m, k = m + 1 := ⟨k - 1, by omega⟩
  have hcb := mbyte_F mk k lo (by omega) hm x.1 o u1 u2
  obtain ⟨v, y⟩ := x
  refine eq_of_ends ?_
  conv => enter [1]; whnf
  refine Ends.opt (h.get _) ?_
  conv => enter [1]; whnf
  refine Ends.call hcb ?_
  conv => enter [1]; whnf
  exact Ends.some' rfl
theorem csetb_F (mk : Mk) (k lo : Nat) (hk : 40 ≤ k) {N : Nat} {H : List Blk} {c : Nat} {g s : Nat → VT} {ip fl : Int} {p w q r : Nat} {b z st : Int} {f t : Nat → Int} (h : HasMach H c g s ip fl p w b z st) (hm : HasMem N H p q r f t) (hq : lo ≤ q) (hr : lo ≤ r) (hb : 0 ≤ b ∧ b < 1048576) (x : VT) (o d : Int) (u1 : U16 x.1) (u2 : U16 o) (ok : ownZ b z x o = true) (cl : (t (linN x.1 o) == 0) = true) : FF mk k lo 16 [.ptr (.hp c) 0, .agg (pairV x ++ [.int .u16 o]), .int .u8 d] H = some (.tup [], putMem N H q r (updI f (linN x.1 o) d) (updI t (linN x.1 o) 0)) := by
  obtain ⟨k, rfl⟩ : ∃ m, k = m + 1 := ⟨k - 1, by omega⟩
  have hown := cOwn1_F mk k lo (by omega) h hb x o u1 u2
  have ht := ctorn_F mk k lo (by omega) h hm x o u1 u2
  have hs := msetb_F mk k lo (by omega) hm hq hr x.1 o d u1 u2
  rw [ok] at hown
  rw [cl] at ht
  obtain ⟨v, y⟩ := x
  refine eq_of_ends ?_
  conv => enter [1]; whnf
  refine Ends.call hown ?_
  conv => enter [1]; whnf
  refine Ends.call ht ?_
  conv => enter [1]; whnf
  refine Ends.opt (h.get _) ?_
  conv => enter [1]; whnf
  refine Ends.call hs ?_
  conv => enter [1]; whnf
  exact Ends.some' rfl
theorem csetbT_F (mk : Mk) (k lo : Nat) (hk : 40 ≤ k) {N : Nat} {H : List Blk} {c : Nat} {g s : Nat → VT} {ip fl : Int} {p w q r : Nat} {b z : Int} {f t : Nat → Int} (h : HasMach H c g s ip fl p w b z 0) (hm : HasMem N H p q r f t) (hc : lo ≤ c) (hb : 0 ≤ b ∧ b < 1048576) (x : VT) (o d : Int) (u1 : U16 x.1) (u2 : U16 o) (ok : ownZ b z x o = true) (cl : (t (linN x.1 o) == 0) = false) : FF mk k lo 16 [.ptr (.hp c) 0, .agg (pairV x ++ [.int .u16 o]), .int .u8 d] H = some (.tup [], H.set c ⟨machL g s ip fl p w b z 2, true⟩) := by
  obtain ⟨k, rfl⟩ : ∃ m, k = m + 1 := ⟨k - 1, by omega⟩
  have hown := cOwn1_F mk k lo (by omega) h hb x o u1 u2
  have ht := ctorn_F mk k lo (by omega) h hm x o u1 u2
  rw [ok] at hown
  rw [cl] at ht
  obtain ⟨v, y⟩ := x
  refine eq_of_ends ?_
  conv => enter [1]; whnf
  refine Ends.call hown ?_
  conv => enter [1]; whnf
  refine Ends.call ht ?_
  conv => enter [1]; whnf
  refine Ends.call (cstuck_F mk k lo (by omega) h hc) ?_
  conv => enter [1]; whnf
  exact Ends.some' rfl
end Go.Proofs.Ytkjcipdfciajhaa.VM
