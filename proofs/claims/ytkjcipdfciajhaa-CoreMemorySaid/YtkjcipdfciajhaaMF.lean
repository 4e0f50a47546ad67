/- The machine's words written, in the plain machine. -/
import Derived.Test.YtkjcipdfciajhaaME
namespace Go.Proofs.Ytkjcipdfciajhaa.VM
open Go Go.RowKit
set_option linter.unusedVariables false
set_option linter.unusedSimpArgs false
set_option maxRecDepth 40000
set_option maxHeartbeats 1600000
/-- Is a word the program's own, and whole? -/
def wordOk (b z : Int) (x : VT) (o : Int) (t : Nat → Int) : Bool := (ownZ b z x o && ownZ b z x (nxt o)) && (tok t x.1 o || (t (linN x.1 o) == 0 && t (linN x.1 (nxt o)) == 0))
theorem cstuck_F (mk : Mk) (k lo : Nat) (hk : 1 ≤ k) {H : List Blk} {c : Nat} {g s : Nat → VT} {ip fl : Int} {p w : Nat} {b z : Int} (h : HasMach H c g s ip fl p w b z 0) (hc : lo ≤ c) : FF mk k lo 37 [.ptr (.hp c) 0] H = some (.tup [], H.set c ⟨machL g s ip fl p w b z 2, true⟩) := by
  obtain ⟨k, rfl⟩ : ∃ m, k = m + 1 := ⟨k - 1, by omega⟩
  refine eq_of_ends ?_
  conv => enter [1]; whnf
  refine Ends.opt (h.get _) ?_
  conv => enter [1]; whnf
  refine Ends.iteT (may_hp hc) ?_
  conv => enter [1]; whnf
  refine Ends.opt (h.get _) ?_
  conv => enter [1]; whnf
  exact Ends.some' rfl
theorem csetw_F (mk : Mk) (k lo : Nat) (hk : 40 ≤ k) {N : Nat} {H : List Blk} {c : Nat} {g s : Nat → VT} {ip fl : Int} {p w q r : Nat} {b z st : Int} {f t : Nat → Int} (h : HasMach H c g s ip fl p w b z st) (hm : HasMem N H p q r f t) (hq : lo ≤ q) (hr : lo ≤ r) (hf : ∀ i, U8 (f i)) (hb : 0 ≤ b ∧ b < 1048576) (x y : VT) (o : Int) (u1 : U16 x.1) (u2 : U16 o) (u3 : U16 y.1) (ok : (ownZ b z x o && ownZ b z x (nxt o)) = true) (cl : (tok t x.1 o || (t (linN x.1 o) == 0 && t (linN x.1 (nxt o)) == 0)) = true) (hv : y.2 = true → o ≠ 65535) : FF mk k lo 13 [.ptr (.hp c) 0, .agg (pairV x ++ [.int .u16 o]), .agg (pairV y)] H = some (.tup [], putMem N H q r (updI (updI f (linN x.1 o) (y.1 % 256)) (linN x.1 (nxt o)) (y.1 / 256)) (if y.2 then updI (updI (updI (updI t (linN x.1 o) 0) (linN x.1 (nxt o)) 0) (linN x.1 o) 1) (linN x.1 (nxt o)) 2 else updI (updI t (linN x.1 o) 0) (linN x.1 (nxt o)) 0)) := by
  obtain ⟨k, rfl⟩ : ∃ m, k = m + 1 := ⟨k - 1, by omega⟩
  obtain ⟨v, yy⟩ := x
  obtain ⟨a, bb⟩ := y
  refine eq_of_ends ?_
  conv => enter [1]; whnf
  refine Ends.opt (h.get _) ?_
  conv => enter [1]; whnf
  have c1 := mword_F mk k lo (by omega) hm hf v o u1 u2
  refine Ends.call c1 ?_
  rw [cl]
  conv => enter [1]; whnf
  have c2 := cOwn_F mk k lo (by omega) h hb (v, yy) o u1 u2
  refine Ends.call c2 ?_
  rw [ok]
  conv => enter [1]; whnf
  cases bb
  · conv => enter [1]; whnf
    refine Ends.opt (h.get _) ?_
    conv => enter [1]; whnf
    have c3 := msetw_F mk k lo (by omega) hm hq hr v o a false u1 u2 u3
    refine Ends.call c3 ?_
    conv => enter [1]; whnf
    exact Ends.some' rfl
  · have h5 : (o == 65535) = false := by simpa using hv rfl
    conv => enter [1]; whnf
    refine Ends.iteF h5 ?_
    conv => enter [1]; whnf
    refine Ends.opt (h.get _) ?_
    conv => enter [1]; whnf
    have c3 := msetw_F mk k lo (by omega) hm hq hr v o a true u1 u2 u3
    refine Ends.call c3 ?_
    conv => enter [1]; whnf
    exact Ends.some' rfl
end Go.Proofs.Ytkjcipdfciajhaa.VM
