/- What was pushed is popped, in the plain machine. -/
import Derived.Test.YtkjcipdfciajhaaMG
namespace Go.Proofs.Ytkjcipdfciajhaa.VM
open Go Go.RowKit
set_option linter.unusedVariables false
set_option linter.unusedSimpArgs false
set_option maxRecDepth 40000
set_option maxHeartbeats 1600000
/-- The offset two behind an offset. -/
def nx2 (o : Int) : Int := IntKind.u16.wrap (o + 2)
theorem cpop_F (mk : Mk) (k lo : Nat) (hk : 50 ≤ k) {N : Nat} {H : List Blk} {c : Nat} {g s : Nat → VT} {ip fl : Int} {p w q r : Nat} {b z st : Int} {f t : Nat → Int} (h : HasMach H c g s ip fl p w b z st) (hm : HasMem N H p q r f t) (hc : lo ≤ c) (hf : ∀ i, U8 (f i)) (hb : 0 ≤ b ∧ b < 1048576) (us : U16 (s 2).1) (ug : U16 (g 4).1) (hsp : (g 4).2 = false) (ok : (ownZ b z (s 2) (g 4).1 && ownZ b z (s 2) (nxt (g 4).1)) = true) (cl : (tok t (s 2).1 (g 4).1 || (t (linN (s 2).1 (g 4).1) == 0 && t (linN (s 2).1 (nxt (g 4).1)) == 0)) = true) : FF mk k lo 11 [.ptr (.hp c) 0] H = some (.agg (pairV (f (linN (s 2).1 (g 4).1) + 256 * f (linN (s 2).1 (nxt (g 4).1)), tok t (s 2).1 (g 4).1)), H.set c ⟨machL (updR g 4 (nx2 (g 4).1, false)) s ip fl p w b z st, true⟩) := by
  obtain ⟨k, rfl⟩ : ∃ m, k = m + 1 := ⟨k - 1, by omega⟩
  refine eq_of_ends ?_
  conv => enter [1]; whnf
  refine Ends.opt (h.get _) ?_
  conv => enter [1]; whnf
  have e4 : pairV (g (Int.toNat 4)) = [.int .u16 (g 4).1, .bool false] := by
    show [Val.int .u16 (g 4).1, Val.bool (g 4).2] = _
    rw [hsp]
  have c1 := rget_F mk k lo (by omega) g s ip fl 4 (by omega) H
  rw [e4] at c1
  refine Ends.call c1 ?_
  conv => enter [1]; whnf
  refine Ends.call (cplain_F mk k lo (by omega) c (g 4).1) ?_
  conv => enter [1]; whnf
  refine Ends.call (cstack_F mk k lo (by omega) h (g 4).1) ?_
  conv => enter [1]; whnf
  refine Ends.call (cword_F mk k lo (by omega) h hm hf hb (s 2) (g 4).1 us ug ok cl) ?_
  conv => enter [1]; whnf
  refine Ends.opt (h.get _) ?_
  conv => enter [1]; whnf
  have e5 : IntKind.u16.wrap ((g 4).1 + 2) = nx2 (g 4).1 := rfl
  rw [e5]
  have c3 := rput_F mk k lo (by omega) g s ip fl 4 (nx2 (g 4).1, false) (by omega) H
  refine Ends.call c3 ?_
  conv => enter [1]; whnf
  refine Ends.iteT (may_hp hc) ?_
  conv => enter [1]; whnf
  refine Ends.opt (h.get _) ?_
  conv => enter [1]; whnf
  exact Ends.some' rfl
theorem cstate_F (mk : Mk) (k lo : Nat) (hk : 1 ≤ k) {H : List Blk} {c : Nat} {g s : Nat → VT} {ip fl : Int} {p w : Nat} {b z st : Int} (h : HasMach H c g s ip fl p w b z st) : FF mk k lo 9 [.ptr (.hp c) 0] H = some (.int .i64 st, H) := by
  obtain ⟨k, rfl⟩ : ∃ m, k = m + 1 := ⟨k - 1, by omega⟩
  refine eq_of_ends ?_
  conv => enter [1]; whnf
  refine Ends.opt (h.get _) ?_
  conv => enter [1]; whnf
  exact Ends.some' rfl
end Go.Proofs.Ytkjcipdfciajhaa.VM
