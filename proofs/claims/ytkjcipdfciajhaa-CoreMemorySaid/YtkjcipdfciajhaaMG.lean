/- The machine's stack in the plain machine. -/
import Derived.Test.YtkjcipdfciajhaaMF
namespace Go.Proofs.Ytkjcipdfciajhaa.VM
open Go Go.RowKit
set_option linter.unusedVariables false
set_option linter.unusedSimpArgs false
set_option maxRecDepth 40000
set_option maxHeartbeats 1600000
/-- Two bytes' kinds, written. -/
def kindT (y : Bool) (t : Nat → Int) (i j : Nat) : Nat → Int := if y then updI (updI (updI (updI t i 0) j 0) i 1) j 2 else updI (updI t i 0) j 0
/-- The offset two ahead of an offset. -/
def prv (o : Int) : Int := IntKind.u16.wrap (o - 2)
theorem cplain_F (mk : Mk) (k lo : Nat) (hk : 2 ≤ k) {H : List Blk} (c : Nat) (v : Int) : FF mk k lo 31 [.ptr (.hp c) 0, .agg [.int .u16 v, .bool false]] H = some (.int .u16 v, H) := by
  obtain ⟨k, rfl⟩ : ∃ m, k = m + 1 := ⟨k - 1, by omega⟩
  refine eq_of_ends ?_
  conv => enter [1]; whnf
  exact Ends.some' rfl
theorem mach_R {c : Nat} (g s : Nat → VT) (ip fl : Int) (p w : Nat) (b z st : Int) : partV Try.prog 34 (machL g s ip fl p w b z st) 0 = some (.agg (regsL g s ip fl)) := by rfl
theorem mach_put (g g' s : Nat → VT) (ip fl : Int) (p w : Nat) (b z st : Int) : putAt 0 (regsL g' s ip fl) (machL g s ip fl p w b z st) = some (machL g' s ip fl p w b z st) := rfl
theorem cstack_F (mk : Mk) (k lo : Nat) (hk : 4 ≤ k) {H : List Blk} {c : Nat} {g s : Nat → VT} {ip fl : Int} {p w : Nat} {b z st : Int} (h : HasMach H c g s ip fl p w b z st) (o : Int) : FF mk k lo 33 [.ptr (.hp c) 0, .int .u16 o] H = some (.agg (pairV (s 2) ++ [.int .u16 o]), H) := by
  obtain ⟨k, rfl⟩ : ∃ m, k = m + 1 := ⟨k - 1, by omega⟩
  refine eq_of_ends ?_
  conv => enter [1]; whnf
  refine Ends.opt (h.get _) ?_
  conv => enter [1]; whnf
  have c1 := rseg_F mk k lo (by omega) g s ip fl 2 (by omega) H
  refine Ends.call c1 ?_
  conv => enter [1]; whnf
  exact Ends.some' rfl
theorem cpush_F (mk : Mk) (k lo : Nat) (hk : 50 ≤ k) {N : Nat} {H : List Blk} {c : Nat} {g s : Nat → VT} {ip fl : Int} {p w q r : Nat} {b z st : Int} {f t : Nat → Int} (h : HasMach H c g s ip fl p w b z st) (hm : HasMem N H p q r f t) (hc : lo ≤ c) (hq : lo ≤ q) (hr : lo ≤ r) (hf : ∀ i, U8 (f i)) (hb : 0 ≤ b ∧ b < 1048576) (y : VT) (u3 : U16 y.1) (us : U16 (s 2).1) (hcq : c ≠ q) (hcr : c ≠ r) (hsp : (g 4).2 = false) (ok : (ownZ b z (s 2) (prv (g 4).1) && ownZ b z (s 2) (nxt (prv (g 4).1))) = true) (cl : (tok t (s 2).1 (prv (g 4).1) || (t (linN (s 2).1 (prv (g 4).1)) == 0 && t (linN (s 2).1 (nxt (prv (g 4).1))) == 0)) = true) (hv : y.2 = true → prv (g 4).1 ≠ 65535) : FF mk k lo 8 [.ptr (.hp c) 0, .agg (pairV y)] H = some (.tup [], (putMem N H q r (updI (updI f (linN (s 2).1 (prv (g 4).1)) (y.1 % 256)) (linN (s 2).1 (nxt (prv (g 4).1))) (y.1 / 256)) (kindT y.2 t (linN (s 2).1 (prv (g 4).1)) (linN (s 2).1 (nxt (prv (g 4).1))))).set c ⟨machL (updR g 4 (prv (g 4).1, false)) s ip fl p w b z st, true⟩) := by
  obtain ⟨k, rfl⟩ : ∃ m, k = m + 1 := ⟨k - 1, by omega⟩
  refine eq_of_ends ?_
  conv => enter [1]; whnf
  refine Ends.opt (h.get _) ?_
  conv => enter [1]; whnf
  have e4 : pairV (g (Int.toNat 4)) = [.int .u16 (g 4).1, .bool false] := by
    show [Val.int .u16 (g 4).1, Val.bool (g 4).2] = _
    rw [hsp]
  have c1 := rget_F mk k lo (by omega) g s ip fl 4 (by omega) H
  rw [e4] at c1
  refine Ends.call c1 ?_
  conv => enter [1]; whnf
  refine Ends.call (cplain_F mk k lo (by omega) c (g 4).1) ?_
  conv => enter [1]; whnf
  have e5 : IntKind.u16.wrap ((g 4).1 - 2) = prv (g 4).1 := rfl
  rw [e5]
  refine Ends.call (cstack_F mk k lo (by omega) h (prv (g 4).1)) ?_
  conv => enter [1]; whnf
  have up : U16 (prv (g 4).1) := by unfold prv U16; rw [wu16]; omega
  refine Ends.opt (by rfl) ?_
  conv => enter [1]; whnf
  have c2 := csetw_F mk k lo (by omega) h hm hq hr hf hb (s 2) y (prv (g 4).1) us up u3 ok cl hv
  refine Ends.call c2 ?_
  have hcH : (putMem N H q r (updI (updI f (linN (s 2).1 (prv (g 4).1)) (y.1 % 256)) (linN (s 2).1 (nxt (prv (g 4).1))) (y.1 / 256)) (if y.2 then updI (updI (updI (updI t (linN (s 2).1 (prv (g 4).1)) 0) (linN (s 2).1 (nxt (prv (g 4).1))) 0) (linN (s 2).1 (prv (g 4).1)) 1) (linN (s 2).1 (nxt (prv (g 4).1))) 2 else updI (updI t (linN (s 2).1 (prv (g 4).1)) 0) (linN (s 2).1 (nxt (prv (g 4).1))) 0))[c]? = some ⟨machL g s ip fl p w b z st, true⟩ := by
    unfold putMem
    rw [List.getElem?_set_ne (Ne.symm hcr), List.getElem?_set_ne (Ne.symm hcq)]
    exact h.hc
  show Ends _ (fun x => x = (Val.tup [], (putMem N H q r (updI (updI f (linN (s 2).1 (prv (g 4).1)) (y.1 % 256)) (linN (s 2).1 (nxt (prv (g 4).1))) (y.1 / 256)) (if y.2 then updI (updI (updI (updI t (linN (s 2).1 (prv (g 4).1)) 0) (linN (s 2).1 (nxt (prv (g 4).1))) 0) (linN (s 2).1 (prv (g 4).1)) 1) (linN (s 2).1 (nxt (prv (g 4).1))) 2 else updI (updI t (linN (s 2).1 (prv (g 4).1)) 0) (linN (s 2).1 (nxt (prv (g 4).1))) 0)).set c ⟨machL (updR g 4 (prv (g 4).1, false)) s ip fl p w b z st, true⟩))
  generalize putMem N H q r (updI (updI f (linN (s 2).1 (prv (g 4).1)) (y.1 % 256)) (linN (s 2).1 (nxt (prv (g 4).1))) (y.1 / 256)) (if y.2 then updI (updI (updI (updI t (linN (s 2).1 (prv (g 4).1)) 0) (linN (s 2).1 (nxt (prv (g 4).1))) 0) (linN (s 2).1 (prv (g 4).1)) 1) (linN (s 2).1 (nxt (prv (g 4).1))) 2 else updI (updI t (linN (s 2).1 (prv (g 4).1)) 0) (linN (s 2).1 (nxt (prv (g 4).1))) 0) = H2 at *
  have h2 : HasMach H2 c g s ip fl p w b z st := ⟨hcH⟩
  conv => enter [1]; whnf
  have hl : c < H.length := (List.getElem?_eq_some_iff.1 h.hc).1
  first
    | (refine Ends.iteT (by first | (simp [freeB, freeOne, commB, disjB, newsOf, wrsOf, rdsOf, outOf, isLoc, hl]; done) | fail "open") ?_; conv => enter [1]; whnf)
    | skip
  refine Ends.opt (h2.get _) ?_
  conv => enter [1]; whnf
  have c3 := rput_F mk k lo (by omega) g s ip fl 4 (prv (g 4).1, false) (by omega) H2
  refine Ends.call c3 ?_
  conv => enter [1]; whnf
  refine Ends.iteT (may_hp hc) ?_
  conv => enter [1]; whnf
  refine Ends.opt (h2.get _) ?_
  conv => enter [1]; whnf
  first
    | (refine Ends.opt (mach_put g (updR g 4 (prv (g 4).1, false)) s ip fl p w b z st) ?_; conv => enter [1]; whnf)
    | skip
  exact Ends.some' rfl
end Go.Proofs.Ytkjcipdfciajhaa.VM
