/- The machine's own bytes in the plain machine. -/
import Derived.Test.YtkjcipdfciajhaaMD
namespace Go.Proofs.Ytkjcipdfciajhaa.VM
open Go Go.RowKit
set_option linter.unusedVariables false
set_option linter.unusedSimpArgs false
set_option maxRecDepth 40000
set_option maxHeartbeats 1600000
/-- The cells of a machine. -/
def machL (g s : Nat → VT) (ip f : Int) (p w : Nat) (b z st : Int) : List Val := regsL g s ip f ++ [.ptr (.hp p) 0, .ptr (.hp w) 0, .int .u32 b, .int .u32 z, .int .i64 st]
/-- Is a segment's byte the program's? -/
def ownZ (b z : Int) (x : VT) (o : Int) : Bool := x.2 && decide ((linZ x.1 o - b) % 1048576 < z)
/-- A machine in a heap. -/
structure HasMach (H : List Blk) (c : Nat) (g s : Nat → VT) (ip f : Int) (p w : Nat) (b z st : Int) : Prop where
  hc : H[c]? = some ⟨machL g s ip f p w b z st, true⟩
theorem HasMach.get {H : List Blk} {c : Nat} {g s : Nat → VT} {ip f : Int} {p w : Nat} {b z st : Int} (h : HasMach H c g s ip f p w b z st) (loc : List (List Val)) : Mem.get ⟨loc, H⟩ (.hp c) = some (machL g s ip f p w b z st) := by
  simp [Mem.get, h.hc]
theorem cown_F (mk : Mk) (k lo : Nat) (hk : 2 ≤ k) {H : List Blk} {c : Nat} {g s : Nat → VT} {ip f : Int} {p w : Nat} {b z st : Int} (h : HasMach H c g s ip f p w b z st) (hb : 0 ≤ b ∧ b < 1048576) (x : VT) (o : Int) (u1 : U16 x.1) (u2 : U16 o) : FF mk k lo 36 [.ptr (.hp c) 0, .agg (pairV x), .int .u16 o] H = some (.bool (ownZ b z x o), H) := by
  obtain ⟨k, rfl⟩ : ∃ m, k = m + 1 := ⟨k - 1, by omega⟩
  obtain ⟨v, t⟩ := x
  refine eq_of_ends ?_
  conv => enter [1]; whnf
  refine Ends.call (mlin_F mk _ _ (by omega) _ _ u1 u2 _) ?_
  conv => enter [1]; whnf
  refine Ends.opt (h.get _) ?_
  conv => enter [1]; whnf
  have hl : c < H.length := (List.getElem?_eq_some_iff.1 h.hc).1
  refine Ends.iteT ?_ ?_
  · simp [freeB, freeOne, commB, disjB, newsOf, wrsOf, rdsOf, outOf, isLoc, hl]
  cases t
  · conv => enter [1]; whnf
    exact Ends.some' rfl
  · conv => enter [1]; whnf
    refine Ends.opt (h.get _) ?_
    conv => enter [1]; whnf
    refine Ends.some' ?_
    have z1 := linZ_lt v o
    have e : (IntKind.u32.wrap (linZ v o - b)).tmod 1048576 = (linZ v o - b) % 1048576 := by
      rw [wu32, Int.tmod_eq_emod_of_nonneg (by omega)]; omega
    show (Val.bool (decide ((IntKind.u32.wrap (linZ v o - b)).tmod 1048576 < z)), H) = (Val.bool (true && decide ((linZ v o - b) % 1048576 < z)), H)
    rw [e]; rfl
theorem cOwn_F (mk : Mk) (k lo : Nat) (hk : 30 ≤ k) {H : List Blk} {c : Nat} {g s : Nat → VT} {ip f : Int} {p w : Nat} {b z st : Int} (h : HasMach H c g s ip f p w b z st) (hb : 0 ≤ b ∧ b < 1048576) (x : VT) (o : Int) (u1 : U16 x.1) (u2 : U16 o) : FF mk k lo 12 [.ptr (.hp c) 0, .agg (pairV x ++ [.int .u16 o]), .int .i64 2] H = some (.bool (ownZ b z x o && ownZ b z x (nxt o)), H) := by
  obtain ⟨k, rfl⟩ : ∃ m, k = m + 20 := ⟨k - 20, by omega⟩
  obtain ⟨v, t⟩ := x
  have hl : c < H.length := (List.getElem?_eq_some_iff.1 h.hc).1
  refine eq_of_ends ?_
  conv => enter [1]; whnf
  have e0 : IntKind.u16.wrap (o + IntKind.u16.wrap 0) = o := by unfold U16 at u2; rw [wu16, wu16]; omega
  have c1 := cown_F mk (k + 19) lo (by omega) h hb (v, t) (IntKind.u16.wrap (o + IntKind.u16.wrap 0)) u1 (by rw [e0]; exact u2)
  refine Ends.call c1 ?_
  rw [e0]
  cases h1 : ownZ b z (v, t) o
  · conv => enter [1]; whnf
    exact Ends.some' rfl
  · conv => enter [1]; whnf
    have e1 : IntKind.u16.wrap (o + IntKind.u16.wrap (IntKind.i64.wrap (0 + 1))) = nxt o := by
      have : IntKind.i64.wrap (0 + 1) = 1 := by decide
      rw [this]; unfold nxt; rfl
    have c2 := cown_F mk (k + 19) lo (by omega) h hb (v, t) (IntKind.u16.wrap (o + IntKind.u16.wrap (IntKind.i64.wrap (0 + 1)))) u1 (by rw [e1]; exact nxt_u16 o)
    refine Ends.call c2 ?_
    rw [e1]
    cases h2 : ownZ b z (v, t) (nxt o)
    · conv => enter [1]; whnf
      exact Ends.some' rfl
    · conv => enter [1]; whnf
      exact Ends.some' rfl
theorem cword_F (mk : Mk) (k lo : Nat) (hk : 40 ≤ k) {N : Nat} {H : List Blk} {c : Nat} {g s : Nat → VT} {ip fl : Int} {p w q r : Nat} {b z st : Int} {f t : Nat → Int} (h : HasMach H c g s ip fl p w b z st) (hm : HasMem N H p q r f t) (hf : ∀ i, U8 (f i)) (hb : 0 ≤ b ∧ b < 1048576) (x : VT) (o : Int) (u1 : U16 x.1) (u2 : U16 o) (ok : (ownZ b z x o && ownZ b z x (nxt o)) = true) (cl : (tok t x.1 o || (t (linN x.1 o) == 0 && t (linN x.1 (nxt o)) == 0)) = true) : FF mk k lo 15 [.ptr (.hp c) 0, .agg (pairV x ++ [.int .u16 o])] H = some (.agg (pairV (f (linN x.1 o) + 256 * f (linN x.1 (nxt o)), tok t x.1 o)), H) := by
  obtain ⟨k, rfl⟩ : ∃ m, k = m + 1 := ⟨k - 1, by omega⟩
  obtain ⟨v, y⟩ := x
  have hl : c < H.length := (List.getElem?_eq_some_iff.1 h.hc).1
  refine eq_of_ends ?_
  conv => enter [1]; whnf
  refine Ends.opt (h.get _) ?_
  conv => enter [1]; whnf
  have c1 := mword_F mk k lo (by omega) hm hf v o u1 u2
  refine Ends.call c1 ?_
  rw [cl]
  conv => enter [1]; whnf
  have c2 := cOwn_F mk k lo (by omega) h hb (v, y) o u1 u2
  refine Ends.call c2 ?_
  rw [ok]
  conv => enter [1]; whnf
  exact Ends.some' rfl
end Go.Proofs.Ytkjcipdfciajhaa.VM
