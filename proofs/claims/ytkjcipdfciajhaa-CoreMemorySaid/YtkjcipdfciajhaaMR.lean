/- The machine's bytes, where they are the program's or not, in the plain machine. -/
import Derived.Test.YtkjcipdfciajhaaMQ
namespace Go.Proofs.Ytkjcipdfciajhaa.VM
open Go Go.RowKit
set_option linter.unusedVariables false
set_option linter.unusedSimpArgs false
set_option maxRecDepth 40000
set_option maxHeartbeats 1600000
theorem cOwn1_F (mk : Mk) (k lo : Nat) (hk : 30 ≤ k) {H : List Blk} {c : Nat} {g s : Nat → VT} {ip f : Int} {p w : Nat} {b z st : Int} (h : HasMach H c g s ip f p w b z st) (hb : 0 ≤ b ∧ b < 1048576) (x : VT) (o : Int) (u1 : U16 x.1) (u2 : U16 o) : FF mk k lo 12 [.ptr (.hp c) 0, .agg (pairV x ++ [.int .u16 o]), .int .i64 1] H = some (.bool (ownZ b z x o), H) := by
  obtain ⟨k, rfl⟩ : ∃ m, k = m + 20 := ⟨k - 20, by omega⟩
  obtain ⟨v, t⟩ := x
  refine eq_of_ends ?_
  conv => enter [1]; whnf
  have e0 : IntKind.u16.wrap (o + IntKind.u16.wrap 0) = o := by unfold U16 at u2; rw [wu16, wu16]; omega
  have c1 := cown_F mk (k + 19) lo (by omega) h hb (v, t) (IntKind.u16.wrap (o + IntKind.u16.wrap 0)) u1 (by rw [e0]; exact u2)
  refine Ends.call c1 ?_
  rw [e0]
  cases h1 : ownZ b z (v, t) o
  · conv => enter [1]; whnf
    exact Ends.some' rfl
  · conv => enter [1]; whnf
    exact Ends.some' rfl
theorem cbyte_F (mk : Mk) (k lo : Nat) (hk : 40 ≤ k) {N : Nat} {H : List Blk} {c : Nat} {g s : Nat → VT} {ip fl : Int} {p w q r : Nat} {b z : Int} {f t : Nat → Int} (h : HasMach H c g s ip fl p w b z 0) (hm : HasMem N H p q r f t) (hc : lo ≤ c) (hf : ∀ i, U8 (f i)) (hb : 0 ≤ b ∧ b < 1048576) (x : VT) (o : Int) (u1 : U16 x.1) (u2 : U16 o) : FF mk k lo 17 [.ptr (.hp c) 0, .agg (pairV x ++ [.int .u16 o])] H = some (.int .u16 (f (linN x.1 o)), if (t (linN x.1 o) == 0 && ownZ b z x o) = true then H else H.set c ⟨machL g s ip fl p w b z 2, true⟩) := by
  obtain ⟨k, rfl⟩ : ∃ m, k = m + 1 := ⟨k - 1, by omega⟩
  have hl : c < H.length := (List.getElem?_eq_some_iff.1 h.hc).1
  have hcb := mbyte_F mk k lo (by omega) hm x.1 o u1 u2
  have hown := cOwn1_F mk k lo (by omega) h hb x o u1 u2
  have e8 : IntKind.u16.wrap (f (linN x.1 o)) = f (linN x.1 o) := by have := hf (linN x.1 o); unfold U8 at this; rw [wu16]; omega
  obtain ⟨v, y⟩ := x
  refine eq_of_ends ?_
  conv => enter [1]; whnf
  refine Ends.opt (h.get _) ?_
  conv => enter [1]; whnf
  refine Ends.call hcb ?_
  cases h1 : (t (linN v o) == 0)
  · conv => enter [1]; whnf
    first
      | (refine Ends.iteT (by first | (simp [freeB, freeOne, commB, disjB, newsOf, wrsOf, rdsOf, outOf, isLoc, hl]; done) | fail "open") ?_; conv => enter [1]; whnf)
      | skip
    refine Ends.call (cstuck_F mk k lo (by omega) h hc) ?_
    conv => enter [1]; whnf
    refine Ends.some' ?_
    rw [e8]
    rfl
  · conv => enter [1]; whnf
    first
      | (refine Ends.iteT (by first | (simp [freeB, freeOne, commB, disjB, newsOf, wrsOf, rdsOf, outOf, isLoc, hl]; done) | fail "open") ?_; conv => enter [1]; whnf)
      | skip
    refine Ends.call hown ?_
    cases h2 : ownZ b z (v, y) o
    · conv => enter [1]; whnf
      refine Ends.call (cstuck_F mk k lo (by omega) h hc) ?_
      conv => enter [1]; whnf
      refine Ends.some' ?_
      rw [e8]
      rfl
    · conv => enter [1]; whnf
      refine Ends.some' ?_
      rw [e8]
      rfl
end Go.Proofs.Ytkjcipdfciajhaa.VM
