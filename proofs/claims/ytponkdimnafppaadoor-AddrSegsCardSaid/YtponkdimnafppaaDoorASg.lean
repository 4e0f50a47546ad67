/- Places by the plain machine. -/
import Derived.Test.YtponkdimnafppaaDoorADb
namespace Go.Proofs.YtponkdimnafppaaDoor.VM
open Go Go.RowKit
set_option linter.unusedVariables false
set_option linter.unusedSimpArgs false
set_option maxRecDepth 40000
set_option maxHeartbeats 3200000
theorem defP_in (z : IN) (h : 0 ≤ z.seg ∧ z.seg ≤ 4) : 0 ≤ defP z ∧ defP z < 4 := by
  unfold defP
  split
  · omega
  · split
    · decide
    · split <;> decide
def dirP (z : IN) : Int := if 0 < z.seg ∧ z.seg ≤ 4 then z.seg - 1 else 3
theorem dirP_in (z : IN) : 0 ≤ dirP z ∧ dirP z < 4 := by
  unfold dirP
  split
  · omega
  · decide
theorem of_F (mk : Mk) (k lo : Nat) (hk : 40 ≤ k) (g s : Nat → VT) (ip f : Int) (z : IN) (hz : 0 ≤ z.seg ∧ z.seg ≤ 4) (H : List Blk) (h0 : H[0]? = some ⟨basesL, true⟩) :
    FF mk k lo 12 [.agg (regsL g s ip f), .agg (inL z)] H = some (.tup [.agg (pairV (s (defP z).toNat) ++ [.int .u16 (offP g z.mod z.rm z.disp).1]), .bool (offP g z.mod z.rm z.disp).2], H) := by
  obtain ⟨k, rfl⟩ : ∃ m, k = m + 1 := ⟨k - 1, by omega⟩
  refine eq_of_ends ?_
  refine Ends.enter rfl ?_
  conv => enter [1]; whnf
  refine Ends.call (off_F mk k lo (by omega) g s ip f z H h0) ?_
  conv => enter [1]; whnf
  refine Ends.call (default_F mk k _ (by omega) z H) ?_
  conv => enter [1]; whnf
  refine Ends.call (rseg_F mk k _ (by omega) g s ip f (defP z) (defP_in z hz) H) ?_
  generalize s (defP z).toNat = y
  obtain ⟨y1, y2⟩ := y
  conv => enter [1]; whnf
  exact Ends.some' rfl
theorem direct_F (mk : Mk) (k lo : Nat) (hk : 4 ≤ k) (g s : Nat → VT) (ip f : Int) (z : IN) (H : List Blk) :
    FF mk k lo 14 [.agg (regsL g s ip f), .agg (inL z)] H = some (.agg (pairV (s (dirP z).toNat) ++ [.int .u16 z.imm]), H) := by
  obtain ⟨k, rfl⟩ : ∃ m, k = m + 1 := ⟨k - 1, by omega⟩
  refine eq_of_ends ?_
  refine Ends.enter rfl ?_
  obtain ⟨z1, z2, sg, z4, md, z6, rm, disp, imm, z10⟩ := z
  have hd := dirP_in ⟨z1, z2, sg, z4, md, z6, rm, disp, imm, z10⟩
  by_cases c1 : 0 < sg ∧ sg ≤ 4
  · have e : dirP ⟨z1, z2, sg, z4, md, z6, rm, disp, imm, z10⟩ = sg - 1 := if_pos c1
    rw [e] at hd ⊢
    obtain ⟨c1, c2⟩ := c1
    have c3 : sg > 0 := c1
    conv => enter [1]; whnf
    repeat (first
      | (refine Ends.force ?_; conv => enter [1]; whnf)
      | (refine Ends.forceN ?_; conv => enter [1]; whnf)
      | (refine Ends.forceLs ?_; conv => enter [1]; whnf)
      | (refine Ends.iteT (by first | with_reducible assumption | (simp [*]; done) | (apply decide_eq_true; omega) | fail "open") ?_; conv => enter [1]; whnf)
      | (refine Ends.iteF (by first | with_reducible assumption | (simp [*]; done) | (apply decide_eq_false; omega) | fail "open") ?_; conv => enter [1]; whnf))
    have hw : IntKind.i64.wrap (sg - 1) = sg - 1 := w64n _ (by omega) (by omega)
    refine Ends.call (rseg_F mk k _ (by omega) g s ip f (IntKind.i64.wrap (sg - 1)) (by rw [hw]; exact hd) H) ?_
    rw [hw]
    generalize s (sg - 1).toNat = y
    obtain ⟨y1, y2⟩ := y
    conv => enter [1]; whnf
    exact Ends.some' rfl
  · have e : dirP ⟨z1, z2, sg, z4, md, z6, rm, disp, imm, z10⟩ = 3 := if_neg c1
    rw [e] at hd ⊢
    have fin : ∀ lo', FF mk k lo' 38 [.agg (regsL g s ip f), .int .i64 3] H = some (.agg (pairV (s 3)), H) := fun lo' => rseg_F mk k lo' (by omega) g s ip f 3 (by omega) H
    show Ends _ (fun r => r = (Val.agg (pairV (s 3) ++ [.int .u16 imm]), H))
    by_cases c2 : 0 < sg
    all_goals
      conv => enter [1]; whnf
      first
        | (have c3 : ¬ sg ≤ 4 := fun w => c1 ⟨c2, w⟩; refine Ends.iteT (by simp; omega) ?_; (conv => enter [1]; whnf); refine Ends.iteF (by simp; omega) ?_)
        | (refine Ends.iteF (by simp; omega) ?_)
      conv => enter [1]; whnf
      refine Ends.call (fin _) ?_
      generalize s 3 = y
      obtain ⟨y1, y2⟩ := y
      conv => enter [1]; whnf
      exact Ends.some' rfl
end Go.Proofs.YtponkdimnafppaaDoor.VM
