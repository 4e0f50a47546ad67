/- A memory's words by segments in the plain machine. -/
import Derived.Test.YtkjcipdfciajhaaMC
namespace Go.Proofs.Ytkjcipdfciajhaa.VM
open Go Go.RowKit
set_option linter.unusedVariables false
set_option linter.unusedSimpArgs false
set_option maxRecDepth 40000
set_option maxHeartbeats 1600000
theorem HasMem.lt {N : Nat} {H : List Blk} {p q s : Nat} {f g : Nat → Int} (h : HasMem N H p q s f g) : q < H.length ∧ s < H.length := by
  have h1 := h.hq
  have h2 := h.hs
  exact ⟨(List.getElem?_eq_some_iff.1 h1).1, (List.getElem?_eq_some_iff.1 h2).1⟩
theorem HasMem.put {N : Nat} {H : List Blk} {p q s : Nat} {f g : Nat → Int} (h : HasMem N H p q s f g) (f' g' : Nat → Int) : HasMem N (putMem N H q s f' g') p q s f' g' := by
  obtain ⟨l1, l2⟩ := h.lt
  refine ⟨h.n, ?_, ?_, ?_, h.pq, h.ps, h.qs⟩
  · unfold putMem; rw [List.getElem?_set_ne (Ne.symm h.ps), List.getElem?_set_ne (Ne.symm h.pq)]; exact h.hp
  · unfold putMem; rw [List.getElem?_set_ne (Ne.symm h.qs), List.getElem?_set_self l1]
  · unfold putMem; rw [List.getElem?_set_self (by rw [List.length_set]; exact l2)]
theorem putMem_put (N : Nat) (H : List Blk) {q s : Nat} (hqs : q ≠ s) (f g f' g' : Nat → Int) : putMem N (putMem N H q s f g) q s f' g' = putMem N H q s f' g' := by
  unfold putMem
  rw [List.set_comm _ _ (Ne.symm hqs), List.set_set, List.set_set]
theorem putMem_len (N : Nat) (H : List Blk) (q s : Nat) (f g : Nat → Int) : (putMem N H q s f g).length = H.length := by simp [putMem]
theorem putMem_set (N : Nat) (H : List Blk) (q s : Nat) (f g g' : Nat → Int) : (putMem N H q s f g).set s ⟨memL N g', true⟩ = putMem N H q s f g' := by
  unfold putMem; rw [List.set_set]
/-- The offset behind an offset. -/
def nxt (o : Int) : Int := IntKind.u16.wrap (o + 1)
theorem nxt_u16 (o : Int) : U16 (nxt o) := by unfold nxt U16; rw [wu16]; omega
/-- Is it a word of a paragraph? -/
def tok (g : Nat → Int) (sg o : Int) : Bool := g (linN sg o) == 1 && g (linN sg (nxt o)) == 2
theorem mword_F (mk : Mk) (k lo : Nat) (hk : 3 ≤ k) {N : Nat} {H : List Blk} {p q s : Nat} {f g : Nat → Int} (h : HasMem N H p q s f g) (hf : ∀ i, U8 (f i)) (sg o : Int) (u1 : U16 sg) (u2 : U16 o) : FF mk k lo 14 [.ptr (.hp p) 0, .int .u16 sg, .int .u16 o] H = some (.tup [.agg [.int .u16 (f (linN sg o) + 256 * f (linN sg (nxt o))), .bool (tok g sg o)], .bool (tok g sg o || (g (linN sg o) == 0 && g (linN sg (nxt o)) == 0))], H) := by
  obtain ⟨k, rfl⟩ : ∃ m, k = m + 1 := ⟨k - 1, by omega⟩
  have hn := h.n
  have z1 := linZ_lt sg o
  have z2 := linZ_lt sg (nxt o)
  refine eq_of_ends ?_
  conv => enter [1]; whnf
  refine Ends.call (mlin_F mk _ _ (by omega) _ _ u1 u2 _) ?_
  conv => enter [1]; whnf
  refine Ends.call (mlin_F mk _ _ (by omega) _ _ u1 (nxt_u16 o) _) ?_
  conv => enter [1]; whnf
  refine Ends.call (mat_L mk _ _ (by omega) h _ _) ?_
  conv => enter [1]; whnf
  refine Ends.call (mat_L mk _ _ (by omega) h _ _) ?_
  conv => enter [1]; whnf
  refine Ends.call (bword_F mk _ _ (by omega) _ _ (hf _) (hf _) _) ?_
  conv => enter [1]; whnf
  refine Ends.call (mok_F mk _ _ (by omega) h) ?_
  conv => enter [1]; whnf
  refine Ends.opt (h.getP _) ?_
  conv => enter [1]; whnf
  refine Ends.iteT (decide_eq_true (by omega)) ?_
  conv => enter [1]; whnf
  refine Ends.opt (h.getS _) ?_
  conv => enter [1]; whnf
  refine Ends.opt (partMem N g (linN sg o) (by unfold linN; omega) (by unfold linN; omega)) ?_
  conv => enter [1]; whnf
  refine Ends.opt (h.getP _) ?_
  conv => enter [1]; whnf
  refine Ends.iteT (decide_eq_true (by omega)) ?_
  conv => enter [1]; whnf
  refine Ends.opt (h.getS _) ?_
  conv => enter [1]; whnf
  refine Ends.opt (partMem N g (linN sg (nxt o)) (by unfold linN; omega) (by unfold linN; unfold nxt; omega)) ?_
  conv => enter [1]; whnf
  unfold tok
  generalize g (linN sg o) = ga
  generalize g (linN sg (nxt o)) = gb
  cases hA : (ga == 1)
  · conv => enter [1]; whnf
    cases hC : (ga == 0)
    · conv => enter [1]; whnf
      exact Ends.some' rfl
    · conv => enter [1]; whnf
      exact Ends.some' rfl
  · conv => enter [1]; whnf
    cases hB : (gb == 2)
    · conv => enter [1]; whnf
      cases hC : (ga == 0)
      · conv => enter [1]; whnf
        exact Ends.some' rfl
      · conv => enter [1]; whnf
        exact Ends.some' rfl
    · conv => enter [1]; whnf
      exact Ends.some' rfl
theorem msetw_F (mk : Mk) (k lo : Nat) (hk : 3 ≤ k) {N : Nat} {H : List Blk} {p q s : Nat} {f g : Nat → Int} (h : HasMem N H p q s f g) (hq : lo ≤ q) (hs : lo ≤ s) (sg o v : Int) (t : Bool) (u1 : U16 sg) (u2 : U16 o) (u3 : U16 v) : FF mk k lo 38 [.ptr (.hp p) 0, .int .u16 sg, .int .u16 o, .agg [.int .u16 v, .bool t]] H = some (.tup [], putMem N H q s (updI (updI f (linN sg o) (v % 256)) (linN sg (nxt o)) (v / 256)) (if t then updI (updI (updI (updI g (linN sg o) 0) (linN sg (nxt o)) 0) (linN sg o) 1) (linN sg (nxt o)) 2 else updI (updI g (linN sg o) 0) (linN sg (nxt o)) 0)) := by
  obtain ⟨k, rfl⟩ : ∃ m, k = m + 1 := ⟨k - 1, by omega⟩
  have hn := h.n
  have z1 := linZ_lt sg o
  have z2 := linZ_lt sg (nxt o)
  refine eq_of_ends ?_
  conv => enter [1]; whnf
  refine Ends.call (mok_F mk _ _ (by omega) h) ?_
  conv => enter [1]; whnf
  refine Ends.call (mlin_F mk _ _ (by omega) _ _ u1 u2 _) ?_
  conv => enter [1]; whnf
  refine Ends.call (mlin_F mk _ _ (by omega) _ _ u1 (nxt_u16 o) _) ?_
  conv => enter [1]; whnf
  refine Ends.call (low_F mk _ _ (by omega) _ _) ?_
  conv => enter [1]; whnf
  refine Ends.call (mset_L mk _ _ (by omega) h hq hs _ _ _) ?_
  conv => enter [1]; whnf
  refine Ends.call (high_F mk _ _ (by omega) _ u3 _) ?_
  conv => enter [1]; whnf
  have h2 := h.put (updI f (linN sg o) (v % 256)) (updI g (linN sg o) 0)
  refine Ends.call (mset_L mk _ _ (by omega) h2 hq hs _ _ _) ?_
  rw [putMem_put N H h.qs]
  have h3 := h.put (updI (updI f (linN sg o) (v % 256)) (linN sg (nxt o)) (v / 256)) (updI (updI g (linN sg o) 0) (linN sg (nxt o)) 0)
  cases t
  · conv => enter [1]; whnf
    exact Ends.some' rfl
  · conv => enter [1]; whnf
    have i1 : decide (0 ≤ linZ sg o ∧ linZ sg o < 1048576) = true := decide_eq_true z1
    have i2 : decide (0 ≤ linZ sg (nxt o) ∧ linZ sg (nxt o) < 1048576) = true := decide_eq_true z2
    have h4 := h3.put (updI (updI f (linN sg o) (v % 256)) (linN sg (nxt o)) (v / 256)) (updI (updI (updI g (linN sg o) 0) (linN sg (nxt o)) 0) (linN sg o) 1)
    rw [putMem_put N H h.qs] at h4
    refine Ends.opt (h3.getP _) ?_
    conv => enter [1]; whnf
    refine Ends.opt (h3.getP _) ?_
    conv => enter [1]; whnf
    refine Ends.iteT i1 ?_
    conv => enter [1]; whnf
    refine Ends.iteT (may_hp hs) ?_
    conv => enter [1]; whnf
    refine Ends.opt (h3.getS _) ?_
    conv => enter [1]; whnf
    refine Ends.opt (putMemAt N _ (linN sg o) 1 (by unfold linN; omega) (by unfold linN; omega)) ?_
    conv => enter [1]; whnf
    refine Ends.force ?_
    conv => enter [1]; whnf
    refine Ends.iteT i2 ?_
    conv => enter [1]; whnf
    refine Ends.iteT (may_hp hs) ?_
    conv => enter [1]; whnf
    refine Ends.opt (show Mem.get _ _ = some (memL N (updI (updI (updI g (linN sg o) 0) (linN sg (nxt o)) 0) (linN sg o) 1)) by rw [putMem_set]; exact h4.getS _) ?_
    conv => enter [1]; whnf
    refine Ends.opt (putMemAt N _ (linN sg (nxt o)) 2 (by unfold linN; omega) (by unfold linN nxt; omega)) ?_
    conv => enter [1]; whnf
    refine Ends.force ?_
    conv => enter [1]; whnf
    refine Ends.some' ?_
    rw [putMem_set, putMem_set]
    rfl
end Go.Proofs.Ytkjcipdfciajhaa.VM
