/- A memory's bytes by segments in the plain machine. -/
import Derived.Test.YtkjcipdfciajhaaMB
namespace Go.Proofs.Ytkjcipdfciajhaa.VM
open Go Go.RowKit
set_option linter.unusedVariables false
set_option linter.unusedSimpArgs false
set_option maxRecDepth 40000
set_option maxHeartbeats 1600000
/-- A place, as the rows count. -/
def linN (s o : Int) : Nat := (linZ s o).toNat
theorem linZ_mod (s o : Int) : linZ s o % 1048576 = linZ s o := by have := linZ_lt s o; omega
theorem mat_L (mk : Mk) (k lo : Nat) (hk : 2 ≤ k) {N : Nat} {H : List Blk} {p q s : Nat} {f g : Nat → Int} (h : HasMem N H p q s f g) (sg o : Int) : FF mk k lo 24 [.ptr (.hp p) 0, .int .u32 (linZ sg o)] H = some (.int .u8 (f (linN sg o)), H) := by
  have := mat_F mk k lo hk h (linZ sg o) (linZ_lt sg o).1
  rwa [linZ_mod] at this
theorem mplain_L (mk : Mk) (k lo : Nat) (hk : 2 ≤ k) {N : Nat} {H : List Blk} {p q s : Nat} {f g : Nat → Int} (h : HasMem N H p q s f g) (sg o : Int) : FF mk k lo 25 [.ptr (.hp p) 0, .int .u32 (linZ sg o)] H = some (.bool (g (linN sg o) == 0), H) := by
  have := mplain_F mk k lo hk h (linZ sg o) (linZ_lt sg o).1
  rwa [linZ_mod] at this
theorem mset_L (mk : Mk) (k lo : Nat) (hk : 2 ≤ k) {N : Nat} {H : List Blk} {p q s : Nat} {f g : Nat → Int} (h : HasMem N H p q s f g) (hq : lo ≤ q) (hs : lo ≤ s) (sg o b : Int) : FF mk k lo 56 [.ptr (.hp p) 0, .int .u32 (linZ sg o), .int .u8 b] H = some (.tup [], putMem N H q s (updI f (linN sg o) b) (updI g (linN sg o) 0)) := by
  have := mset_F mk k lo hk h hq hs (linZ sg o) b (linZ_lt sg o).1
  rwa [linZ_mod] at this
theorem mbyte_F (mk : Mk) (k lo : Nat) (hk : 3 ≤ k) {N : Nat} {H : List Blk} {p q s : Nat} {f g : Nat → Int} (h : HasMem N H p q s f g) (sg o : Int) (u1 : U16 sg) (u2 : U16 o) : FF mk k lo 44 [.ptr (.hp p) 0, .int .u16 sg, .int .u16 o] H = some (.tup [.int .u8 (f (linN sg o)), .bool (g (linN sg o) == 0)], H) := by
  obtain ⟨k, rfl⟩ : ∃ m, k = m + 1 := ⟨k - 1, by omega⟩
  refine eq_of_ends ?_
  conv => enter [1]; whnf
  refine Ends.call (mlin_F mk _ _ (by omega) _ _ u1 u2 _) ?_
  conv => enter [1]; whnf
  refine Ends.call (mat_L mk _ _ (by omega) h _ _) ?_
  conv => enter [1]; whnf
  refine Ends.call (mplain_L mk _ _ (by omega) h _ _) ?_
  conv => enter [1]; whnf
  exact Ends.some' rfl
theorem msetb_F (mk : Mk) (k lo : Nat) (hk : 3 ≤ k) {N : Nat} {H : List Blk} {p q s : Nat} {f g : Nat → Int} (h : HasMem N H p q s f g) (hq : lo ≤ q) (hs : lo ≤ s) (sg o b : Int) (u1 : U16 sg) (u2 : U16 o) : FF mk k lo 43 [.ptr (.hp p) 0, .int .u16 sg, .int .u16 o, .int .u8 b] H = some (.tup [], putMem N H q s (updI f (linN sg o) b) (updI g (linN sg o) 0)) := by
  obtain ⟨k, rfl⟩ : ∃ m, k = m + 1 := ⟨k - 1, by omega⟩
  refine eq_of_ends ?_
  conv => enter [1]; whnf
  refine Ends.call (mlin_F mk _ _ (by omega) _ _ u1 u2 _) ?_
  conv => enter [1]; whnf
  refine Ends.call (mset_L mk _ _ (by omega) h hq hs _ _ _) ?_
  conv => enter [1]; whnf
  exact Ends.some' rfl
end Go.Proofs.Ytkjcipdfciajhaa.VM
