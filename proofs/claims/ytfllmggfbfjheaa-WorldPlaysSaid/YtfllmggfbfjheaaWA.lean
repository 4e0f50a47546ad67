/- Registers as the plain machine has them: rows of cells, read and written at any place; and the smallest functions on bits. -/
import Derived.Test.YtfllmggfbfjheaaVX
namespace Go.Proofs.Ytfllmggfbfjheaa.VM
open Go Go.RowKit
set_option linter.unusedVariables false
set_option linter.unusedSimpArgs false
set_option maxRecDepth 40000
abbrev VT := Int × Bool
def pairV (x : VT) : List Val := [.int .u16 x.1, .bool x.2]
/-- The cells of registers. -/
def regsL (g s : Nat → VT) (ip f : Int) : List Val := [.int .u16 (g 0).1, .bool (g 0).2, .int .u16 (g 1).1, .bool (g 1).2, .int .u16 (g 2).1, .bool (g 2).2, .int .u16 (g 3).1, .bool (g 3).2, .int .u16 (g 4).1, .bool (g 4).2, .int .u16 (g 5).1, .bool (g 5).2, .int .u16 (g 6).1, .bool (g 6).2, .int .u16 (g 7).1, .bool (g 7).2, .int .u16 (s 0).1, .bool (s 0).2, .int .u16 (s 1).1, .bool (s 1).2, .int .u16 (s 2).1, .bool (s 2).2, .int .u16 (s 3).1, .bool (s 3).2, .int .u16 ip, .int .u16 f]
def updR (g : Nat → VT) (n : Nat) (x : VT) : Nat → VT := fun i => if i = n then x else g i
theorem updR_same (g : Nat → VT) (n : Nat) (x : VT) : updR g n x n = x := by simp [updR]
theorem lt8 {n : Nat} (h : n < 8) : n = 0 ∨ n = 1 ∨ n = 2 ∨ n = 3 ∨ n = 4 ∨ n = 5 ∨ n = 6 ∨ n = 7 := by omega
theorem lt4 {n : Nat} (h : n < 4) : n = 0 ∨ n = 1 ∨ n = 2 ∨ n = 3 := by omega
theorem regs_part (g s : Nat → VT) (ip f : Int) {n : Nat} (h : n < 8) : part? (n * 2) 2 (regsL g s ip f) = some (pairV (g n)) := by
  rcases lt8 h with rfl | rfl | rfl | rfl | rfl | rfl | rfl | rfl <;> rfl
theorem segs_part (g s : Nat → VT) (ip f : Int) {n : Nat} (h : n < 4) : part? (16 + n * 2) 2 (regsL g s ip f) = some (pairV (s n)) := by
  rcases lt4 h with rfl | rfl | rfl | rfl <;> rfl
theorem regs_put (g s : Nat → VT) (ip f : Int) {n : Nat} (h : n < 8) (x : VT) : putAt (n * 2) (pairV x) (regsL g s ip f) = some (regsL (updR g n x) s ip f) := by
  rcases lt8 h with rfl | rfl | rfl | rfl | rfl | rfl | rfl | rfl <;> rfl
theorem segs_put (g s : Nat → VT) (ip f : Int) {n : Nat} (h : n < 4) (x : VT) : putAt (16 + n * 2) (pairV x) (regsL g s ip f) = some (regsL g (updR s n x) ip f) := by
  rcases lt4 h with rfl | rfl | rfl | rfl <;> rfl
def U8 (x : Int) : Prop := 0 ≤ x ∧ x < 256
def U16 (x : Int) : Prop := 0 ≤ x ∧ x < 65536
def hiB (x : Int) : Int := x / 256
def loB (x : Int) : Int := x % 256
theorem low_F (mk : Mk) (k lo : Nat) (hk : 1 ≤ k) (n : Int) (H : List Blk) : FF mk k lo 35 [.int .u16 n] H = some (.int .u8 (n % 256), H) := by
  obtain ⟨k, rfl⟩ : ∃ m, k = m + 1 := ⟨k - 1, by omega⟩
  refine eq_of_ends ?_
  conv => enter [1]; whnf
  repeat' (first
    | refine Ends.some' ?_
    | (refine Ends.force ?_; conv => enter [1]; whnf)
    | (refine Ends.forceN ?_; conv => enter [1]; whnf)
    | (refine Ends.forceLs ?_; conv => enter [1]; whnf)
    | (refine Ends.iteT (by first | with_reducible assumption | (simp [*]; done) | (apply decide_eq_true; omega) | fail "open") ?_; conv => enter [1]; whnf)
    | (refine Ends.iteF (by first | with_reducible assumption | (simp [*]; done) | (apply decide_eq_false; omega) | fail "open") ?_; conv => enter [1]; whnf)
    | (refine Ends.ite (fun h => ?_) (fun h => ?_) <;> (conv => enter [1]; whnf)))
  all_goals (simp [wu8])
theorem high_F (mk : Mk) (k lo : Nat) (hk : 1 ≤ k) (n : Int) (hn : U16 n) (H : List Blk) : FF mk k lo 37 [.int .u16 n] H = some (.int .u8 (n / 256), H) := by
  obtain ⟨k, rfl⟩ : ∃ m, k = m + 1 := ⟨k - 1, by omega⟩
  refine eq_of_ends ?_
  conv => enter [1]; whnf
  repeat' (first
    | refine Ends.some' ?_
    | (refine Ends.force ?_; conv => enter [1]; whnf)
    | (refine Ends.forceN ?_; conv => enter [1]; whnf)
    | (refine Ends.forceLs ?_; conv => enter [1]; whnf)
    | (refine Ends.iteT (by first | with_reducible assumption | (simp [*]; done) | (apply decide_eq_true; omega) | fail "open") ?_; conv => enter [1]; whnf)
    | (refine Ends.iteF (by first | with_reducible assumption | (simp [*]; done) | (apply decide_eq_false; omega) | fail "open") ?_; conv => enter [1]; whnf)
    | (refine Ends.ite (fun h => ?_) (fun h => ?_) <;> (conv => enter [1]; whnf)))
  all_goals (simp only [Prod.mk.injEq, Val.int.injEq, true_and, and_true, wu8])
  all_goals (show (n.fdiv 256) % 256 = _; rw [fdiv_pos _ _ (by decide)]; unfold U16 at hn; omega)
end Go.Proofs.Ytfllmggfbfjheaa.VM
