/- Registers' bytes as the plain machine has them. -/
import Derived.Test.YtponkdimnafppaaDoorWA
namespace Go.Proofs.YtponkdimnafppaaDoor.VM
open Go Go.RowKit
set_option linter.unusedVariables false
set_option linter.unusedSimpArgs false
set_option maxRecDepth 40000
/-- A register's byte. -/
def byteOf (g : Nat → VT) (n : Int) : Int := if 3 < n then (g (n.toNat % 4)).1 / 256 else (g (n.toNat % 4)).1 % 256
/-- A word with another byte. -/
def withByte (g : Nat → VT) (n b : Int) : Int := if 3 < n then (g (n.toNat % 4)).1 % 256 + 256 * b else b + 256 * ((g (n.toNat % 4)).1 / 256)
theorem i8cases {n : Int} (h : 0 ≤ n ∧ n < 8) : n = 0 ∨ n = 1 ∨ n = 2 ∨ n = 3 ∨ n = 4 ∨ n = 5 ∨ n = 6 ∨ n = 7 := by omega
theorem u8_low (x : Int) : U8 (x % 256) := by unfold U8; omega
theorem u8_high {x : Int} (h : U16 x) : U8 (x / 256) := by unfold U8; unfold U16 at h; omega
theorem eqBadRegs (mk : Mk) : mk.bad Tryd.prog 28 = false := (mk.bad_ok _ _).trans (by kernel_rfl)
theorem eqBadVal (mk : Mk) : mk.bad Tryd.prog 24 = false := (mk.bad_ok _ _).trans (by kernel_rfl)
theorem rbyte_F (mk : Mk) (k lo : Nat) (hk : 2 ≤ k) (g s : Nat → VT) (ip f n : Int) (hg : ∀ i, U16 (g i).1) (h : 0 ≤ n ∧ n < 8) (H : List Blk) : FF mk k lo 89 [.agg (regsL g s ip f), .int .i64 n] H = some (.tup [.int .u8 (byteOf g n), .bool (!(g (n.toNat % 4)).2)], H) := by
  obtain ⟨k, rfl⟩ : ∃ m, k = m + 1 := ⟨k - 1, by omega⟩
  have h0 := hg 0
  have h1 := hg 1
  have h2 := hg 2
  have h3 := hg 3
  rcases i8cases h with rfl | rfl | rfl | rfl | rfl | rfl | rfl | rfl
  all_goals
    refine eq_of_ends ?_
    conv => enter [1]; whnf
    repeat' (first
      | refine Ends.some' ?_
      | (refine Ends.force ?_; conv => enter [1]; whnf)
      | (refine Ends.forceN ?_; conv => enter [1]; whnf)
      | (refine Ends.forceLs ?_; conv => enter [1]; whnf)
      | (refine Ends.call (isword_F _ _ _ (by omega) _ _) ?_; conv => enter [1]; whnf)
      | (refine Ends.call (low_F _ _ _ (by omega) _ _) ?_; conv => enter [1]; whnf)
      | (refine Ends.call (high_F _ _ _ (by omega) _ (by assumption) _) ?_; conv => enter [1]; whnf)
      | (refine Ends.iteT (by first | with_reducible assumption | (simp [*]; done) | (apply decide_eq_true; omega) | fail "open") ?_; conv => enter [1]; whnf)
      | (refine Ends.iteF (by first | with_reducible assumption | (simp [*]; done) | (apply decide_eq_false; omega) | fail "open") ?_; conv => enter [1]; whnf)
      | (refine Ends.ite (fun h => ?_) (fun h => ?_) <;> (conv => enter [1]; whnf)))
  all_goals (first | (with_reducible rfl) | rfl | (simp_all; done))
theorem rbyteN_F (mk : Mk) (k lo : Nat) (hk : 2 ≤ k) (g s : Nat → VT) (ip f n : Int) (h : ¬ (0 ≤ n ∧ n < 8)) (H : List Blk) : FF mk k lo 89 [.agg (regsL g s ip f), .int .i64 n] H = some (.tup [.int .u8 0, .bool true], H) := by
  obtain ⟨k, rfl⟩ : ∃ m, k = m + 1 := ⟨k - 1, by omega⟩
  have hw : (decide (0 ≤ n) && decide (n < 8)) = false := by simp; omega
  refine eq_of_ends ?_
  conv => enter [1]; whnf
  repeat' (first
    | refine Ends.some' ?_
    | (refine Ends.force ?_; conv => enter [1]; whnf)
    | (refine Ends.forceN ?_; conv => enter [1]; whnf)
    | (refine Ends.forceLs ?_; conv => enter [1]; whnf)
    | (refine Ends.call (isword_F _ _ _ (by omega) _ _) ?_; conv => enter [1]; whnf)
    | (refine Ends.iteT (by first | with_reducible assumption | (simp [*]; done) | (apply decide_eq_true; omega) | fail "open") ?_; conv => enter [1]; whnf)
    | (refine Ends.iteF (by first | with_reducible assumption | (simp [*]; done) | (apply decide_eq_false; omega) | fail "open") ?_; conv => enter [1]; whnf)
    | (refine Ends.ite (fun h => ?_) (fun h => ?_) <;> (conv => enter [1]; whnf)))
  all_goals (first | (with_reducible rfl) | rfl | (simp_all; done))
theorem rputb_F (mk : Mk) (k lo : Nat) (hk : 2 ≤ k) (g s : Nat → VT) (ip f n b : Int) (hg : ∀ i, U16 (g i).1) (hb : U8 b) (h : 0 ≤ n ∧ n < 8) (H : List Blk) : FF mk k lo 90 [.agg (regsL g s ip f), .int .i64 n, .int .u8 b] H = some (.tup [.agg (regsL (updR g (n.toNat % 4) (withByte g n b, false)) s ip f), .bool (!(g (n.toNat % 4)).2)], H) := by
  obtain ⟨k, rfl⟩ : ∃ m, k = m + 1 := ⟨k - 1, by omega⟩
  have h0 := hg 0
  have h1 := hg 1
  have h2 := hg 2
  have h3 := hg 3
  have u0 := u8_high h0
  have u1 := u8_high h1
  have u2 := u8_high h2
  have u3 := u8_high h3
  rcases i8cases h with rfl | rfl | rfl | rfl | rfl | rfl | rfl | rfl
  all_goals
    refine eq_of_ends ?_
    conv => enter [1]; whnf
    repeat' (first
      | refine Ends.some' ?_
      | (refine Ends.force ?_; conv => enter [1]; whnf)
      | (refine Ends.forceN ?_; conv => enter [1]; whnf)
      | (refine Ends.forceLs ?_; conv => enter [1]; whnf)
      | (refine Ends.call (isword_F _ _ _ (by omega) _ _) ?_; conv => enter [1]; whnf)
      | (refine Ends.call (low_F _ _ _ (by omega) _ _) ?_; conv => enter [1]; whnf)
      | (refine Ends.call (high_F _ _ _ (by omega) _ (by assumption) _) ?_; conv => enter [1]; whnf)
      | (refine Ends.call (bword_F _ _ _ (by omega) _ _ (by first | assumption | exact u8_low _) (by first | assumption | exact u8_low _) _) ?_; conv => enter [1]; whnf)
      | (refine Ends.iteT (by first | with_reducible assumption | (simp [*]; done) | (apply decide_eq_true; omega) | fail "open") ?_; conv => enter [1]; whnf)
      | (refine Ends.iteF (by first | with_reducible assumption | (simp [*]; done) | (apply decide_eq_false; omega) | fail "open") ?_; conv => enter [1]; whnf)
      | (refine Ends.ite (fun h => ?_) (fun h => ?_) <;> (conv => enter [1]; whnf)))
  all_goals (first | (with_reducible rfl) | rfl | (simp_all; done))
theorem rputbN_F (mk : Mk) (k lo : Nat) (hk : 2 ≤ k) (g s : Nat → VT) (ip f n b : Int) (h : ¬ (0 ≤ n ∧ n < 8)) (H : List Blk) : FF mk k lo 90 [.agg (regsL g s ip f), .int .i64 n, .int .u8 b] H = some (.tup [.agg (regsL g s ip f), .bool true], H) := by
  obtain ⟨k, rfl⟩ : ∃ m, k = m + 1 := ⟨k - 1, by omega⟩
  have hw : (decide (0 ≤ n) && decide (n < 8)) = false := by simp; omega
  refine eq_of_ends ?_
  conv => enter [1]; whnf
  repeat' (first
    | refine Ends.some' ?_
    | (refine Ends.force ?_; conv => enter [1]; whnf)
    | (refine Ends.forceN ?_; conv => enter [1]; whnf)
    | (refine Ends.forceLs ?_; conv => enter [1]; whnf)
    | (refine Ends.call (isword_F _ _ _ (by omega) _ _) ?_; conv => enter [1]; whnf)
    | (refine Ends.iteT (by first | with_reducible assumption | (simp [*]; done) | (apply decide_eq_true; omega) | fail "open") ?_; conv => enter [1]; whnf)
    | (refine Ends.iteF (by first | with_reducible assumption | (simp [*]; done) | (apply decide_eq_false; omega) | fail "open") ?_; conv => enter [1]; whnf)
    | (refine Ends.ite (fun h => ?_) (fun h => ?_) <;> (conv => enter [1]; whnf)))
  all_goals (first | (with_reducible rfl) | rfl | (simp_all; done))
end Go.Proofs.YtponkdimnafppaaDoor.VM
