/- Registers as the plain machine has them: rows of cells, read and written at any place; and the smallest functions on bits. -/
import Derived.Test.YtponkdimnafppaaDoorVX
namespace Go.Proofs.YtponkdimnafppaaDoor.VM
open Go Go.RowKit
set_option linter.unusedVariables false
set_option linter.unusedSimpArgs false
set_option maxRecDepth 40000
abbrev VT := Int × Bool
def pairV (x : VT) : List Val := [.int .u16 x.1, .bool x.2]
/-- The cells of registers. -/
def regsL (g s : Nat → VT) (ip f : Int) : List Val := [.int .u16 (g 0).1, .bool (g 0).2, .int .u16 (g 1).1, .bool (g 1).2, .int .u16 (g 2).1, .bool (g 2).2, .int .u16 (g 3).1, .bool (g 3).2, .int .u16 (g 4).1, .bool (g 4).2, .int .u16 (g 5).1, .bool (g 5).2, .int .u16 (g 6).1, .bool (g 6).2, .int .u16 (g 7).1, .bool (g 7).2, .int .u16 (s 0).1, .bool (s 0).2, .int .u16 (s 1).1, .bool (s 1).2, .int .u16 (s 2).1, .bool (s 2).2, .int .u16 (s 3).1, .bool (s 3).2, .int .u16 ip, .int .u16 f]
def updR (g : Nat → VT) (n : Nat) (x : VT) : Nat → VT := fun i => if i = n then x else g i
theorem updR_same (g : Nat → VT) (n : Nat) (x : VT) : updR g n x n = x := by simp [updR]
theorem lt8 {n : Nat} (h : n < 8) : n = 0 ∨ n = 1 ∨ n = 2 ∨ n = 3 ∨ n = 4 ∨ n = 5 ∨ n = 6 ∨ n = 7 := by omega
theorem lt4 {n : Nat} (h : n < 4) : n = 0 ∨ n = 1 ∨ n = 2 ∨ n = 3 := by omega
theorem regs_part (g s : Nat → VT) (ip f : Int) {n : Nat} (h : n < 8) : part? (n * 2) 2 (regsL g s ip f) = some (pairV (g n)) := by
  rcases lt8 h with rfl | rfl | rfl | rfl | rfl | rfl | rfl | rfl <;> rfl
theorem segs_part (g s : Nat → VT) (ip f : Int) {n : Nat} (h : n < 4) : part? (16 + n * 2) 2 (regsL g s ip f) = some (pairV (s n)) := by
  rcases lt4 h with rfl | rfl | rfl | rfl <;> rfl
theorem regs_put (g s : Nat → VT) (ip f : Int) {n : Nat} (h : n < 8) (x : VT) : putAt (n * 2) (pairV x) (regsL g s ip f) = some (regsL (updR g n x) s ip f) := by
  rcases lt8 h with rfl | rfl | rfl | rfl | rfl | rfl | rfl | rfl <;> rfl
theorem segs_put (g s : Nat → VT) (ip f : Int) {n : Nat} (h : n < 4) (x : VT) : putAt (16 + n * 2) (pairV x) (regsL g s ip f) = some (regsL g (updR s n x) ip f) := by
  rcases lt4 h with rfl | rfl | rfl | rfl <;> rfl
theorem aggVal : aggB Tryd.prog 24 = some true := by kernel_rfl
theorem sizeVal : sizeB Tryd.prog 24 = some 2 := by kernel_rfl
theorem partVal {cs : List Val} {off : Nat} {x : VT} (h : part? off 2 cs = some (pairV x)) : partV Tryd.prog 24 cs off = some (.agg (pairV x)) := by
  unfold partV
  rw [aggVal, sizeVal]
  simp only [h, Option.map_some]
theorem rpart (g s : Nat → VT) (ip f : Int) (n : Nat) {off : Nat} (h : n < 8) (ho : off = n * 2) : partV Tryd.prog 24 (regsL g s ip f) off = some (.agg (pairV (g n))) := by
  subst ho; exact partVal (regs_part g s ip f h)
theorem spart (g s : Nat → VT) (ip f : Int) (n : Nat) {off : Nat} (h : n < 4) (ho : off = 16 + n * 2) : partV Tryd.prog 24 (regsL g s ip f) off = some (.agg (pairV (s n))) := by
  subst ho; exact partVal (segs_part g s ip f h)
theorem rput (g s : Nat → VT) (ip f : Int) (n : Nat) (x : VT) {off : Nat} (h : n < 8) (ho : off = n * 2) : putAt off (pairV x) (regsL g s ip f) = some (regsL (updR g n x) s ip f) := by
  subst ho; exact regs_put g s ip f h x
theorem sput (g s : Nat → VT) (ip f : Int) (n : Nat) (x : VT) {off : Nat} (h : n < 4) (ho : off = 16 + n * 2) : putAt off (pairV x) (regsL g s ip f) = some (regsL g (updR s n x) ip f) := by
  subst ho; exact segs_put g s ip f h x
def U8 (x : Int) : Prop := 0 ≤ x ∧ x < 256
def U16 (x : Int) : Prop := 0 ≤ x ∧ x < 65536
def hiB (x : Int) : Int := x / 256
def loB (x : Int) : Int := x % 256
theorem low_F (mk : Mk) (k lo : Nat) (hk : 1 ≤ k) (n : Int) (H : List Blk) : FF mk k lo 53 [.int .u16 n] H = some (.int .u8 (n % 256), H) := by
  obtain ⟨k, rfl⟩ : ∃ m, k = m + 1 := ⟨k - 1, by omega⟩
  refine eq_of_ends ?_
  conv => enter [1]; whnf
  repeat' (first
    | refine Ends.some' ?_
    | (refine Ends.force ?_; conv => enter [1]; whnf)
    | (refine Ends.forceN ?_; conv => enter [1]; whnf)
    | (refine Ends.forceLs ?_; conv => enter [1]; whnf)
    | (refine Ends.iteT (by first | with_reducible assumption | (simp [*]; done) | (apply decide_eq_true; omega) | fail "open") ?_; conv => enter [1]; whnf)
    | (refine Ends.iteF (by first | with_reducible assumption | (simp [*]; done) | (apply decide_eq_false; omega) | fail "open") ?_; conv => enter [1]; whnf)
    | (refine Ends.ite (fun h => ?_) (fun h => ?_) <;> (conv => enter [1]; whnf)))
  all_goals (simp [wu8])
theorem high_F (mk : Mk) (k lo : Nat) (hk : 1 ≤ k) (n : Int) (hn : U16 n) (H : List Blk) : FF mk k lo 101 [.int .u16 n] H = some (.int .u8 (n / 256), H) := by
  obtain ⟨k, rfl⟩ : ∃ m, k = m + 1 := ⟨k - 1, by omega⟩
  refine eq_of_ends ?_
  conv => enter [1]; whnf
  repeat' (first
    | refine Ends.some' ?_
    | (refine Ends.force ?_; conv => enter [1]; whnf)
    | (refine Ends.forceN ?_; conv => enter [1]; whnf)
    | (refine Ends.forceLs ?_; conv => enter [1]; whnf)
    | (refine Ends.iteT (by first | with_reducible assumption | (simp [*]; done) | (apply decide_eq_true; omega) | fail "open") ?_; conv => enter [1]; whnf)
    | (refine Ends.iteF (by first | with_reducible assumption | (simp [*]; done) | (apply decide_eq_false; omega) | fail "open") ?_; conv => enter [1]; whnf)
    | (refine Ends.ite (fun h => ?_) (fun h => ?_) <;> (conv => enter [1]; whnf)))
  all_goals (simp only [Prod.mk.injEq, Val.int.injEq, true_and, and_true, wu8])
  all_goals (show (n.fdiv 256) % 256 = _; rw [fdiv_pos _ _ (by decide)]; unfold U16 at hn; omega)
theorem word_or (l h : Int) (hl : U8 l) (hh : U8 h) : IntKind.u16.wrap ((BitVec.ofInt IntKind.u16.bits l ||| BitVec.ofInt IntKind.u16.bits (h * 256)).toNat : Nat) = l + 256 * h := by
  obtain ⟨l, rfl⟩ := Int.eq_ofNat_of_zero_le hl.1
  obtain ⟨h, rfl⟩ := Int.eq_ofNat_of_zero_le hh.1
  have h1 : l < 2 ^ 8 := by have := hl.2; omega
  have h2 : h < 256 := by have := hh.2; omega
  have e1 : (BitVec.ofInt IntKind.u16.bits ((l : Int))).toNat = l := by
    rw [BitVec.toNat_ofInt]; show ((l : Int) % 65536).toNat = l; omega
  have e2 : (BitVec.ofInt IntKind.u16.bits ((h : Int) * 256)).toNat = h * 256 := by
    rw [BitVec.toNat_ofInt]; show (((h : Int) * 256) % 65536).toNat = h * 256; omega
  rw [BitVec.toNat_or, e1, e2, Nat.or_comm, show h * 256 = 2 ^ 8 * h by omega, ← Nat.two_pow_add_eq_or_of_lt h1, wu16]
  omega
theorem bword_F (mk : Mk) (k lo : Nat) (hk : 1 ≤ k) (l h : Int) (hl : U8 l) (hh : U8 h) (H : List Blk) : FF mk k lo 99 [.int .u8 l, .int .u8 h] H = some (.int .u16 (l + 256 * h), H) := by
  obtain ⟨k, rfl⟩ : ∃ m, k = m + 1 := ⟨k - 1, by omega⟩
  refine eq_of_ends ?_
  conv => enter [1]; whnf
  repeat' (first
    | refine Ends.some' ?_
    | (refine Ends.force ?_; conv => enter [1]; whnf)
    | (refine Ends.forceN ?_; conv => enter [1]; whnf)
    | (refine Ends.forceLs ?_; conv => enter [1]; whnf)
    | (refine Ends.iteT (by first | with_reducible assumption | (simp [*]; done) | (apply decide_eq_true; omega) | fail "open") ?_; conv => enter [1]; whnf)
    | (refine Ends.iteF (by first | with_reducible assumption | (simp [*]; done) | (apply decide_eq_false; omega) | fail "open") ?_; conv => enter [1]; whnf)
    | (refine Ends.ite (fun h => ?_) (fun h => ?_) <;> (conv => enter [1]; whnf)))
  all_goals (simp only [Prod.mk.injEq, Val.int.injEq, true_and, and_true])
  all_goals (have h1 := hl; have h2 := hh; unfold U8 at h1 h2; rw [wu16 l, wu16 h, Int.emod_eq_of_lt h1.1 (by omega), Int.emod_eq_of_lt h2.1 (by omega)])
  all_goals (show IntKind.u16.wrap ((BitVec.ofInt IntKind.u16.bits l ||| BitVec.ofInt IntKind.u16.bits (IntKind.u16.wrap (h * 256))).toNat : Nat) = _; rw [wu16 (h * 256), Int.emod_eq_of_lt (by omega) (by omega)]; exact word_or l h hl hh)
theorem isword_F (mk : Mk) (k lo : Nat) (hk : 1 ≤ k) (n : Int) (H : List Blk) : FF mk k lo 81 [.int .i64 n] H = some (.bool (decide (0 ≤ n) && decide (n < 8)), H) := by
  obtain ⟨k, rfl⟩ : ∃ m, k = m + 1 := ⟨k - 1, by omega⟩
  refine eq_of_ends ?_
  conv => enter [1]; whnf
  repeat' (first
    | refine Ends.some' ?_
    | (refine Ends.force ?_; conv => enter [1]; whnf)
    | (refine Ends.forceN ?_; conv => enter [1]; whnf)
    | (refine Ends.forceLs ?_; conv => enter [1]; whnf)
    | (refine Ends.iteT (by first | with_reducible assumption | (simp [*]; done) | (apply decide_eq_true; omega) | fail "open") ?_; conv => enter [1]; whnf)
    | (refine Ends.iteF (by first | with_reducible assumption | (simp [*]; done) | (apply decide_eq_false; omega) | fail "open") ?_; conv => enter [1]; whnf)
    | (refine Ends.ite (fun h => ?_) (fun h => ?_) <;> (conv => enter [1]; whnf)))
  all_goals (first | (with_reducible rfl) | (simp_all; done) | (simp_all; omega))
theorem rget_F (mk : Mk) (k lo : Nat) (hk : 2 ≤ k) (g s : Nat → VT) (ip f n : Int) (h : 0 ≤ n ∧ n < 8) (H : List Blk) : FF mk k lo 37 [.agg (regsL g s ip f), .int .i64 n] H = some (.agg (pairV (g n.toNat)), H) := by
  obtain ⟨k, rfl⟩ : ∃ m, k = m + 1 := ⟨k - 1, by omega⟩
  have hw : (decide (0 ≤ n) && decide (n < 8)) = true := by simp [h.1, h.2]
  refine eq_of_ends ?_
  conv => enter [1]; whnf
  repeat' (first
    | refine Ends.some' ?_
    | (refine Ends.force ?_; conv => enter [1]; whnf)
    | (refine Ends.forceN ?_; conv => enter [1]; whnf)
    | (refine Ends.forceLs ?_; conv => enter [1]; whnf)
    | (refine Ends.call (isword_F _ _ _ (by omega) _ _) ?_; conv => enter [1]; whnf)
    | (refine Ends.opt (rpart g s ip f n.toNat (by omega) (by omega)) ?_; conv => enter [1]; whnf)
    | (refine Ends.iteT (by first | with_reducible assumption | (simp [*]; done) | (apply decide_eq_true; omega) | fail "open") ?_; conv => enter [1]; whnf)
    | (refine Ends.iteF (by first | with_reducible assumption | (simp [*]; done) | (apply decide_eq_false; omega) | fail "open") ?_; conv => enter [1]; whnf)
    | (refine Ends.ite (fun h => ?_) (fun h => ?_) <;> (conv => enter [1]; whnf)))
  all_goals (first | (with_reducible rfl) | rfl | (simp_all; done))
theorem rgetN_F (mk : Mk) (k lo : Nat) (hk : 2 ≤ k) (g s : Nat → VT) (ip f n : Int) (h : ¬ (0 ≤ n ∧ n < 8)) (H : List Blk) : FF mk k lo 37 [.agg (regsL g s ip f), .int .i64 n] H = some (.agg (pairV (0, false)), H) := by
  obtain ⟨k, rfl⟩ : ∃ m, k = m + 1 := ⟨k - 1, by omega⟩
  have hw : (decide (0 ≤ n) && decide (n < 8)) = false := by simp; omega
  refine eq_of_ends ?_
  conv => enter [1]; whnf
  repeat' (first
    | refine Ends.some' ?_
    | (refine Ends.force ?_; conv => enter [1]; whnf)
    | (refine Ends.forceN ?_; conv => enter [1]; whnf)
    | (refine Ends.forceLs ?_; conv => enter [1]; whnf)
    | (refine Ends.call (isword_F _ _ _ (by omega) _ _) ?_; conv => enter [1]; whnf)
    | (refine Ends.iteT (by first | with_reducible assumption | (simp [*]; done) | (apply decide_eq_true; omega) | fail "open") ?_; conv => enter [1]; whnf)
    | (refine Ends.iteF (by first | with_reducible assumption | (simp [*]; done) | (apply decide_eq_false; omega) | fail "open") ?_; conv => enter [1]; whnf)
    | (refine Ends.ite (fun h => ?_) (fun h => ?_) <;> (conv => enter [1]; whnf)))
  all_goals (first | (with_reducible rfl) | rfl | (simp_all; done))
theorem rput_F (mk : Mk) (k lo : Nat) (hk : 2 ≤ k) (g s : Nat → VT) (ip f n : Int) (x : VT) (h : 0 ≤ n ∧ n < 8) (H : List Blk) : FF mk k lo 54 [.agg (regsL g s ip f), .int .i64 n, .agg (pairV x)] H = some (.agg (regsL (updR g n.toNat x) s ip f), H) := by
  obtain ⟨k, rfl⟩ : ∃ m, k = m + 1 := ⟨k - 1, by omega⟩
  have hw : (decide (0 ≤ n) && decide (n < 8)) = true := by simp [h.1, h.2]
  refine eq_of_ends ?_
  conv => enter [1]; whnf
  repeat' (first
    | refine Ends.some' ?_
    | (refine Ends.force ?_; conv => enter [1]; whnf)
    | (refine Ends.forceN ?_; conv => enter [1]; whnf)
    | (refine Ends.forceLs ?_; conv => enter [1]; whnf)
    | (refine Ends.call (isword_F _ _ _ (by omega) _ _) ?_; conv => enter [1]; whnf)
    | (refine Ends.opt (rput g s ip f n.toNat x (by omega) (by omega)) ?_; conv => enter [1]; whnf)
    | (refine Ends.iteT (by first | with_reducible assumption | (simp [*]; done) | (apply decide_eq_true; omega) | fail "open") ?_; conv => enter [1]; whnf)
    | (refine Ends.iteF (by first | with_reducible assumption | (simp [*]; done) | (apply decide_eq_false; omega) | fail "open") ?_; conv => enter [1]; whnf)
    | (refine Ends.ite (fun h => ?_) (fun h => ?_) <;> (conv => enter [1]; whnf)))
  all_goals (first | (with_reducible rfl) | rfl | (simp_all; done))
theorem rputN_F (mk : Mk) (k lo : Nat) (hk : 2 ≤ k) (g s : Nat → VT) (ip f n : Int) (x : VT) (h : ¬ (0 ≤ n ∧ n < 8)) (H : List Blk) : FF mk k lo 54 [.agg (regsL g s ip f), .int .i64 n, .agg (pairV x)] H = some (.agg (regsL g s ip f), H) := by
  obtain ⟨k, rfl⟩ : ∃ m, k = m + 1 := ⟨k - 1, by omega⟩
  have hw : (decide (0 ≤ n) && decide (n < 8)) = false := by simp; omega
  refine eq_of_ends ?_
  conv => enter [1]; whnf
  repeat' (first
    | refine Ends.some' ?_
    | (refine Ends.force ?_; conv => enter [1]; whnf)
    | (refine Ends.forceN ?_; conv => enter [1]; whnf)
    | (refine Ends.forceLs ?_; conv => enter [1]; whnf)
    | (refine Ends.call (isword_F _ _ _ (by omega) _ _) ?_; conv => enter [1]; whnf)
    | (refine Ends.iteT (by first | with_reducible assumption | (simp [*]; done) | (apply decide_eq_true; omega) | fail "open") ?_; conv => enter [1]; whnf)
    | (refine Ends.iteF (by first | with_reducible assumption | (simp [*]; done) | (apply decide_eq_false; omega) | fail "open") ?_; conv => enter [1]; whnf)
    | (refine Ends.ite (fun h => ?_) (fun h => ?_) <;> (conv => enter [1]; whnf)))
  all_goals (first | (with_reducible rfl) | rfl | (simp_all; done))
theorem rseg_F (mk : Mk) (k lo : Nat) (hk : 2 ≤ k) (g s : Nat → VT) (ip f n : Int) (h : 0 ≤ n ∧ n < 4) (H : List Blk) : FF mk k lo 38 [.agg (regsL g s ip f), .int .i64 n] H = some (.agg (pairV (s n.toNat)), H) := by
  obtain ⟨k, rfl⟩ : ∃ m, k = m + 1 := ⟨k - 1, by omega⟩
  have h1 : ¬ n < 0 := by omega
  have h2 : ¬ 3 < n := by omega
  refine eq_of_ends ?_
  conv => enter [1]; whnf
  repeat' (first
    | refine Ends.some' ?_
    | (refine Ends.force ?_; conv => enter [1]; whnf)
    | (refine Ends.forceN ?_; conv => enter [1]; whnf)
    | (refine Ends.forceLs ?_; conv => enter [1]; whnf)
    | (refine Ends.opt (spart g s ip f n.toNat (by omega) (by omega)) ?_; conv => enter [1]; whnf)
    | (refine Ends.iteT (by first | with_reducible assumption | (simp [*]; done) | (apply decide_eq_true; omega) | fail "open") ?_; conv => enter [1]; whnf)
    | (refine Ends.iteF (by first | with_reducible assumption | (simp [*]; done) | (apply decide_eq_false; omega) | fail "open") ?_; conv => enter [1]; whnf)
    | (refine Ends.ite (fun h => ?_) (fun h => ?_) <;> (conv => enter [1]; whnf)))
  all_goals (first | (with_reducible rfl) | rfl | (simp_all; done))
theorem rsegN_F (mk : Mk) (k lo : Nat) (hk : 2 ≤ k) (g s : Nat → VT) (ip f n : Int) (h : ¬ (0 ≤ n ∧ n < 4)) (H : List Blk) : FF mk k lo 38 [.agg (regsL g s ip f), .int .i64 n] H = some (.agg (pairV (0, false)), H) := by
  obtain ⟨k, rfl⟩ : ∃ m, k = m + 1 := ⟨k - 1, by omega⟩
  rcases (by omega : n < 0 ∨ 3 < n) with h1 | h1
  · have h2 : ¬ 0 ≤ n := by omega
    refine eq_of_ends ?_
    conv => enter [1]; whnf
    repeat' (first
      | refine Ends.some' ?_
      | (refine Ends.force ?_; conv => enter [1]; whnf)
      | (refine Ends.forceN ?_; conv => enter [1]; whnf)
      | (refine Ends.forceLs ?_; conv => enter [1]; whnf)
      | (refine Ends.iteT (by first | with_reducible assumption | (simp [*]; done) | (apply decide_eq_true; omega) | fail "open") ?_; conv => enter [1]; whnf)
      | (refine Ends.iteF (by first | with_reducible assumption | (simp [*]; done) | (apply decide_eq_false; omega) | fail "open") ?_; conv => enter [1]; whnf)
      | (refine Ends.ite (fun h => ?_) (fun h => ?_) <;> (conv => enter [1]; whnf)))
    all_goals (first | (with_reducible rfl) | rfl | (simp_all; done))
  · have h2 : ¬ n < 0 := by omega
    have h3 : 0 ≤ n := by omega
    have h4 : ¬ n ≤ 3 := by omega
    refine eq_of_ends ?_
    conv => enter [1]; whnf
    repeat' (first
      | refine Ends.some' ?_
      | (refine Ends.force ?_; conv => enter [1]; whnf)
      | (refine Ends.forceN ?_; conv => enter [1]; whnf)
      | (refine Ends.forceLs ?_; conv => enter [1]; whnf)
      | (refine Ends.iteT (by first | with_reducible assumption | (simp [*]; done) | (apply decide_eq_true; omega) | fail "open") ?_; conv => enter [1]; whnf)
      | (refine Ends.iteF (by first | with_reducible assumption | (simp [*]; done) | (apply decide_eq_false; omega) | fail "open") ?_; conv => enter [1]; whnf)
      | (refine Ends.ite (fun h => ?_) (fun h => ?_) <;> (conv => enter [1]; whnf)))
    all_goals (first | (with_reducible rfl) | rfl | (simp_all; done))
theorem rputs_F (mk : Mk) (k lo : Nat) (hk : 2 ≤ k) (g s : Nat → VT) (ip f n : Int) (x : VT) (h : 0 ≤ n ∧ n < 4) (H : List Blk) : FF mk k lo 55 [.agg (regsL g s ip f), .int .i64 n, .agg (pairV x)] H = some (.agg (regsL g (updR s n.toNat x) ip f), H) := by
  obtain ⟨k, rfl⟩ : ∃ m, k = m + 1 := ⟨k - 1, by omega⟩
  have h1 : 0 ≤ n := by omega
  have h2 : n ≤ 3 := by omega
  refine eq_of_ends ?_
  conv => enter [1]; whnf
  repeat' (first
    | refine Ends.some' ?_
    | (refine Ends.force ?_; conv => enter [1]; whnf)
    | (refine Ends.forceN ?_; conv => enter [1]; whnf)
    | (refine Ends.forceLs ?_; conv => enter [1]; whnf)
    | (refine Ends.opt (sput g s ip f n.toNat x (by omega) (by omega)) ?_; conv => enter [1]; whnf)
    | (refine Ends.iteT (by first | with_reducible assumption | (simp [*]; done) | (apply decide_eq_true; omega) | fail "open") ?_; conv => enter [1]; whnf)
    | (refine Ends.iteF (by first | with_reducible assumption | (simp [*]; done) | (apply decide_eq_false; omega) | fail "open") ?_; conv => enter [1]; whnf)
    | (refine Ends.ite (fun h => ?_) (fun h => ?_) <;> (conv => enter [1]; whnf)))
  all_goals (first | (with_reducible rfl) | rfl | (simp_all; done))
theorem rputsN_F (mk : Mk) (k lo : Nat) (hk : 2 ≤ k) (g s : Nat → VT) (ip f n : Int) (x : VT) (h : ¬ (0 ≤ n ∧ n < 4)) (H : List Blk) : FF mk k lo 55 [.agg (regsL g s ip f), .int .i64 n, .agg (pairV x)] H = some (.agg (regsL g s ip f), H) := by
  obtain ⟨k, rfl⟩ : ∃ m, k = m + 1 := ⟨k - 1, by omega⟩
  rcases (by omega : n < 0 ∨ 3 < n) with h1 | h1
  · have h2 : ¬ 0 ≤ n := by omega
    refine eq_of_ends ?_
    conv => enter [1]; whnf
    repeat' (first
      | refine Ends.some' ?_
      | (refine Ends.force ?_; conv => enter [1]; whnf)
      | (refine Ends.forceN ?_; conv => enter [1]; whnf)
      | (refine Ends.forceLs ?_; conv => enter [1]; whnf)
      | (refine Ends.iteT (by first | with_reducible assumption | (simp [*]; done) | (apply decide_eq_true; omega) | fail "open") ?_; conv => enter [1]; whnf)
      | (refine Ends.iteF (by first | with_reducible assumption | (simp [*]; done) | (apply decide_eq_false; omega) | fail "open") ?_; conv => enter [1]; whnf)
      | (refine Ends.ite (fun h => ?_) (fun h => ?_) <;> (conv => enter [1]; whnf)))
    all_goals (first | (with_reducible rfl) | rfl | (simp_all; done))
  · have h2 : ¬ n < 0 := by omega
    have h3 : 0 ≤ n := by omega
    have h4 : ¬ n ≤ 3 := by omega
    refine eq_of_ends ?_
    conv => enter [1]; whnf
    repeat' (first
      | refine Ends.some' ?_
      | (refine Ends.force ?_; conv => enter [1]; whnf)
      | (refine Ends.forceN ?_; conv => enter [1]; whnf)
      | (refine Ends.forceLs ?_; conv => enter [1]; whnf)
      | (refine Ends.iteT (by first | with_reducible assumption | (simp [*]; done) | (apply decide_eq_true; omega) | fail "open") ?_; conv => enter [1]; whnf)
      | (refine Ends.iteF (by first | with_reducible assumption | (simp [*]; done) | (apply decide_eq_false; omega) | fail "open") ?_; conv => enter [1]; whnf)
      | (refine Ends.ite (fun h => ?_) (fun h => ?_) <;> (conv => enter [1]; whnf)))
    all_goals (first | (with_reducible rfl) | rfl | (simp_all; done))
end Go.Proofs.YtponkdimnafppaaDoor.VM
