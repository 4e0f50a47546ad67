/- ValueDoes by the plain machine: reckon, by each word. -/
import Derived.Test.YtdalgfoifdjffaaVUa
namespace Go.Proofs.Ytdalgfoifdjffaa.VM
open Go Go.RowKit
set_option linter.unusedVariables false
set_option linter.unusedSimpArgs false
set_option maxRecDepth 10000

theorem bit_F (k lo : Nat) (hk : 1 ≤ k) (g : Bool) (H : List Blk) : FF k lo 62 [.bool g] H = some (.int .i64 (bif g then -1 else 0), H) := by
  obtain ⟨k, rfl⟩ : ∃ m, k = m + 1 := ⟨k - 1, by omega⟩
  refine eq_of_ends ?_
  conv => enter [1]; whnf
  repeat' (first
    | refine Ends.some' ?_
    | (refine Ends.iteT (by first | with_reducible assumption | (simp [*]; done) | fail "open") ?_; conv => enter [1]; whnf)
    | (refine Ends.iteF (by first | with_reducible assumption | (simp [*]; done) | fail "open") ?_; conv => enter [1]; whnf)
    | (refine Ends.ite (fun h => ?_) (fun h => ?_) <;> (conv => enter [1]; whnf)))
  all_goals (first | (with_reducible rfl) | (simp_all; done))
theorem num_F (k lo : Nat) (hk : 2 ≤ k) (n : Int) (H : List Blk) : FF k lo 28 [.int .i64 n] H = some (.agg [.int .i64 (cutZ n), .int .i64 0, .int .i64 0, .int .i64 0, .int .i64 0, .bool true], H) := by
  obtain ⟨k, rfl⟩ : ∃ m, k = m + 1 := ⟨k - 1, by omega⟩
  refine eq_of_ends ?_
  conv => enter [1]; whnf
  repeat' (first
    | refine Ends.some' ?_
    | (refine Ends.call (vcut_F _ _ (by omega) _ _) ?_; conv => enter [1]; whnf)
    | (refine Ends.iteT (by first | with_reducible assumption | (simp [*]; done) | fail "open") ?_; conv => enter [1]; whnf)
    | (refine Ends.iteF (by first | with_reducible assumption | (simp [*]; done) | fail "open") ?_; conv => enter [1]; whnf)
    | (refine Ends.ite (fun h => ?_) (fun h => ?_) <;> (conv => enter [1]; whnf)))
  all_goals (first | (with_reducible rfl) | (simp_all; done))

theorem reckon0 (k lo : Nat) (hk : 3 ≤ k) (x y : Int) (H : List Blk) : FF k lo 48 [.str ⟨#[42]⟩, .int .i64 x, .int .i64 y] H = some (.tup [.int .i64 (IntKind.i64.wrap (x * y)), .bool true], H) := by
  obtain ⟨k, rfl⟩ : ∃ m, k = m + 1 := ⟨k - 1, by omega⟩
  refine eq_of_ends ?_
  conv => enter [1]; whnf
  repeat' (first
    | refine Ends.some' ?_
    | (refine Ends.iteT (by first | with_reducible assumption | (simp [*]; done) | fail "open") ?_; conv => enter [1]; whnf)
    | (refine Ends.iteF (by first | with_reducible assumption | (simp [*]; done) | fail "open") ?_; conv => enter [1]; whnf)
    | (refine Ends.ite (fun h => ?_) (fun h => ?_) <;> (conv => enter [1]; whnf)))
  all_goals (first | (with_reducible rfl) | (simp_all; done))

theorem compare8 (k lo : Nat) (hk : 2 ≤ k) (x y : Int) (H : List Blk) : FF k lo 61 [.str ⟨#[69,81]⟩, .int .i64 x, .int .i64 y] H = some (.tup [.int .i64 (bif x == y then -1 else 0), .bool true], H) := by
  obtain ⟨k, rfl⟩ : ∃ m, k = m + 1 := ⟨k - 1, by omega⟩
  refine eq_of_ends ?_
  conv => enter [1]; whnf
  repeat' (first
    | refine Ends.some' ?_
    | (refine Ends.call (bit_F _ _ (by omega) _ _) ?_; conv => enter [1]; whnf)
    | (refine Ends.iteT (by first | with_reducible assumption | (simp [*]; done) | fail "open") ?_; conv => enter [1]; whnf)
    | (refine Ends.iteF (by first | with_reducible assumption | (simp [*]; done) | fail "open") ?_; conv => enter [1]; whnf)
    | (refine Ends.ite (fun h => ?_) (fun h => ?_) <;> (conv => enter [1]; whnf)))
  all_goals (first | (with_reducible rfl) | (simp_all; done))

theorem reckon8 (k lo : Nat) (hk : 3 ≤ k) (x y : Int) (H : List Blk) : FF k lo 48 [.str ⟨#[69,81]⟩, .int .i64 x, .int .i64 y] H = some (.tup [.int .i64 (bif x == y then -1 else 0), .bool true], H) := by
  obtain ⟨k, rfl⟩ : ∃ m, k = m + 1 := ⟨k - 1, by omega⟩
  refine eq_of_ends ?_
  conv => enter [1]; whnf
  repeat' (first
    | refine Ends.some' ?_
    | (refine Ends.call (compare8 _ _ (by omega) _ _ _) ?_; conv => enter [1]; whnf)
    | (refine Ends.iteT (by first | with_reducible assumption | (simp [*]; done) | fail "open") ?_; conv => enter [1]; whnf)
    | (refine Ends.iteF (by first | with_reducible assumption | (simp [*]; done) | fail "open") ?_; conv => enter [1]; whnf)
    | (refine Ends.ite (fun h => ?_) (fun h => ?_) <;> (conv => enter [1]; whnf)))
  all_goals (first | (with_reducible rfl) | (simp_all; done))

theorem compare9 (k lo : Nat) (hk : 2 ≤ k) (x y : Int) (H : List Blk) : FF k lo 61 [.str ⟨#[78,69]⟩, .int .i64 x, .int .i64 y] H = some (.tup [.int .i64 (bif x != y then -1 else 0), .bool true], H) := by
  obtain ⟨k, rfl⟩ : ∃ m, k = m + 1 := ⟨k - 1, by omega⟩
  refine eq_of_ends ?_
  conv => enter [1]; whnf
  repeat' (first
    | refine Ends.some' ?_
    | (refine Ends.call (bit_F _ _ (by omega) _ _) ?_; conv => enter [1]; whnf)
    | (refine Ends.iteT (by first | with_reducible assumption | (simp [*]; done) | fail "open") ?_; conv => enter [1]; whnf)
    | (refine Ends.iteF (by first | with_reducible assumption | (simp [*]; done) | fail "open") ?_; conv => enter [1]; whnf)
    | (refine Ends.ite (fun h => ?_) (fun h => ?_) <;> (conv => enter [1]; whnf)))
  all_goals (first | (with_reducible rfl) | (simp_all; done))

theorem reckon9 (k lo : Nat) (hk : 3 ≤ k) (x y : Int) (H : List Blk) : FF k lo 48 [.str ⟨#[78,69]⟩, .int .i64 x, .int .i64 y] H = some (.tup [.int .i64 (bif x != y then -1 else 0), .bool true], H) := by
  obtain ⟨k, rfl⟩ : ∃ m, k = m + 1 := ⟨k - 1, by omega⟩
  refine eq_of_ends ?_
  conv => enter [1]; whnf
  repeat' (first
    | refine Ends.some' ?_
    | (refine Ends.call (compare9 _ _ (by omega) _ _ _) ?_; conv => enter [1]; whnf)
    | (refine Ends.iteT (by first | with_reducible assumption | (simp [*]; done) | fail "open") ?_; conv => enter [1]; whnf)
    | (refine Ends.iteF (by first | with_reducible assumption | (simp [*]; done) | fail "open") ?_; conv => enter [1]; whnf)
    | (refine Ends.ite (fun h => ?_) (fun h => ?_) <;> (conv => enter [1]; whnf)))
  all_goals (first | (with_reducible rfl) | (simp_all; done))

theorem compare10 (k lo : Nat) (hk : 2 ≤ k) (x y : Int) (H : List Blk) : FF k lo 61 [.str ⟨#[76,84]⟩, .int .i64 x, .int .i64 y] H = some (.tup [.int .i64 (bif decide (x < y) then -1 else 0), .bool true], H) := by
  obtain ⟨k, rfl⟩ : ∃ m, k = m + 1 := ⟨k - 1, by omega⟩
  refine eq_of_ends ?_
  conv => enter [1]; whnf
  repeat' (first
    | refine Ends.some' ?_
    | (refine Ends.call (bit_F _ _ (by omega) _ _) ?_; conv => enter [1]; whnf)
    | (refine Ends.iteT (by first | with_reducible assumption | (simp [*]; done) | fail "open") ?_; conv => enter [1]; whnf)
    | (refine Ends.iteF (by first | with_reducible assumption | (simp [*]; done) | fail "open") ?_; conv => enter [1]; whnf)
    | (refine Ends.ite (fun h => ?_) (fun h => ?_) <;> (conv => enter [1]; whnf)))
  all_goals (first | (with_reducible rfl) | (simp_all; done))

theorem reckon10 (k lo : Nat) (hk : 3 ≤ k) (x y : Int) (H : List Blk) : FF k lo 48 [.str ⟨#[76,84]⟩, .int .i64 x, .int .i64 y] H = some (.tup [.int .i64 (bif decide (x < y) then -1 else 0), .bool true], H) := by
  obtain ⟨k, rfl⟩ : ∃ m, k = m + 1 := ⟨k - 1, by omega⟩
  refine eq_of_ends ?_
  conv => enter [1]; whnf
  repeat' (first
    | refine Ends.some' ?_
    | (refine Ends.call (compare10 _ _ (by omega) _ _ _) ?_; conv => enter [1]; whnf)
    | (refine Ends.iteT (by first | with_reducible assumption | (simp [*]; done) | fail "open") ?_; conv => enter [1]; whnf)
    | (refine Ends.iteF (by first | with_reducible assumption | (simp [*]; done) | fail "open") ?_; conv => enter [1]; whnf)
    | (refine Ends.ite (fun h => ?_) (fun h => ?_) <;> (conv => enter [1]; whnf)))
  all_goals (first | (with_reducible rfl) | (simp_all; done))

theorem compare11 (k lo : Nat) (hk : 2 ≤ k) (x y : Int) (H : List Blk) : FF k lo 61 [.str ⟨#[76,69]⟩, .int .i64 x, .int .i64 y] H = some (.tup [.int .i64 (bif decide (x ≤ y) then -1 else 0), .bool true], H) := by
  obtain ⟨k, rfl⟩ : ∃ m, k = m + 1 := ⟨k - 1, by omega⟩
  refine eq_of_ends ?_
  conv => enter [1]; whnf
  repeat' (first
    | refine Ends.some' ?_
    | (refine Ends.call (bit_F _ _ (by omega) _ _) ?_; conv => enter [1]; whnf)
    | (refine Ends.iteT (by first | with_reducible assumption | (simp [*]; done) | fail "open") ?_; conv => enter [1]; whnf)
    | (refine Ends.iteF (by first | with_reducible assumption | (simp [*]; done) | fail "open") ?_; conv => enter [1]; whnf)
    | (refine Ends.ite (fun h => ?_) (fun h => ?_) <;> (conv => enter [1]; whnf)))
  all_goals (first | (with_reducible rfl) | (simp_all; done))

theorem reckon11 (k lo : Nat) (hk : 3 ≤ k) (x y : Int) (H : List Blk) : FF k lo 48 [.str ⟨#[76,69]⟩, .int .i64 x, .int .i64 y] H = some (.tup [.int .i64 (bif decide (x ≤ y) then -1 else 0), .bool true], H) := by
  obtain ⟨k, rfl⟩ : ∃ m, k = m + 1 := ⟨k - 1, by omega⟩
  refine eq_of_ends ?_
  conv => enter [1]; whnf
  repeat' (first
    | refine Ends.some' ?_
    | (refine Ends.call (compare11 _ _ (by omega) _ _ _) ?_; conv => enter [1]; whnf)
    | (refine Ends.iteT (by first | with_reducible assumption | (simp [*]; done) | fail "open") ?_; conv => enter [1]; whnf)
    | (refine Ends.iteF (by first | with_reducible assumption | (simp [*]; done) | fail "open") ?_; conv => enter [1]; whnf)
    | (refine Ends.ite (fun h => ?_) (fun h => ?_) <;> (conv => enter [1]; whnf)))
  all_goals (first | (with_reducible rfl) | (simp_all; done))

theorem compare12 (k lo : Nat) (hk : 2 ≤ k) (x y : Int) (H : List Blk) : FF k lo 61 [.str ⟨#[71,84]⟩, .int .i64 x, .int .i64 y] H = some (.tup [.int .i64 (bif decide (y < x) then -1 else 0), .bool true], H) := by
  obtain ⟨k, rfl⟩ : ∃ m, k = m + 1 := ⟨k - 1, by omega⟩
  refine eq_of_ends ?_
  conv => enter [1]; whnf
  repeat' (first
    | refine Ends.some' ?_
    | (refine Ends.call (bit_F _ _ (by omega) _ _) ?_; conv => enter [1]; whnf)
    | (refine Ends.iteT (by first | with_reducible assumption | (simp [*]; done) | fail "open") ?_; conv => enter [1]; whnf)
    | (refine Ends.iteF (by first | with_reducible assumption | (simp [*]; done) | fail "open") ?_; conv => enter [1]; whnf)
    | (refine Ends.ite (fun h => ?_) (fun h => ?_) <;> (conv => enter [1]; whnf)))
  all_goals (first | (with_reducible rfl) | (simp_all; done))

theorem reckon12 (k lo : Nat) (hk : 3 ≤ k) (x y : Int) (H : List Blk) : FF k lo 48 [.str ⟨#[71,84]⟩, .int .i64 x, .int .i64 y] H = some (.tup [.int .i64 (bif decide (y < x) then -1 else 0), .bool true], H) := by
  obtain ⟨k, rfl⟩ : ∃ m, k = m + 1 := ⟨k - 1, by omega⟩
  refine eq_of_ends ?_
  conv => enter [1]; whnf
  repeat' (first
    | refine Ends.some' ?_
    | (refine Ends.call (compare12 _ _ (by omega) _ _ _) ?_; conv => enter [1]; whnf)
    | (refine Ends.iteT (by first | with_reducible assumption | (simp [*]; done) | fail "open") ?_; conv => enter [1]; whnf)
    | (refine Ends.iteF (by first | with_reducible assumption | (simp [*]; done) | fail "open") ?_; conv => enter [1]; whnf)
    | (refine Ends.ite (fun h => ?_) (fun h => ?_) <;> (conv => enter [1]; whnf)))
  all_goals (first | (with_reducible rfl) | (simp_all; done))

theorem compare13 (k lo : Nat) (hk : 2 ≤ k) (x y : Int) (H : List Blk) : FF k lo 61 [.str ⟨#[71,69]⟩, .int .i64 x, .int .i64 y] H = some (.tup [.int .i64 (bif decide (y ≤ x) then -1 else 0), .bool true], H) := by
  obtain ⟨k, rfl⟩ : ∃ m, k = m + 1 := ⟨k - 1, by omega⟩
  refine eq_of_ends ?_
  conv => enter [1]; whnf
  repeat' (first
    | refine Ends.some' ?_
    | (refine Ends.call (bit_F _ _ (by omega) _ _) ?_; conv => enter [1]; whnf)
    | (refine Ends.iteT (by first | with_reducible assumption | (simp [*]; done) | fail "open") ?_; conv => enter [1]; whnf)
    | (refine Ends.iteF (by first | with_reducible assumption | (simp [*]; done) | fail "open") ?_; conv => enter [1]; whnf)
    | (refine Ends.ite (fun h => ?_) (fun h => ?_) <;> (conv => enter [1]; whnf)))
  all_goals (first | (with_reducible rfl) | (simp_all; done))

theorem reckon13 (k lo : Nat) (hk : 3 ≤ k) (x y : Int) (H : List Blk) : FF k lo 48 [.str ⟨#[71,69]⟩, .int .i64 x, .int .i64 y] H = some (.tup [.int .i64 (bif decide (y ≤ x) then -1 else 0), .bool true], H) := by
  obtain ⟨k, rfl⟩ : ∃ m, k = m + 1 := ⟨k - 1, by omega⟩
  refine eq_of_ends ?_
  conv => enter [1]; whnf
  repeat' (first
    | refine Ends.some' ?_
    | (refine Ends.call (compare13 _ _ (by omega) _ _ _) ?_; conv => enter [1]; whnf)
    | (refine Ends.iteT (by first | with_reducible assumption | (simp [*]; done) | fail "open") ?_; conv => enter [1]; whnf)
    | (refine Ends.iteF (by first | with_reducible assumption | (simp [*]; done) | fail "open") ?_; conv => enter [1]; whnf)
    | (refine Ends.ite (fun h => ?_) (fun h => ?_) <;> (conv => enter [1]; whnf)))
  all_goals (first | (with_reducible rfl) | (simp_all; done))

theorem compare14 (k lo : Nat) (hk : 2 ≤ k) (x y : Int) (H : List Blk) : FF k lo 61 [.str ⟨#[78,79,84]⟩, .int .i64 x, .int .i64 y] H = some (.tup [.int .i64 (0), .bool false], H) := by
  obtain ⟨k, rfl⟩ : ∃ m, k = m + 1 := ⟨k - 1, by omega⟩
  refine eq_of_ends ?_
  conv => enter [1]; whnf
  repeat' (first
    | refine Ends.some' ?_
    | (refine Ends.call (bit_F _ _ (by omega) _ _) ?_; conv => enter [1]; whnf)
    | (refine Ends.iteT (by first | with_reducible assumption | (simp [*]; done) | fail "open") ?_; conv => enter [1]; whnf)
    | (refine Ends.iteF (by first | with_reducible assumption | (simp [*]; done) | fail "open") ?_; conv => enter [1]; whnf)
    | (refine Ends.ite (fun h => ?_) (fun h => ?_) <;> (conv => enter [1]; whnf)))
  all_goals (first | (with_reducible rfl) | (simp_all; done))

theorem reckon14 (k lo : Nat) (hk : 3 ≤ k) (x y : Int) (H : List Blk) : FF k lo 48 [.str ⟨#[78,79,84]⟩, .int .i64 x, .int .i64 y] H = some (.tup [.int .i64 (0), .bool false], H) := by
  obtain ⟨k, rfl⟩ : ∃ m, k = m + 1 := ⟨k - 1, by omega⟩
  refine eq_of_ends ?_
  conv => enter [1]; whnf
  repeat' (first
    | refine Ends.some' ?_
    | (refine Ends.call (compare14 _ _ (by omega) _ _ _) ?_; conv => enter [1]; whnf)
    | (refine Ends.iteT (by first | with_reducible assumption | (simp [*]; done) | fail "open") ?_; conv => enter [1]; whnf)
    | (refine Ends.iteF (by first | with_reducible assumption | (simp [*]; done) | fail "open") ?_; conv => enter [1]; whnf)
    | (refine Ends.ite (fun h => ?_) (fun h => ?_) <;> (conv => enter [1]; whnf)))
  all_goals (first | (with_reducible rfl) | (simp_all; done))

theorem compare15 (k lo : Nat) (hk : 2 ≤ k) (x y : Int) (H : List Blk) : FF k lo 61 [.str ⟨#[43]⟩, .int .i64 x, .int .i64 y] H = some (.tup [.int .i64 (0), .bool false], H) := by
  obtain ⟨k, rfl⟩ : ∃ m, k = m + 1 := ⟨k - 1, by omega⟩
  refine eq_of_ends ?_
  conv => enter [1]; whnf
  repeat' (first
    | refine Ends.some' ?_
    | (refine Ends.call (bit_F _ _ (by omega) _ _) ?_; conv => enter [1]; whnf)
    | (refine Ends.iteT (by first | with_reducible assumption | (simp [*]; done) | fail "open") ?_; conv => enter [1]; whnf)
    | (refine Ends.iteF (by first | with_reducible assumption | (simp [*]; done) | fail "open") ?_; conv => enter [1]; whnf)
    | (refine Ends.ite (fun h => ?_) (fun h => ?_) <;> (conv => enter [1]; whnf)))
  all_goals (first | (with_reducible rfl) | (simp_all; done))

theorem reckon15 (k lo : Nat) (hk : 3 ≤ k) (x y : Int) (H : List Blk) : FF k lo 48 [.str ⟨#[43]⟩, .int .i64 x, .int .i64 y] H = some (.tup [.int .i64 (0), .bool false], H) := by
  obtain ⟨k, rfl⟩ : ∃ m, k = m + 1 := ⟨k - 1, by omega⟩
  refine eq_of_ends ?_
  conv => enter [1]; whnf
  repeat' (first
    | refine Ends.some' ?_
    | (refine Ends.call (compare15 _ _ (by omega) _ _ _) ?_; conv => enter [1]; whnf)
    | (refine Ends.iteT (by first | with_reducible assumption | (simp [*]; done) | fail "open") ?_; conv => enter [1]; whnf)
    | (refine Ends.iteF (by first | with_reducible assumption | (simp [*]; done) | fail "open") ?_; conv => enter [1]; whnf)
    | (refine Ends.ite (fun h => ?_) (fun h => ?_) <;> (conv => enter [1]; whnf)))
  all_goals (first | (with_reducible rfl) | (simp_all; done))

theorem reckon5 (k lo : Nat) (hk : 3 ≤ k) (x y : Int) (H : List Blk) : FF k lo 48 [.str ⟨#[65,78,68]⟩, .int .i64 x, .int .i64 y] H = some (.tup [.int .i64 (IntKind.i64.wrap ((BitVec.ofInt IntKind.i64.bits x &&& BitVec.ofInt IntKind.i64.bits y).toNat : Nat)), .bool true], H) := by
  obtain ⟨k, rfl⟩ : ∃ m, k = m + 1 := ⟨k - 1, by omega⟩
  refine eq_of_ends ?_
  conv => enter [1]; whnf
  repeat' (first
    | refine Ends.some' ?_
    | (refine Ends.iteT (by first | with_reducible assumption | (simp [*]; done) | fail "open") ?_; conv => enter [1]; whnf)
    | (refine Ends.iteF (by first | with_reducible assumption | (simp [*]; done) | fail "open") ?_; conv => enter [1]; whnf)
    | (refine Ends.ite (fun h => ?_) (fun h => ?_) <;> (conv => enter [1]; whnf)))
  all_goals (first | (with_reducible rfl) | (simp_all; done))

theorem reckon6 (k lo : Nat) (hk : 3 ≤ k) (x y : Int) (H : List Blk) : FF k lo 48 [.str ⟨#[79,82]⟩, .int .i64 x, .int .i64 y] H = some (.tup [.int .i64 (IntKind.i64.wrap ((BitVec.ofInt IntKind.i64.bits x ||| BitVec.ofInt IntKind.i64.bits y).toNat : Nat)), .bool true], H) := by
  obtain ⟨k, rfl⟩ : ∃ m, k = m + 1 := ⟨k - 1, by omega⟩
  refine eq_of_ends ?_
  conv => enter [1]; whnf
  repeat' (first
    | refine Ends.some' ?_
    | (refine Ends.iteT (by first | with_reducible assumption | (simp [*]; done) | fail "open") ?_; conv => enter [1]; whnf)
    | (refine Ends.iteF (by first | with_reducible assumption | (simp [*]; done) | fail "open") ?_; conv => enter [1]; whnf)
    | (refine Ends.ite (fun h => ?_) (fun h => ?_) <;> (conv => enter [1]; whnf)))
  all_goals (first | (with_reducible rfl) | (simp_all; done))

theorem reckon7 (k lo : Nat) (hk : 3 ≤ k) (x y : Int) (H : List Blk) : FF k lo 48 [.str ⟨#[88,79,82]⟩, .int .i64 x, .int .i64 y] H = some (.tup [.int .i64 (IntKind.i64.wrap ((BitVec.ofInt IntKind.i64.bits x ^^^ BitVec.ofInt IntKind.i64.bits y).toNat : Nat)), .bool true], H) := by
  obtain ⟨k, rfl⟩ : ∃ m, k = m + 1 := ⟨k - 1, by omega⟩
  refine eq_of_ends ?_
  conv => enter [1]; whnf
  repeat' (first
    | refine Ends.some' ?_
    | (refine Ends.iteT (by first | with_reducible assumption | (simp [*]; done) | fail "open") ?_; conv => enter [1]; whnf)
    | (refine Ends.iteF (by first | with_reducible assumption | (simp [*]; done) | fail "open") ?_; conv => enter [1]; whnf)
    | (refine Ends.ite (fun h => ?_) (fun h => ?_) <;> (conv => enter [1]; whnf)))
  all_goals (first | (with_reducible rfl) | (simp_all; done))

theorem reckon1z (k lo : Nat) (hk : 3 ≤ k) (x y : Int) (hy : y = 0) (H : List Blk) : FF k lo 48 [.str ⟨#[47]⟩, .int .i64 x, .int .i64 y] H = some (.tup [.int .i64 (0), .bool false], H) := by
  obtain ⟨k, rfl⟩ : ∃ m, k = m + 1 := ⟨k - 1, by omega⟩
  refine eq_of_ends ?_
  conv => enter [1]; whnf
  subst hy
  repeat' (first
    | refine Ends.some' ?_
    | (refine Ends.iteT (by first | with_reducible assumption | (simp [*]; done) | fail "open") ?_; conv => enter [1]; whnf)
    | (refine Ends.iteF (by first | with_reducible assumption | (simp [*]; done) | fail "open") ?_; conv => enter [1]; whnf)
    | (refine Ends.ite (fun h => ?_) (fun h => ?_) <;> (conv => enter [1]; whnf)))
  all_goals (first | (with_reducible rfl) | (simp_all; done))

theorem reckon1 (k lo : Nat) (hk : 3 ≤ k) (x y : Int) (hy : (y == 0) = false) (H : List Blk) : FF k lo 48 [.str ⟨#[47]⟩, .int .i64 x, .int .i64 y] H = some (.tup [.int .i64 (IntKind.i64.wrap (x.tdiv y)), .bool true], H) := by
  obtain ⟨k, rfl⟩ : ∃ m, k = m + 1 := ⟨k - 1, by omega⟩
  refine eq_of_ends ?_
  conv => enter [1]; whnf
  repeat' (first
    | refine Ends.some' ?_
    | (refine Ends.iteT (by first | with_reducible assumption | (simp [*]; done) | fail "open") ?_; conv => enter [1]; whnf)
    | (refine Ends.iteF (by first | with_reducible assumption | (simp [*]; done) | fail "open") ?_; conv => enter [1]; whnf)
    | (refine Ends.ite (fun h => ?_) (fun h => ?_) <;> (conv => enter [1]; whnf)))
  all_goals (first | (with_reducible rfl) | (simp_all; done))

theorem reckon2z (k lo : Nat) (hk : 3 ≤ k) (x y : Int) (hy : y = 0) (H : List Blk) : FF k lo 48 [.str ⟨#[77,79,68]⟩, .int .i64 x, .int .i64 y] H = some (.tup [.int .i64 (0), .bool false], H) := by
  obtain ⟨k, rfl⟩ : ∃ m, k = m + 1 := ⟨k - 1, by omega⟩
  refine eq_of_ends ?_
  conv => enter [1]; whnf
  subst hy
  repeat' (first
    | refine Ends.some' ?_
    | (refine Ends.iteT (by first | with_reducible assumption | (simp [*]; done) | fail "open") ?_; conv => enter [1]; whnf)
    | (refine Ends.iteF (by first | with_reducible assumption | (simp [*]; done) | fail "open") ?_; conv => enter [1]; whnf)
    | (refine Ends.ite (fun h => ?_) (fun h => ?_) <;> (conv => enter [1]; whnf)))
  all_goals (first | (with_reducible rfl) | (simp_all; done))

theorem reckon2 (k lo : Nat) (hk : 3 ≤ k) (x y : Int) (hy : (y == 0) = false) (H : List Blk) : FF k lo 48 [.str ⟨#[77,79,68]⟩, .int .i64 x, .int .i64 y] H = some (.tup [.int .i64 (x.tmod y), .bool true], H) := by
  obtain ⟨k, rfl⟩ : ∃ m, k = m + 1 := ⟨k - 1, by omega⟩
  refine eq_of_ends ?_
  conv => enter [1]; whnf
  repeat' (first
    | refine Ends.some' ?_
    | (refine Ends.iteT (by first | with_reducible assumption | (simp [*]; done) | fail "open") ?_; conv => enter [1]; whnf)
    | (refine Ends.iteF (by first | with_reducible assumption | (simp [*]; done) | fail "open") ?_; conv => enter [1]; whnf)
    | (refine Ends.ite (fun h => ?_) (fun h => ?_) <;> (conv => enter [1]; whnf)))
  all_goals (first | (with_reducible rfl) | (simp_all; done))

theorem reckon3 (k lo : Nat) (hk : 3 ≤ k) (x y : Int) (H : List Blk) : FF k lo 48 [.str ⟨#[83,72,76]⟩, .int .i64 x, .int .i64 y] H = some (.tup [.int .i64 (IntKind.i64.wrap (x * 2 ^ (min (y % 32).toNat IntKind.i64.bits))), .bool (decide (0 ≤ y))], H) := by
  obtain ⟨k, rfl⟩ : ∃ m, k = m + 1 := ⟨k - 1, by omega⟩
  refine eq_of_ends ?_
  conv => enter [1]; whnf
  refine Ends.iteF (by rw [and64_31]; simp only [decide_eq_false_iff_not]; omega) ?_
  conv => enter [1]; whnf
  refine Ends.some' ?_
  simp only [and64_31]
  all_goals (first | (with_reducible rfl) | (simp; done))

theorem reckon4 (k lo : Nat) (hk : 3 ≤ k) (x y : Int) (H : List Blk) : FF k lo 48 [.str ⟨#[83,72,82]⟩, .int .i64 x, .int .i64 y] H = some (.tup [.int .i64 (IntKind.i64.wrap ((IntKind.u32.wrap x).fdiv (2 ^ (min (y % 32).toNat IntKind.u32.bits)))), .bool (decide (0 ≤ y))], H) := by
  obtain ⟨k, rfl⟩ : ∃ m, k = m + 1 := ⟨k - 1, by omega⟩
  refine eq_of_ends ?_
  conv => enter [1]; whnf
  refine Ends.iteF (by rw [and64_31]; simp only [decide_eq_false_iff_not]; omega) ?_
  conv => enter [1]; whnf
  refine Ends.some' ?_
  simp only [and64_31]
  all_goals (first | (with_reducible rfl) | (simp; done))

theorem do_F (s : ByteArray) (x y r : Int) (o : Bool) (k lo : Nat) (hk : 4 ≤ k) (H : List Blk) (hr : ∀ k lo, 3 ≤ k → FF k lo 48 [.str s, .int .i64 x, .int .i64 y] H = some (.tup [.int .i64 r, .bool o], H)) : FF k lo 27 [.str s, .agg [.int .i64 x, .int .i64 0, .int .i64 0, .int .i64 0, .int .i64 0, .bool true], .agg [.int .i64 y, .int .i64 0, .int .i64 0, .int .i64 0, .int .i64 0, .bool true]] H = some (.tup [.agg [.int .i64 (cutZ r), .int .i64 0, .int .i64 0, .int .i64 0, .int .i64 0, .bool true], .bool o], H) := by
  obtain ⟨k, rfl⟩ : ∃ m, k = m + 1 := ⟨k - 1, by omega⟩
  refine eq_of_ends ?_
  conv => enter [1]; whnf
  repeat' (first
    | refine Ends.some' ?_
    | (refine Ends.call (plain_F _ _ (by omega) _ _ _ _ _ _ _) ?_; conv => enter [1]; whnf)
    | (refine Ends.call (hr _ _ (by omega)) ?_; conv => enter [1]; whnf)
    | (refine Ends.call (both_F _ _ (by omega) _ _ _ _ _ _ _ _ _ _ _ _ _ _) ?_; conv => enter [1]; whnf)
    | (refine Ends.iteT (by first | with_reducible assumption | (simp [*]; done) | fail "open") ?_; conv => enter [1]; whnf)
    | (refine Ends.iteF (by first | with_reducible assumption | (simp [*]; done) | fail "open") ?_; conv => enter [1]; whnf)
    | (refine Ends.ite (fun h => ?_) (fun h => ?_) <;> (conv => enter [1]; whnf)))
  all_goals (first | (with_reducible rfl) | (simp_all; done))
theorem do_N (s : ByteArray) (y : Int) (k lo : Nat) (hk : 4 ≤ k) (H : List Blk) : FF k lo 27 [.str s, .agg [.int .i64 0, .int .i64 1, .int .i64 0, .int .i64 0, .int .i64 0, .bool false], .agg [.int .i64 y, .int .i64 0, .int .i64 0, .int .i64 0, .int .i64 0, .bool true]] H = some (.tup [.agg [.int .i64 0, .int .i64 0, .int .i64 0, .int .i64 0, .int .i64 0, .bool false], .bool false], H) := by
  obtain ⟨k, rfl⟩ : ∃ m, k = m + 1 := ⟨k - 1, by omega⟩
  refine eq_of_ends ?_
  conv => enter [1]; whnf
  repeat' (first
    | refine Ends.some' ?_
    | (refine Ends.call (plain_F _ _ (by omega) _ _ _ _ _ _ _) ?_; conv => enter [1]; whnf)
    | (refine Ends.iteT (by first | with_reducible assumption | (simp [*]; done) | fail "open") ?_; conv => enter [1]; whnf)
    | (refine Ends.iteF (by first | with_reducible assumption | (simp [*]; done) | fail "open") ?_; conv => enter [1]; whnf)
    | (refine Ends.ite (fun h => ?_) (fun h => ?_) <;> (conv => enter [1]; whnf)))
  all_goals (first | (with_reducible rfl) | (simp_all; done))
theorem numZ_F (k lo : Nat) (hk : 2 ≤ k) (n z : Int) (hz : cutZ n = z) (H : List Blk) : FF k lo 28 [.int .i64 n] H = some (.agg [.int .i64 z, .int .i64 0, .int .i64 0, .int .i64 0, .int .i64 0, .bool true], H) := by
  subst hz
  exact num_F k lo hk n H
theorem i64_wrap (z : Int) : I64 (IntKind.i64.wrap z) := by rw [w64]; unfold I64; omega
theorem cutZ_id {n : Int} (h : -2147483648 ≤ n ∧ n < 2147483648) : cutZ n = n := by unfold cutZ; omega

end Go.Proofs.Ytdalgfoifdjffaa.VM
