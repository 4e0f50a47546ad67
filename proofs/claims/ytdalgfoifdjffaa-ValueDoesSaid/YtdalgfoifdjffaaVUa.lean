/- ValueAdds by the plain machine. -/
import Derived.Test.YtdalgfoifdjffaaVT
namespace Go.Proofs.Ytdalgfoifdjffaa.VM
open Go Go.RowKit
set_option linter.unusedVariables false
set_option linter.unusedSimpArgs false
set_option maxRecDepth 10000
def cutZ (n : Int) : Int := (n + 2147483648) % 4294967296 - 2147483648
theorem cut_F (k lo : Nat) (hk : 1 ≤ k) (n : Int) (hn : I64 n) (H : List Blk) : FF k lo 26 [.int .i64 n] H = some (.int .i64 (cutZ n), H) := by
  obtain ⟨k, rfl⟩ : ∃ m, k = m + 1 := ⟨k - 1, by omega⟩
  refine eq_of_ends ?_
  conv => enter [1]; whnf
  repeat' (first
    | refine Ends.some' ?_
    | (refine Ends.ite (fun h => ?_) (fun h => ?_) <;> (conv => enter [1]; whnf)))
  all_goals (simp only [Prod.mk.injEq, Val.int.injEq, true_and, and_true, w64, decide_eq_true_eq, decide_eq_false_iff_not, tmod_pos _ 4294967296 (by decide), cutZ, I64] at *)
  all_goals (split at * <;> omega)
theorem vcut_F (k lo : Nat) (hk : 1 ≤ k) (n : Int) (H : List Blk) : FF k lo 50 [.int .i64 n] H = some (.int .i64 (cutZ n), H) := by
  obtain ⟨k, rfl⟩ : ∃ m, k = m + 1 := ⟨k - 1, by omega⟩
  refine eq_of_ends ?_
  conv => enter [1]; whnf
  refine Ends.some' ?_
  simp only [Prod.mk.injEq, Val.int.injEq, true_and, and_true, w64, w32, cutZ]
  omega
theorem near_F (k lo : Nat) (hk : 2 ≤ k) (a b c d e : Int) (g : Bool) (ha : I64 a) (he : I64 e) (H : List Blk) : FF k lo 32 [.agg [.int .i64 a, .int .i64 b, .int .i64 c, .int .i64 d, .int .i64 e, .bool g]] H = some (.agg [.int .i64 (cutZ a), .int .i64 (b % 4), .int .i64 (c % 2), .int .i64 d, .int .i64 (if b % 4 = 0 then 0 else e % 256 % 3), .bool g], H) := by
  obtain ⟨k, rfl⟩ : ∃ m, k = m + 1 := ⟨k - 1, by omega⟩
  refine eq_of_ends ?_
  conv => enter [1]; whnf
  refine Ends.call (cut_F k _ (by omega) _ ha _) ?_
  conv => enter [1]; whnf
  repeat' (first
    | refine Ends.some' ?_
    | (refine Ends.ite (fun h => ?_) (fun h => ?_) <;> (conv => enter [1]; whnf)))
  all_goals (simp only [and64_3, and64_1, and64_255, beq_iff_eq, beq_eq_false_iff_ne, ne_eq] at *)
  · simp [h]
  · simp only [h, if_false, tmod_pos _ 3 (by decide)]
    rw [if_pos (by omega)]
theorem cutZ_w (x : Int) : cutZ (IntKind.i64.wrap x) = cutZ x := by rw [w64]; unfold cutZ; omega
theorem cutZ_neg (x y : Int) : cutZ (x + IntKind.i64.wrap (0 - y)) = cutZ (x - y) := by rw [w64]; unfold cutZ; omega
theorem moved_F (k lo : Nat) (hk : 2 ≤ k) (an af aw at' aa n : Int) (ak g : Bool) (H : List Blk) : FF k lo 51 [.agg [.int .i64 an, .int .i64 af, .int .i64 aw, .int .i64 at', .int .i64 aa, .bool ak], .int .i64 n, .bool g] H = some (.agg [.int .i64 (cutZ (an + n)), .int .i64 af, .int .i64 aw, .int .i64 at', .int .i64 aa, .bool (ak && g)], H) := by
  obtain ⟨k, rfl⟩ : ∃ m, k = m + 1 := ⟨k - 1, by omega⟩
  refine eq_of_ends ?_
  conv => enter [1]; whnf
  refine Ends.call (vcut_F k _ (by omega) _ _) ?_
  conv => enter [1]; whnf
  repeat' (first
    | refine Ends.some' ?_
    | (refine Ends.ite (fun h => ?_) (fun h => ?_) <;> (conv => enter [1]; whnf)))
  all_goals (simp only [cutZ_w])
  all_goals (try simp_all)
theorem both_F (k lo : Nat) (hk : 2 ≤ k) (an af aw at' aa bn bf bw bt ba n : Int) (ak bk : Bool) (H : List Blk) : FF k lo 49 [.agg [.int .i64 an, .int .i64 af, .int .i64 aw, .int .i64 at', .int .i64 aa, .bool ak], .agg [.int .i64 bn, .int .i64 bf, .int .i64 bw, .int .i64 bt, .int .i64 ba, .bool bk], .int .i64 n] H = some (.agg [.int .i64 (cutZ n), .int .i64 0, .int .i64 0, .int .i64 0, .int .i64 0, .bool (ak && bk)], H) := by
  obtain ⟨k, rfl⟩ : ∃ m, k = m + 1 := ⟨k - 1, by omega⟩
  refine eq_of_ends ?_
  conv => enter [1]; whnf
  refine Ends.call (vcut_F k _ (by omega) _ _) ?_
  conv => enter [1]; whnf
  repeat' (first
    | refine Ends.some' ?_
    | (refine Ends.ite (fun h => ?_) (fun h => ?_) <;> (conv => enter [1]; whnf)))
  all_goals (try simp_all)
theorem plain_F (k lo : Nat) (hk : 1 ≤ k) (an af aw at' aa : Int) (ak : Bool) (H : List Blk) : FF k lo 35 [.agg [.int .i64 an, .int .i64 af, .int .i64 aw, .int .i64 at', .int .i64 aa, .bool ak]] H = some (.bool (af == 0 && aa == 0), H) := by
  obtain ⟨k, rfl⟩ : ∃ m, k = m + 1 := ⟨k - 1, by omega⟩
  refine eq_of_ends ?_
  conv => enter [1]; whnf
  repeat' (first
    | refine Ends.some' ?_
    | (refine Ends.ite (fun h => ?_) (fun h => ?_) <;> (conv => enter [1]; whnf)))
  all_goals (try simp_all)
theorem awake29_F (k lo : Nat) (hk : 12 ≤ k) (H : List Blk) : FF k lo 29 [] H = some (.bool true, H) := by
  obtain ⟨k, rfl⟩ : ∃ m, k = m + 12 := ⟨k - 12, by omega⟩
  kernel_rfl
theorem add1 (k lo : Nat) (hk : 3 ≤ k) (an af aw at' aa bn bf bw bt ba : Int) (ak bk : Bool) (hb : (bf == 0 && ba == 0) = true) (H : List Blk) : FF k lo 33 [.agg [.int .i64 an, .int .i64 af, .int .i64 aw, .int .i64 at', .int .i64 aa, .bool ak], .agg [.int .i64 bn, .int .i64 bf, .int .i64 bw, .int .i64 bt, .int .i64 ba, .bool bk]] H = some (.tup [.agg [.int .i64 (cutZ (an + bn)), .int .i64 af, .int .i64 aw, .int .i64 at', .int .i64 aa, .bool (ak && bk)], .bool true], H) := by
  obtain ⟨k, rfl⟩ : ∃ m, k = m + 1 := ⟨k - 1, by omega⟩
  refine eq_of_ends ?_
  conv => enter [1]; whnf
  repeat' (first
    | refine Ends.some' ?_
    | (refine Ends.call (plain_F _ _ (by omega) _ _ _ _ _ _ _) ?_; conv => enter [1]; whnf)
    | (refine Ends.call (moved_F _ _ (by omega) _ _ _ _ _ _ _ _ _) ?_; conv => enter [1]; whnf)
    | (refine Ends.call (both_F _ _ (by omega) _ _ _ _ _ _ _ _ _ _ _ _ _ _) ?_; conv => enter [1]; whnf)
    | (refine Ends.ite (fun h => ?_) (fun h => ?_) <;> (conv => enter [1]; whnf)))
  all_goals (first | (with_reducible rfl) | (simp_all; done))
theorem add2 (k lo : Nat) (hk : 3 ≤ k) (an af aw at' aa bn bf bw bt ba : Int) (ak bk : Bool) (hb : (bf == 0 && ba == 0) = false) (ha : (af == 0 && aa == 0) = true) (H : List Blk) : FF k lo 33 [.agg [.int .i64 an, .int .i64 af, .int .i64 aw, .int .i64 at', .int .i64 aa, .bool ak], .agg [.int .i64 bn, .int .i64 bf, .int .i64 bw, .int .i64 bt, .int .i64 ba, .bool bk]] H = some (.tup [.agg [.int .i64 (cutZ (an + bn)), .int .i64 bf, .int .i64 bw, .int .i64 bt, .int .i64 ba, .bool (bk && ak)], .bool true], H) := by
  obtain ⟨k, rfl⟩ : ∃ m, k = m + 1 := ⟨k - 1, by omega⟩
  refine eq_of_ends ?_
  conv => enter [1]; whnf
  repeat' (first
    | refine Ends.some' ?_
    | (refine Ends.call (plain_F _ _ (by omega) _ _ _ _ _ _ _) ?_; conv => enter [1]; whnf)
    | (refine Ends.call (moved_F _ _ (by omega) _ _ _ _ _ _ _ _ _) ?_; conv => enter [1]; whnf)
    | (refine Ends.call (both_F _ _ (by omega) _ _ _ _ _ _ _ _ _ _ _ _ _ _) ?_; conv => enter [1]; whnf)
    | (refine Ends.ite (fun h => ?_) (fun h => ?_) <;> (conv => enter [1]; whnf)))
  all_goals (try simp only [Int.add_comm bn an])
  all_goals (first | (with_reducible rfl) | (simp_all; done))
theorem add3 (k lo : Nat) (hk : 3 ≤ k) (an af aw at' aa bn bf bw bt ba : Int) (ak bk : Bool) (hb : (bf == 0 && ba == 0) = false) (ha : (af == 0 && aa == 0) = false) (H : List Blk) : FF k lo 33 [.agg [.int .i64 an, .int .i64 af, .int .i64 aw, .int .i64 at', .int .i64 aa, .bool ak], .agg [.int .i64 bn, .int .i64 bf, .int .i64 bw, .int .i64 bt, .int .i64 ba, .bool bk]] H = some (.tup [.agg [.int .i64 0, .int .i64 0, .int .i64 0, .int .i64 0, .int .i64 0, .bool false], .bool false], H) := by
  obtain ⟨k, rfl⟩ : ∃ m, k = m + 1 := ⟨k - 1, by omega⟩
  refine eq_of_ends ?_
  conv => enter [1]; whnf
  repeat' (first
    | refine Ends.some' ?_
    | (refine Ends.call (plain_F _ _ (by omega) _ _ _ _ _ _ _) ?_; conv => enter [1]; whnf)
    | (refine Ends.call (moved_F _ _ (by omega) _ _ _ _ _ _ _ _ _) ?_; conv => enter [1]; whnf)
    | (refine Ends.call (both_F _ _ (by omega) _ _ _ _ _ _ _ _ _ _ _ _ _ _) ?_; conv => enter [1]; whnf)
    | (refine Ends.ite (fun h => ?_) (fun h => ?_) <;> (conv => enter [1]; whnf)))
  all_goals (first | (with_reducible rfl) | (simp_all; done))
theorem sub1 (k lo : Nat) (hk : 3 ≤ k) (an af aw at' aa bn bf bw bt ba : Int) (ak bk : Bool) (hb : (bf == 0 && ba == 0) = true) (H : List Blk) : FF k lo 34 [.agg [.int .i64 an, .int .i64 af, .int .i64 aw, .int .i64 at', .int .i64 aa, .bool ak], .agg [.int .i64 bn, .int .i64 bf, .int .i64 bw, .int .i64 bt, .int .i64 ba, .bool bk]] H = some (.tup [.agg [.int .i64 (cutZ (an - bn)), .int .i64 af, .int .i64 aw, .int .i64 at', .int .i64 aa, .bool (ak && bk)], .bool true], H) := by
  obtain ⟨k, rfl⟩ : ∃ m, k = m + 1 := ⟨k - 1, by omega⟩
  refine eq_of_ends ?_
  conv => enter [1]; whnf
  repeat' (first
    | refine Ends.some' ?_
    | (refine Ends.call (plain_F _ _ (by omega) _ _ _ _ _ _ _) ?_; conv => enter [1]; whnf)
    | (refine Ends.call (moved_F _ _ (by omega) _ _ _ _ _ _ _ _ _) ?_; conv => enter [1]; whnf)
    | (refine Ends.call (both_F _ _ (by omega) _ _ _ _ _ _ _ _ _ _ _ _ _ _) ?_; conv => enter [1]; whnf)
    | (refine Ends.ite (fun h => ?_) (fun h => ?_) <;> (conv => enter [1]; whnf)))
  all_goals (try simp only [cutZ_neg, cutZ_w])
  all_goals (first | (with_reducible rfl) | (simp_all; done))
theorem sub2 (k lo : Nat) (hk : 3 ≤ k) (an af aw at' aa bn bf bw bt ba : Int) (ak bk : Bool) (hb : (bf == 0 && ba == 0) = false) (hs : (af == bf && aw == bw && aa == ba && aa != 2) = true) (H : List Blk) : FF k lo 34 [.agg [.int .i64 an, .int .i64 af, .int .i64 aw, .int .i64 at', .int .i64 aa, .bool ak], .agg [.int .i64 bn, .int .i64 bf, .int .i64 bw, .int .i64 bt, .int .i64 ba, .bool bk]] H = some (.tup [.agg [.int .i64 (cutZ (an - bn)), .int .i64 0, .int .i64 0, .int .i64 0, .int .i64 0, .bool (ak && bk)], .bool true], H) := by
  obtain ⟨k, rfl⟩ : ∃ m, k = m + 1 := ⟨k - 1, by omega⟩
  refine eq_of_ends ?_
  conv => enter [1]; whnf
  repeat' (first
    | refine Ends.some' ?_
    | (refine Ends.call (plain_F _ _ (by omega) _ _ _ _ _ _ _) ?_; conv => enter [1]; whnf)
    | (refine Ends.call (moved_F _ _ (by omega) _ _ _ _ _ _ _ _ _) ?_; conv => enter [1]; whnf)
    | (refine Ends.call (both_F _ _ (by omega) _ _ _ _ _ _ _ _ _ _ _ _ _ _) ?_; conv => enter [1]; whnf)
    | (refine Ends.ite (fun h => ?_) (fun h => ?_) <;> (conv => enter [1]; whnf)))
  all_goals (try simp only [cutZ_neg, cutZ_w])
  all_goals (first | (with_reducible rfl) | (simp_all; done))
theorem sub3 (k lo : Nat) (hk : 3 ≤ k) (an af aw at' aa bn bf bw bt ba : Int) (ak bk : Bool) (hb : (bf == 0 && ba == 0) = false) (hs : (af == bf && aw == bw && aa == ba && aa != 2) = false) (H : List Blk) : FF k lo 34 [.agg [.int .i64 an, .int .i64 af, .int .i64 aw, .int .i64 at', .int .i64 aa, .bool ak], .agg [.int .i64 bn, .int .i64 bf, .int .i64 bw, .int .i64 bt, .int .i64 ba, .bool bk]] H = some (.tup [.agg [.int .i64 0, .int .i64 0, .int .i64 0, .int .i64 0, .int .i64 0, .bool false], .bool false], H) := by
  obtain ⟨k, rfl⟩ : ∃ m, k = m + 1 := ⟨k - 1, by omega⟩
  refine eq_of_ends ?_
  conv => enter [1]; whnf
  repeat' (first
    | refine Ends.some' ?_
    | (refine Ends.call (plain_F _ _ (by omega) _ _ _ _ _ _ _) ?_; conv => enter [1]; whnf)
    | (refine Ends.call (moved_F _ _ (by omega) _ _ _ _ _ _ _ _ _) ?_; conv => enter [1]; whnf)
    | (refine Ends.call (both_F _ _ (by omega) _ _ _ _ _ _ _ _ _ _ _ _ _ _) ?_; conv => enter [1]; whnf)
    | (refine Ends.ite (fun h => ?_) (fun h => ?_) <;> (conv => enter [1]; whnf)))
  all_goals (try simp only [cutZ_neg, cutZ_w])
  all_goals (first | (with_reducible rfl) | (simp_all; done))
end Go.Proofs.Ytdalgfoifdjffaa.VM
