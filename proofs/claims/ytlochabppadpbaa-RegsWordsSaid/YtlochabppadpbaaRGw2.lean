/- RegsWords by the plain machine. -/
import Derived.Test.YtlochabppadpbaaWB
namespace Go.Proofs.Ytlochabppadpbaa.VM
open Go Go.RowKit
set_option linter.unusedVariables false
set_option linter.unusedSimpArgs false
set_option maxRecDepth 40000
set_option maxHeartbeats 1600000
theorem regsWords_mid_neg (mk : Mk) (g s : Nat → VT) (ip f n j : Int) (x : VT) (h : 3 < n ∧ n < 8) (h' : j < 0) : Ends (FF mk 14 0 6 [.agg (regsL g s ip f), .agg [.int .i64 n, .int .i64 j], .agg (pairV x)] []) (fun r => r.1 = .bool true) := by
  obtain ⟨k, hk⟩ : ∃ k, k = 13 := ⟨_, rfl⟩
  show Ends (FF mk (13 + 1) 0 6 _ _) _
  rw [← hk]
  have h1 : 0 ≤ n := by omega
  have h2 : n < 8 := by omega
  have h3 : ¬ n < 4 := by omega
  have j1 : ¬ 0 ≤ j := by omega
  conv => enter [1]; whnf
  repeat' (first
    | refine Ends.some' ?_
    | (refine Ends.force ?_; conv => enter [1]; whnf)
    | (refine Ends.forceN ?_; conv => enter [1]; whnf)
    | (refine Ends.call (awake03_F _ _ _ (by omega) _) ?_; conv => enter [1]; whnf)
    | (refine Ends.call (rput_F _ _ _ (by omega) _ _ _ _ _ _ (by omega) _) ?_; conv => enter [1]; whnf)
    | (refine Ends.call (rputsN_F _ _ _ (by omega) _ _ _ _ _ _ (by omega) _) ?_; conv => enter [1]; whnf)
    | (refine Ends.opt (rput g s ip f n.toNat x (by omega) (by omega)) ?_; conv => enter [1]; whnf)
    | (refine Ends.call (rgetN_F _ _ _ (by omega) (updR g n.toNat x) s ip f _ (by omega) _) ?_; conv => enter [1]; whnf)
    | (refine Ends.call (rsegN_F _ _ _ (by omega) g s ip f _ (by omega) _) ?_; conv => enter [1]; whnf)
    | (refine Ends.iteF (by with_reducible exact (eqBadRegs mk)) ?_; conv => enter [1]; whnf)
    | (refine Ends.iteF (by with_reducible exact (eqBadVal mk)) ?_; conv => enter [1]; whnf)
    | (refine Ends.iteT (by first | with_reducible assumption | (simp [*]; done) | fail "open") ?_; conv => enter [1]; whnf)
    | (refine Ends.iteF (by first | with_reducible assumption | (simp [*]; done) | fail "open") ?_; conv => enter [1]; whnf)
    | (refine Ends.ite (fun h => ?_) (fun h => ?_) <;> (conv => enter [1]; whnf)))
  all_goals (first | (with_reducible rfl) | rfl | (simp_all; done))
theorem regsWords_mid_big (mk : Mk) (g s : Nat → VT) (ip f n j : Int) (x : VT) (h : 3 < n ∧ n < 8) (h' : 7 < j) : Ends (FF mk 14 0 6 [.agg (regsL g s ip f), .agg [.int .i64 n, .int .i64 j], .agg (pairV x)] []) (fun r => r.1 = .bool true) := by
  obtain ⟨k, hk⟩ : ∃ k, k = 13 := ⟨_, rfl⟩
  show Ends (FF mk (13 + 1) 0 6 _ _) _
  rw [← hk]
  have h1 : 0 ≤ n := by omega
  have h2 : n < 8 := by omega
  have h3 : ¬ n < 4 := by omega
  have j1 : 0 ≤ j := by omega
  have j2 : ¬ j < 8 := by omega
  have j3 : ¬ j < 4 := by omega
  conv => enter [1]; whnf
  repeat' (first
    | refine Ends.some' ?_
    | (refine Ends.force ?_; conv => enter [1]; whnf)
    | (refine Ends.forceN ?_; conv => enter [1]; whnf)
    | (refine Ends.call (awake03_F _ _ _ (by omega) _) ?_; conv => enter [1]; whnf)
    | (refine Ends.call (rput_F _ _ _ (by omega) _ _ _ _ _ _ (by omega) _) ?_; conv => enter [1]; whnf)
    | (refine Ends.call (rputsN_F _ _ _ (by omega) _ _ _ _ _ _ (by omega) _) ?_; conv => enter [1]; whnf)
    | (refine Ends.opt (rput g s ip f n.toNat x (by omega) (by omega)) ?_; conv => enter [1]; whnf)
    | (refine Ends.call (rgetN_F _ _ _ (by omega) (updR g n.toNat x) s ip f _ (by omega) _) ?_; conv => enter [1]; whnf)
    | (refine Ends.call (rsegN_F _ _ _ (by omega) g s ip f _ (by omega) _) ?_; conv => enter [1]; whnf)
    | (refine Ends.iteF (by with_reducible exact (eqBadRegs mk)) ?_; conv => enter [1]; whnf)
    | (refine Ends.iteF (by with_reducible exact (eqBadVal mk)) ?_; conv => enter [1]; whnf)
    | (refine Ends.iteT (by first | with_reducible assumption | (simp [*]; done) | fail "open") ?_; conv => enter [1]; whnf)
    | (refine Ends.iteF (by first | with_reducible assumption | (simp [*]; done) | fail "open") ?_; conv => enter [1]; whnf)
    | (refine Ends.ite (fun h => ?_) (fun h => ?_) <;> (conv => enter [1]; whnf)))
  all_goals (first | (with_reducible rfl) | rfl | (simp_all; done))
theorem regsWords_mid_mid (mk : Mk) (g s : Nat → VT) (ip f n j : Int) (x : VT) (h : 3 < n ∧ n < 8) (h' : 3 < j ∧ j < 8) : Ends (FF mk 14 0 6 [.agg (regsL g s ip f), .agg [.int .i64 n, .int .i64 j], .agg (pairV x)] []) (fun r => r.1 = .bool true) := by
  obtain ⟨k, hk⟩ : ∃ k, k = 13 := ⟨_, rfl⟩
  show Ends (FF mk (13 + 1) 0 6 _ _) _
  rw [← hk]
  have h1 : 0 ≤ n := by omega
  have h2 : n < 8 := by omega
  have h3 : ¬ n < 4 := by omega
  have j1 : 0 ≤ j := by omega
  have j2 : j < 8 := by omega
  have j3 : ¬ j < 4 := by omega
  conv => enter [1]; whnf
  repeat' (first
    | refine Ends.some' ?_
    | (refine Ends.force ?_; conv => enter [1]; whnf)
    | (refine Ends.forceN ?_; conv => enter [1]; whnf)
    | (refine Ends.call (awake03_F _ _ _ (by omega) _) ?_; conv => enter [1]; whnf)
    | (refine Ends.call (rput_F _ _ _ (by omega) _ _ _ _ _ _ (by omega) _) ?_; conv => enter [1]; whnf)
    | (refine Ends.call (rputsN_F _ _ _ (by omega) _ _ _ _ _ _ (by omega) _) ?_; conv => enter [1]; whnf)
    | (refine Ends.opt (rput g s ip f n.toNat x (by omega) (by omega)) ?_; conv => enter [1]; whnf)
    | (refine Ends.call (rget_F _ _ _ (by omega) (updR g n.toNat x) s ip f _ (by omega) _) ?_; conv => enter [1]; whnf)
    | (refine Ends.call (rsegN_F _ _ _ (by omega) g s ip f _ (by omega) _) ?_; conv => enter [1]; whnf)
    | (refine Ends.opt (rpart (updR g n.toNat x) s ip f j.toNat (by omega) (by omega)) ?_; conv => enter [1]; whnf)
    | (refine Ends.iteF (by with_reducible exact (eqBadRegs mk)) ?_; conv => enter [1]; whnf)
    | (refine Ends.iteF (by with_reducible exact (eqBadVal mk)) ?_; conv => enter [1]; whnf)
    | (refine Ends.iteT (by first | with_reducible assumption | (simp [*]; done) | fail "open") ?_; conv => enter [1]; whnf)
    | (refine Ends.iteF (by first | with_reducible assumption | (simp [*]; done) | fail "open") ?_; conv => enter [1]; whnf)
    | (refine Ends.ite (fun h => ?_) (fun h => ?_) <;> (conv => enter [1]; whnf)))
  all_goals (first | (with_reducible rfl) | rfl | (simp_all; done))
theorem regsWords_mid_small (mk : Mk) (g s : Nat → VT) (ip f n j : Int) (x : VT) (h : 3 < n ∧ n < 8) (h' : 0 ≤ j ∧ j < 4) : Ends (FF mk 14 0 6 [.agg (regsL g s ip f), .agg [.int .i64 n, .int .i64 j], .agg (pairV x)] []) (fun r => r.1 = .bool true) := by
  obtain ⟨k, hk⟩ : ∃ k, k = 13 := ⟨_, rfl⟩
  show Ends (FF mk (13 + 1) 0 6 _ _) _
  rw [← hk]
  have h1 : 0 ≤ n := by omega
  have h2 : n < 8 := by omega
  have h3 : ¬ n < 4 := by omega
  have j1 : 0 ≤ j := by omega
  have j2 : j < 8 := by omega
  have j3 : j < 4 := by omega
  conv => enter [1]; whnf
  repeat' (first
    | refine Ends.some' ?_
    | (refine Ends.force ?_; conv => enter [1]; whnf)
    | (refine Ends.forceN ?_; conv => enter [1]; whnf)
    | (refine Ends.call (awake03_F _ _ _ (by omega) _) ?_; conv => enter [1]; whnf)
    | (refine Ends.call (rput_F _ _ _ (by omega) _ _ _ _ _ _ (by omega) _) ?_; conv => enter [1]; whnf)
    | (refine Ends.call (rputsN_F _ _ _ (by omega) _ _ _ _ _ _ (by omega) _) ?_; conv => enter [1]; whnf)
    | (refine Ends.opt (rput g s ip f n.toNat x (by omega) (by omega)) ?_; conv => enter [1]; whnf)
    | (refine Ends.call (rget_F _ _ _ (by omega) (updR g n.toNat x) s ip f _ (by omega) _) ?_; conv => enter [1]; whnf)
    | (refine Ends.call (rseg_F _ _ _ (by omega) g s ip f _ (by omega) _) ?_; conv => enter [1]; whnf)
    | (refine Ends.opt (rpart (updR g n.toNat x) s ip f j.toNat (by omega) (by omega)) ?_; conv => enter [1]; whnf)
    | (refine Ends.opt (spart g s ip f j.toNat (by omega) (by omega)) ?_; conv => enter [1]; whnf)
    | (refine Ends.iteF (by with_reducible exact (eqBadRegs mk)) ?_; conv => enter [1]; whnf)
    | (refine Ends.iteF (by with_reducible exact (eqBadVal mk)) ?_; conv => enter [1]; whnf)
    | (refine Ends.iteT (by first | with_reducible assumption | (simp [*]; done) | fail "open") ?_; conv => enter [1]; whnf)
    | (refine Ends.iteF (by first | with_reducible assumption | (simp [*]; done) | fail "open") ?_; conv => enter [1]; whnf)
    | (refine Ends.ite (fun h => ?_) (fun h => ?_) <;> (conv => enter [1]; whnf)))
  all_goals (first | (with_reducible rfl) | rfl | (simp_all; done))
end Go.Proofs.Ytlochabppadpbaa.VM
