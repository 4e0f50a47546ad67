/- RegsBytes by the plain machine. -/
import Derived.Test.YtlochabppadpbaaRGb0
namespace Go.Proofs.Ytlochabppadpbaa.VM
open Go Go.RowKit
set_option linter.unusedVariables false
set_option linter.unusedSimpArgs false
set_option maxRecDepth 40000
set_option maxHeartbeats 1600000
theorem regsBytes_6 (mk : Mk) (g s : Nat → VT) (ip f b : Int) (hg : ∀ i, U16 (g i).1) (hb : U8 b) : Ends (FF mk 14 0 5 [.agg (regsL g s ip f), .int .i64 6, .int .u8 b] []) (fun r => r.1 = .bool true) := by
  obtain ⟨k, hk⟩ : ∃ k, k = 13 := ⟨_, rfl⟩
  show Ends (FF mk (13 + 1) 0 5 _ _) _
  rw [← hk]
  have hx := hg 2
  have hu : ∀ i, U16 ((updR g 2 (withByte g 6 b, false)) i).1 := fun i => updR_u16 hg (withByte_u16 (n := 6) hg hb) i
  have ht : (g 2).2 = (g 2).2 := rfl
  have e1 : withByte g 6 b = IntKind.u16.wrap ((g 2).1.tmod 256 + IntKind.u16.wrap (256 * IntKind.u16.wrap b)) := arH1 (n := 6) hx hb (by decide) rfl
  have e2 : byteOf g 6 = IntKind.u8.wrap (IntKind.u16.wrap ((g 2).1.tdiv 256)) := arH2 (n := 6) hx (by decide) rfl
  have e3 : byteOf (updR g 2 (withByte g 6 b, false)) 6 = b := ar3 (n := 6) hx hb (by decide) rfl
  have e4 : (updR g 2 (withByte g 6 b, false) 2).1 = withByte g 6 b := by simp [updR]
  conv => enter [1]; whnf
  repeat' (first
    | refine Ends.some' ?_
    | (refine Ends.force ?_; conv => enter [1]; whnf)
    | (refine Ends.forceN ?_; conv => enter [1]; whnf)
    | (refine Ends.call (awake03_F _ _ _ (by omega) _) ?_; conv => enter [1]; whnf)
    | (refine Ends.call (rputb_F _ _ _ (by omega) g s ip f 6 b hg hb (by omega) _) ?_; conv => enter [1]; whnf)
    | (refine Ends.call (rbyte_F _ _ _ (by omega) g s ip f 6 hg (by omega) _) ?_; conv => enter [1]; whnf)
    | (refine Ends.call (rbyte_F _ _ _ (by omega) (updR g 2 (withByte g 6 b, false)) s ip f 6 hu (by omega) _) ?_; conv => enter [1]; whnf)
    | (refine Ends.iteF (by with_reducible exact (eqBadRegs mk)) ?_; conv => enter [1]; whnf)
    | (refine Ends.iteF (by with_reducible exact (eqBadVal mk)) ?_; conv => enter [1]; whnf)
    | (refine Ends.iteT (by first | with_reducible assumption | (simp [*]; done) | fail "open") ?_; conv => enter [1]; whnf)
    | (refine Ends.iteF (by first | with_reducible assumption | (simp [*]; done) | fail "open") ?_; conv => enter [1]; whnf)
    | (refine Ends.ite (fun h => ?_) (fun h => ?_) <;> (conv => enter [1]; whnf)))
  all_goals (first | (with_reducible rfl) | rfl | (simp_all [updR]; done))
theorem regsBytes_7 (mk : Mk) (g s : Nat → VT) (ip f b : Int) (hg : ∀ i, U16 (g i).1) (hb : U8 b) : Ends (FF mk 14 0 5 [.agg (regsL g s ip f), .int .i64 7, .int .u8 b] []) (fun r => r.1 = .bool true) := by
  obtain ⟨k, hk⟩ : ∃ k, k = 13 := ⟨_, rfl⟩
  show Ends (FF mk (13 + 1) 0 5 _ _) _
  rw [← hk]
  have hx := hg 3
  have hu : ∀ i, U16 ((updR g 3 (withByte g 7 b, false)) i).1 := fun i => updR_u16 hg (withByte_u16 (n := 7) hg hb) i
  have ht : (g 3).2 = (g 3).2 := rfl
  have e1 : withByte g 7 b = IntKind.u16.wrap ((g 3).1.tmod 256 + IntKind.u16.wrap (256 * IntKind.u16.wrap b)) := arH1 (n := 7) hx hb (by decide) rfl
  have e2 : byteOf g 7 = IntKind.u8.wrap (IntKind.u16.wrap ((g 3).1.tdiv 256)) := arH2 (n := 7) hx (by decide) rfl
  have e3 : byteOf (updR g 3 (withByte g 7 b, false)) 7 = b := ar3 (n := 7) hx hb (by decide) rfl
  have e4 : (updR g 3 (withByte g 7 b, false) 3).1 = withByte g 7 b := by simp [updR]
  conv => enter [1]; whnf
  repeat' (first
    | refine Ends.some' ?_
    | (refine Ends.force ?_; conv => enter [1]; whnf)
    | (refine Ends.forceN ?_; conv => enter [1]; whnf)
    | (refine Ends.call (awake03_F _ _ _ (by omega) _) ?_; conv => enter [1]; whnf)
    | (refine Ends.call (rputb_F _ _ _ (by omega) g s ip f 7 b hg hb (by omega) _) ?_; conv => enter [1]; whnf)
    | (refine Ends.call (rbyte_F _ _ _ (by omega) g s ip f 7 hg (by omega) _) ?_; conv => enter [1]; whnf)
    | (refine Ends.call (rbyte_F _ _ _ (by omega) (updR g 3 (withByte g 7 b, false)) s ip f 7 hu (by omega) _) ?_; conv => enter [1]; whnf)
    | (refine Ends.iteF (by with_reducible exact (eqBadRegs mk)) ?_; conv => enter [1]; whnf)
    | (refine Ends.iteF (by with_reducible exact (eqBadVal mk)) ?_; conv => enter [1]; whnf)
    | (refine Ends.iteT (by first | with_reducible assumption | (simp [*]; done) | fail "open") ?_; conv => enter [1]; whnf)
    | (refine Ends.iteF (by first | with_reducible assumption | (simp [*]; done) | fail "open") ?_; conv => enter [1]; whnf)
    | (refine Ends.ite (fun h => ?_) (fun h => ?_) <;> (conv => enter [1]; whnf)))
  all_goals (first | (with_reducible rfl) | rfl | (simp_all [updR]; done))
theorem regsBytes_out (mk : Mk) (g s : Nat → VT) (ip f b n : Int) (hg : ∀ i, U16 (g i).1) (hb : U8 b) (h : ¬ (0 ≤ n ∧ n < 8)) : Ends (FF mk 14 0 5 [.agg (regsL g s ip f), .int .i64 n, .int .u8 b] []) (fun r => r.1 = .bool true) := by
  obtain ⟨k, hk⟩ : ∃ k, k = 13 := ⟨_, rfl⟩
  show Ends (FF mk (13 + 1) 0 5 _ _) _
  rw [← hk]
  rcases (by omega : n < 0 ∨ 7 < n) with h1 | h1
  · have h2 : ¬ 0 ≤ n := by omega
    conv => enter [1]; whnf
    repeat' (first
      | refine Ends.some' ?_
      | (refine Ends.force ?_; conv => enter [1]; whnf)
      | (refine Ends.forceN ?_; conv => enter [1]; whnf)
      | (refine Ends.call (awake03_F _ _ _ (by omega) _) ?_; conv => enter [1]; whnf)
      | (refine Ends.call (rputbN_F _ _ _ (by omega) _ _ _ _ _ _ h _) ?_; conv => enter [1]; whnf)
      | (refine Ends.call (rbyteN_F _ _ _ (by omega) _ _ _ _ _ h _) ?_; conv => enter [1]; whnf)
      | (refine Ends.iteF (by with_reducible exact (eqBadRegs mk)) ?_; conv => enter [1]; whnf)
      | (refine Ends.iteF (by with_reducible exact (eqBadVal mk)) ?_; conv => enter [1]; whnf)
      | (refine Ends.iteT (by first | with_reducible assumption | (simp [*]; done) | fail "open") ?_; conv => enter [1]; whnf)
      | (refine Ends.iteF (by first | with_reducible assumption | (simp [*]; done) | fail "open") ?_; conv => enter [1]; whnf)
      | (refine Ends.ite (fun h => ?_) (fun h => ?_) <;> (conv => enter [1]; whnf)))
    all_goals (first | (with_reducible rfl) | rfl | (simp_all; done))
  · have h2 : ¬ n < 0 := by omega
    have h3 : 0 ≤ n := by omega
    conv => enter [1]; whnf
    repeat' (first
      | refine Ends.some' ?_
      | (refine Ends.force ?_; conv => enter [1]; whnf)
      | (refine Ends.forceN ?_; conv => enter [1]; whnf)
      | (refine Ends.call (awake03_F _ _ _ (by omega) _) ?_; conv => enter [1]; whnf)
      | (refine Ends.call (rputbN_F _ _ _ (by omega) _ _ _ _ _ _ h _) ?_; conv => enter [1]; whnf)
      | (refine Ends.call (rbyteN_F _ _ _ (by omega) _ _ _ _ _ h _) ?_; conv => enter [1]; whnf)
      | (refine Ends.iteF (by with_reducible exact (eqBadRegs mk)) ?_; conv => enter [1]; whnf)
      | (refine Ends.iteF (by with_reducible exact (eqBadVal mk)) ?_; conv => enter [1]; whnf)
      | (refine Ends.iteT (by first | with_reducible assumption | (simp [*]; done) | fail "open") ?_; conv => enter [1]; whnf)
      | (refine Ends.iteF (by first | with_reducible assumption | (simp [*]; done) | fail "open") ?_; conv => enter [1]; whnf)
      | (refine Ends.ite (fun h => ?_) (fun h => ?_) <;> (conv => enter [1]; whnf)))
    all_goals (first | (with_reducible rfl) | rfl | (simp_all; done))
end Go.Proofs.Ytlochabppadpbaa.VM
