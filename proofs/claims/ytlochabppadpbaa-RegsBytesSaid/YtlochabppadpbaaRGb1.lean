/- RegsBytes by the plain machine. -/
import Derived.Test.YtlochabppadpbaaRGb0
namespace Go.Proofs.Ytlochabppadpbaa.VM
open Go Go.RowKit
set_option linter.unusedVariables false
set_option linter.unusedSimpArgs false
set_option maxRecDepth 40000
set_option maxHeartbeats 1600000
theorem regsBytes_3 (mk : Mk) (g s : Nat → VT) (ip f b : Int) (hg : ∀ i, U16 (g i).1) (hb : U8 b) : Ends (FF mk 14 0 5 [.agg (regsL g s ip f), .int .i64 3, .int .u8 b] []) (fun r => r.1 = .bool true) := by
  obtain ⟨k, hk⟩ : ∃ k, k = 13 := ⟨_, rfl⟩
  show Ends (FF mk (13 + 1) 0 5 _ _) _
  rw [← hk]
  have hx := hg 3
  have hu : ∀ i, U16 ((updR g 3 (withByte g 3 b, false)) i).1 := fun i => updR_u16 hg (withByte_u16 (n := 3) hg hb) i
  have ht : (g 3).2 = (g 3).2 := rfl
  have e1 : withByte g 3 b = IntKind.u16.wrap (IntKind.u16.wrap (IntKind.u16.wrap ((g 3).1.tdiv 256) * 256) + IntKind.u16.wrap b) := arL1 (n := 3) hx hb (by decide) rfl
  have e2 : byteOf g 3 = IntKind.u8.wrap ((g 3).1.tmod 256) := arL2 (n := 3) hx (by decide) rfl
  have e3 : byteOf (updR g 3 (withByte g 3 b, false)) 3 = b := ar3 (n := 3) hx hb (by decide) rfl
  have e4 : (updR g 3 (withByte g 3 b, false) 3).1 = withByte g 3 b := by simp [updR]
  conv => enter [1]; whnf
  repeat' (first
    | refine Ends.some' ?_
    | (refine Ends.force ?_; conv => enter [1]; whnf)
    | (refine Ends.forceN ?_; conv => enter [1]; whnf)
    | (refine Ends.call (awake03_F _ _ _ (by omega) _) ?_; conv => enter [1]; whnf)
    | (refine Ends.call (rputb_F _ _ _ (by omega) g s ip f 3 b hg hb (by omega) _) ?_; conv => enter [1]; whnf)
    | (refine Ends.call (rbyte_F _ _ _ (by omega) g s ip f 3 hg (by omega) _) ?_; conv => enter [1]; whnf)
    | (refine Ends.call (rbyte_F _ _ _ (by omega) (updR g 3 (withByte g 3 b, false)) s ip f 3 hu (by omega) _) ?_; conv => enter [1]; whnf)
    | (refine Ends.iteF (by with_reducible exact (eqBadRegs mk)) ?_; conv => enter [1]; whnf)
    | (refine Ends.iteF (by with_reducible exact (eqBadVal mk)) ?_; conv => enter [1]; whnf)
    | (refine Ends.iteT (by first | with_reducible assumption | (simp [*]; done) | fail "open") ?_; conv => enter [1]; whnf)
    | (refine Ends.iteF (by first | with_reducible assumption | (simp [*]; done) | fail "open") ?_; conv => enter [1]; whnf)
    | (refine Ends.ite (fun h => ?_) (fun h => ?_) <;> (conv => enter [1]; whnf)))
  all_goals (first | (with_reducible rfl) | rfl | (simp_all [updR]; done))
theorem regsBytes_4 (mk : Mk) (g s : Nat → VT) (ip f b : Int) (hg : ∀ i, U16 (g i).1) (hb : U8 b) : Ends (FF mk 14 0 5 [.agg (regsL g s ip f), .int .i64 4, .int .u8 b] []) (fun r => r.1 = .bool true) := by
  obtain ⟨k, hk⟩ : ∃ k, k = 13 := ⟨_, rfl⟩
  show Ends (FF mk (13 + 1) 0 5 _ _) _
  rw [← hk]
  have hx := hg 0
  have hu : ∀ i, U16 ((updR g 0 (withByte g 4 b, false)) i).1 := fun i => updR_u16 hg (withByte_u16 (n := 4) hg hb) i
  have ht : (g 0).2 = (g 0).2 := rfl
  have e1 : withByte g 4 b = IntKind.u16.wrap ((g 0).1.tmod 256 + IntKind.u16.wrap (256 * IntKind.u16.wrap b)) := arH1 (n := 4) hx hb (by decide) rfl
  have e2 : byteOf g 4 = IntKind.u8.wrap (IntKind.u16.wrap ((g 0).1.tdiv 256)) := arH2 (n := 4) hx (by decide) rfl
  have e3 : byteOf (updR g 0 (withByte g 4 b, false)) 4 = b := ar3 (n := 4) hx hb (by decide) rfl
  have e4 : (updR g 0 (withByte g 4 b, false) 0).1 = withByte g 4 b := by simp [updR]
  conv => enter [1]; whnf
  repeat' (first
    | refine Ends.some' ?_
    | (refine Ends.force ?_; conv => enter [1]; whnf)
    | (refine Ends.forceN ?_; conv => enter [1]; whnf)
    | (refine Ends.call (awake03_F _ _ _ (by omega) _) ?_; conv => enter [1]; whnf)
    | (refine Ends.call (rputb_F _ _ _ (by omega) g s ip f 4 b hg hb (by omega) _) ?_; conv => enter [1]; whnf)
    | (refine Ends.call (rbyte_F _ _ _ (by omega) g s ip f 4 hg (by omega) _) ?_; conv => enter [1]; whnf)
    | (refine Ends.call (rbyte_F _ _ _ (by omega) (updR g 0 (withByte g 4 b, false)) s ip f 4 hu (by omega) _) ?_; conv => enter [1]; whnf)
    | (refine Ends.iteF (by with_reducible exact (eqBadRegs mk)) ?_; conv => enter [1]; whnf)
    | (refine Ends.iteF (by with_reducible exact (eqBadVal mk)) ?_; conv => enter [1]; whnf)
    | (refine Ends.iteT (by first | with_reducible assumption | (simp [*]; done) | fail "open") ?_; conv => enter [1]; whnf)
    | (refine Ends.iteF (by first | with_reducible assumption | (simp [*]; done) | fail "open") ?_; conv => enter [1]; whnf)
    | (refine Ends.ite (fun h => ?_) (fun h => ?_) <;> (conv => enter [1]; whnf)))
  all_goals (first | (with_reducible rfl) | rfl | (simp_all [updR]; done))
theorem regsBytes_5 (mk : Mk) (g s : Nat → VT) (ip f b : Int) (hg : ∀ i, U16 (g i).1) (hb : U8 b) : Ends (FF mk 14 0 5 [.agg (regsL g s ip f), .int .i64 5, .int .u8 b] []) (fun r => r.1 = .bool true) := by
  obtain ⟨k, hk⟩ : ∃ k, k = 13 := ⟨_, rfl⟩
  show Ends (FF mk (13 + 1) 0 5 _ _) _
  rw [← hk]
  have hx := hg 1
  have hu : ∀ i, U16 ((updR g 1 (withByte g 5 b, false)) i).1 := fun i => updR_u16 hg (withByte_u16 (n := 5) hg hb) i
  have ht : (g 1).2 = (g 1).2 := rfl
  have e1 : withByte g 5 b = IntKind.u16.wrap ((g 1).1.tmod 256 + IntKind.u16.wrap (256 * IntKind.u16.wrap b)) := arH1 (n := 5) hx hb (by decide) rfl
  have e2 : byteOf g 5 = IntKind.u8.wrap (IntKind.u16.wrap ((g 1).1.tdiv 256)) := arH2 (n := 5) hx (by decide) rfl
  have e3 : byteOf (updR g 1 (withByte g 5 b, false)) 5 = b := ar3 (n := 5) hx hb (by decide) rfl
  have e4 : (updR g 1 (withByte g 5 b, false) 1).1 = withByte g 5 b := by simp [updR]
  conv => enter [1]; whnf
  repeat' (first
    | refine Ends.some' ?_
    | (refine Ends.force ?_; conv => enter [1]; whnf)
    | (refine Ends.forceN ?_; conv => enter [1]; whnf)
    | (refine Ends.call (awake03_F _ _ _ (by omega) _) ?_; conv => enter [1]; whnf)
    | (refine Ends.call (rputb_F _ _ _ (by omega) g s ip f 5 b hg hb (by omega) _) ?_; conv => enter [1]; whnf)
    | (refine Ends.call (rbyte_F _ _ _ (by omega) g s ip f 5 hg (by omega) _) ?_; conv => enter [1]; whnf)
    | (refine Ends.call (rbyte_F _ _ _ (by omega) (updR g 1 (withByte g 5 b, false)) s ip f 5 hu (by omega) _) ?_; conv => enter [1]; whnf)
    | (refine Ends.iteF (by with_reducible exact (eqBadRegs mk)) ?_; conv => enter [1]; whnf)
    | (refine Ends.iteF (by with_reducible exact (eqBadVal mk)) ?_; conv => enter [1]; whnf)
    | (refine Ends.iteT (by first | with_reducible assumption | (simp [*]; done) | fail "open") ?_; conv => enter [1]; whnf)
    | (refine Ends.iteF (by first | with_reducible assumption | (simp [*]; done) | fail "open") ?_; conv => enter [1]; whnf)
    | (refine Ends.ite (fun h => ?_) (fun h => ?_) <;> (conv => enter [1]; whnf)))
  all_goals (first | (with_reducible rfl) | rfl | (simp_all [updR]; done))
end Go.Proofs.Ytlochabppadpbaa.VM
