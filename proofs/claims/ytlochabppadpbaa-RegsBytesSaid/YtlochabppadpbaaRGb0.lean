/- RegsBytes by the plain machine. -/
import Derived.Test.YtlochabppadpbaaWB
namespace Go.Proofs.Ytlochabppadpbaa.VM
open Go Go.RowKit
set_option linter.unusedVariables false
set_option linter.unusedSimpArgs false
set_option maxRecDepth 40000
set_option maxHeartbeats 1600000
theorem arL1 {g : Nat → VT} {n b : Int} {m : Nat} (hx : U16 (g m).1) (hb : U8 b) (h : n ≤ 3) (hm : n.toNat % 4 = m) : withByte g n b = IntKind.u16.wrap (IntKind.u16.wrap (IntKind.u16.wrap ((g m).1.tdiv 256) * 256) + IntKind.u16.wrap b) := by
  unfold withByte
  rw [if_neg (by omega), hm]
  simp only [wu16, tdiv_pos _ 256 (by decide)]
  unfold U16 at hx; unfold U8 at hb
  rw [if_pos hx.1]
  omega
theorem arL2 {g : Nat → VT} {n : Int} {m : Nat} (hx : U16 (g m).1) (h : n ≤ 3) (hm : n.toNat % 4 = m) : byteOf g n = IntKind.u8.wrap ((g m).1.tmod 256) := by
  unfold byteOf
  rw [if_neg (by omega), hm]
  simp only [wu8, tmod_pos _ 256 (by decide)]
  unfold U16 at hx
  rw [if_pos hx.1]
  omega
theorem arH1 {g : Nat → VT} {n b : Int} {m : Nat} (hx : U16 (g m).1) (hb : U8 b) (h : 3 < n) (hm : n.toNat % 4 = m) : withByte g n b = IntKind.u16.wrap ((g m).1.tmod 256 + IntKind.u16.wrap (256 * IntKind.u16.wrap b)) := by
  unfold withByte
  rw [if_pos h, hm]
  simp only [wu16, tmod_pos _ 256 (by decide)]
  unfold U16 at hx; unfold U8 at hb
  rw [if_pos hx.1]
  omega
theorem arH2 {g : Nat → VT} {n : Int} {m : Nat} (hx : U16 (g m).1) (h : 3 < n) (hm : n.toNat % 4 = m) : byteOf g n = IntKind.u8.wrap (IntKind.u16.wrap ((g m).1.tdiv 256)) := by
  unfold byteOf
  rw [if_pos h, hm]
  simp only [wu8, wu16, tdiv_pos _ 256 (by decide)]
  unfold U16 at hx
  rw [if_pos hx.1]
  omega
theorem ar3 {g : Nat → VT} {n b : Int} {m : Nat} (hx : U16 (g m).1) (hb : U8 b) (h : 0 ≤ n) (hm : n.toNat % 4 = m) : byteOf (updR g m (withByte g n b, false)) n = b := by
  unfold byteOf withByte updR
  rw [hm]
  unfold U16 at hx; unfold U8 at hb
  split <;> simp <;> omega
theorem updR_u16 {g : Nat → VT} {n : Nat} {x : VT} (hg : ∀ i, U16 (g i).1) (hx : U16 x.1) (i : Nat) : U16 (updR g n x i).1 := by
  unfold updR; split
  · exact hx
  · exact hg i
theorem withByte_u16 {g : Nat → VT} {n b : Int} (hg : ∀ i, U16 (g i).1) (hb : U8 b) : U16 (withByte g n b) := by
  have h := hg (n.toNat % 4)
  unfold U16 at h ⊢; unfold U8 at hb; unfold withByte
  split <;> omega
theorem regsBytes_0 (mk : Mk) (g s : Nat → VT) (ip f b : Int) (hg : ∀ i, U16 (g i).1) (hb : U8 b) : Ends (FF mk 14 0 5 [.agg (regsL g s ip f), .int .i64 0, .int .u8 b] []) (fun r => r.1 = .bool true) := by
  obtain ⟨k, hk⟩ : ∃ k, k = 13 := ⟨_, rfl⟩
  show Ends (FF mk (13 + 1) 0 5 _ _) _
  rw [← hk]
  have hx := hg 0
  have hu : ∀ i, U16 ((updR g 0 (withByte g 0 b, false)) i).1 := fun i => updR_u16 hg (withByte_u16 (n := 0) hg hb) i
  have ht : (g 0).2 = (g 0).2 := rfl
  have e1 : withByte g 0 b = IntKind.u16.wrap (IntKind.u16.wrap (IntKind.u16.wrap ((g 0).1.tdiv 256) * 256) + IntKind.u16.wrap b) := arL1 (n := 0) hx hb (by decide) rfl
  have e2 : byteOf g 0 = IntKind.u8.wrap ((g 0).1.tmod 256) := arL2 (n := 0) hx (by decide) rfl
  have e3 : byteOf (updR g 0 (withByte g 0 b, false)) 0 = b := ar3 (n := 0) hx hb (by decide) rfl
  have e4 : (updR g 0 (withByte g 0 b, false) 0).1 = withByte g 0 b := by simp [updR]
  conv => enter [1]; whnf
  repeat' (first
    | refine Ends.some' ?_
    | (refine Ends.force ?_; conv => enter [1]; whnf)
    | (refine Ends.forceN ?_; conv => enter [1]; whnf)
    | (refine Ends.call (awake03_F _ _ _ (by omega) _) ?_; conv => enter [1]; whnf)
    | (refine Ends.call (rputb_F _ _ _ (by omega) g s ip f 0 b hg hb (by omega) _) ?_; conv => enter [1]; whnf)
    | (refine Ends.call (rbyte_F _ _ _ (by omega) g s ip f 0 hg (by omega) _) ?_; conv => enter [1]; whnf)
    | (refine Ends.call (rbyte_F _ _ _ (by omega) (updR g 0 (withByte g 0 b, false)) s ip f 0 hu (by omega) _) ?_; conv => enter [1]; whnf)
    | (refine Ends.iteF (by with_reducible exact (eqBadRegs mk)) ?_; conv => enter [1]; whnf)
    | (refine Ends.iteF (by with_reducible exact (eqBadVal mk)) ?_; conv => enter [1]; whnf)
    | (refine Ends.iteT (by first | with_reducible assumption | (simp [*]; done) | fail "open") ?_; conv => enter [1]; whnf)
    | (refine Ends.iteF (by first | with_reducible assumption | (simp [*]; done) | fail "open") ?_; conv => enter [1]; whnf)
    | (refine Ends.ite (fun h => ?_) (fun h => ?_) <;> (conv => enter [1]; whnf)))
  all_goals (first | (with_reducible rfl) | rfl | (simp_all [updR]; done))
theorem regsBytes_1 (mk : Mk) (g s : Nat → VT) (ip f b : Int) (hg : ∀ i, U16 (g i).1) (hb : U8 b) : Ends (FF mk 14 0 5 [.agg (regsL g s ip f), .int .i64 1, .int .u8 b] []) (fun r => r.1 = .bool true) := by
  obtain ⟨k, hk⟩ : ∃ k, k = 13 := ⟨_, rfl⟩
  show Ends (FF mk (13 + 1) 0 5 _ _) _
  rw [← hk]
  have hx := hg 1
  have hu : ∀ i, U16 ((updR g 1 (withByte g 1 b, false)) i).1 := fun i => updR_u16 hg (withByte_u16 (n := 1) hg hb) i
  have ht : (g 1).2 = (g 1).2 := rfl
  have e1 : withByte g 1 b = IntKind.u16.wrap (IntKind.u16.wrap (IntKind.u16.wrap ((g 1).1.tdiv 256) * 256) + IntKind.u16.wrap b) := arL1 (n := 1) hx hb (by decide) rfl
  have e2 : byteOf g 1 = IntKind.u8.wrap ((g 1).1.tmod 256) := arL2 (n := 1) hx (by decide) rfl
  have e3 : byteOf (updR g 1 (withByte g 1 b, false)) 1 = b := ar3 (n := 1) hx hb (by decide) rfl
  have e4 : (updR g 1 (withByte g 1 b, false) 1).1 = withByte g 1 b := by simp [updR]
  conv => enter [1]; whnf
  repeat' (first
    | refine Ends.some' ?_
    | (refine Ends.force ?_; conv => enter [1]; whnf)
    | (refine Ends.forceN ?_; conv => enter [1]; whnf)
    | (refine Ends.call (awake03_F _ _ _ (by omega) _) ?_; conv => enter [1]; whnf)
    | (refine Ends.call (rputb_F _ _ _ (by omega) g s ip f 1 b hg hb (by omega) _) ?_; conv => enter [1]; whnf)
    | (refine Ends.call (rbyte_F _ _ _ (by omega) g s ip f 1 hg (by omega) _) ?_; conv => enter [1]; whnf)
    | (refine Ends.call (rbyte_F _ _ _ (by omega) (updR g 1 (withByte g 1 b, false)) s ip f 1 hu (by omega) _) ?_; conv => enter [1]; whnf)
    | (refine Ends.iteF (by with_reducible exact (eqBadRegs mk)) ?_; conv => enter [1]; whnf)
    | (refine Ends.iteF (by with_reducible exact (eqBadVal mk)) ?_; conv => enter [1]; whnf)
    | (refine Ends.iteT (by first | with_reducible assumption | (simp [*]; done) | fail "open") ?_; conv => enter [1]; whnf)
    | (refine Ends.iteF (by first | with_reducible assumption | (simp [*]; done) | fail "open") ?_; conv => enter [1]; whnf)
    | (refine Ends.ite (fun h => ?_) (fun h => ?_) <;> (conv => enter [1]; whnf)))
  all_goals (first | (with_reducible rfl) | rfl | (simp_all [updR]; done))
theorem regsBytes_2 (mk : Mk) (g s : Nat → VT) (ip f b : Int) (hg : ∀ i, U16 (g i).1) (hb : U8 b) : Ends (FF mk 14 0 5 [.agg (regsL g s ip f), .int .i64 2, .int .u8 b] []) (fun r => r.1 = .bool true) := by
  obtain ⟨k, hk⟩ : ∃ k, k = 13 := ⟨_, rfl⟩
  show Ends (FF mk (13 + 1) 0 5 _ _) _
  rw [← hk]
  have hx := hg 2
  have hu : ∀ i, U16 ((updR g 2 (withByte g 2 b, false)) i).1 := fun i => updR_u16 hg (withByte_u16 (n := 2) hg hb) i
  have ht : (g 2).2 = (g 2).2 := rfl
  have e1 : withByte g 2 b = IntKind.u16.wrap (IntKind.u16.wrap (IntKind.u16.wrap ((g 2).1.tdiv 256) * 256) + IntKind.u16.wrap b) := arL1 (n := 2) hx hb (by decide) rfl
  have e2 : byteOf g 2 = IntKind.u8.wrap ((g 2).1.tmod 256) := arL2 (n := 2) hx (by decide) rfl
  have e3 : byteOf (updR g 2 (withByte g 2 b, false)) 2 = b := ar3 (n := 2) hx hb (by decide) rfl
  have e4 : (updR g 2 (withByte g 2 b, false) 2).1 = withByte g 2 b := by simp [updR]
  conv => enter [1]; whnf
  repeat' (first
    | refine Ends.some' ?_
    | (refine Ends.force ?_; conv => enter [1]; whnf)
    | (refine Ends.forceN ?_; conv => enter [1]; whnf)
    | (refine Ends.call (awake03_F _ _ _ (by omega) _) ?_; conv => enter [1]; whnf)
    | (refine Ends.call (rputb_F _ _ _ (by omega) g s ip f 2 b hg hb (by omega) _) ?_; conv => enter [1]; whnf)
    | (refine Ends.call (rbyte_F _ _ _ (by omega) g s ip f 2 hg (by omega) _) ?_; conv => enter [1]; whnf)
    | (refine Ends.call (rbyte_F _ _ _ (by omega) (updR g 2 (withByte g 2 b, false)) s ip f 2 hu (by omega) _) ?_; conv => enter [1]; whnf)
    | (refine Ends.iteF (by with_reducible exact (eqBadRegs mk)) ?_; conv => enter [1]; whnf)
    | (refine Ends.iteF (by with_reducible exact (eqBadVal mk)) ?_; conv => enter [1]; whnf)
    | (refine Ends.iteT (by first | with_reducible assumption | (simp [*]; done) | fail "open") ?_; conv => enter [1]; whnf)
    | (refine Ends.iteF (by first | with_reducible assumption | (simp [*]; done) | fail "open") ?_; conv => enter [1]; whnf)
    | (refine Ends.ite (fun h => ?_) (fun h => ?_) <;> (conv => enter [1]; whnf)))
  all_goals (first | (with_reducible rfl) | rfl | (simp_all [updR]; done))
end Go.Proofs.Ytlochabppadpbaa.VM
