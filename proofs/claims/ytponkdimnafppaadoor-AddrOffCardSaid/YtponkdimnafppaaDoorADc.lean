/- AddrOff by the plain machine: the walks. -/
import Derived.Test.YtponkdimnafppaaDoorADb
namespace Go.Proofs.YtponkdimnafppaaDoor.VM
open Go Go.RowKit
set_option linter.unusedVariables false
set_option linter.unusedSimpArgs false
set_option maxRecDepth 40000
set_option maxHeartbeats 3200000
theorem addrOff_f (mk : Mk) (K lo : Nat) (hK : K = 9400) (g s : Nat → VT) (ip f : Int) (hg : ∀ i, U16 (g i).1) (x : IN) (hop : 0 ≤ x.op ∧ x.op < 256) (h1 : 0 ≤ x.disp ∧ x.disp < 65536) (h2 : 0 ≤ x.imm ∧ x.imm < 65536) (h3 : 0 ≤ x.sel ∧ x.sel < 65536) (H : List Blk) (h0 : H[0]? = some ⟨basesL, true⟩) :
    Ends (FF mk (K + 1) lo 3 [.agg (regsL g s ip f), .agg (inL x), .bool false] H) (fun r => r.1 = .bool true) := by
  refine Ends.enter rfl ?_
  obtain ⟨xl, xr, xs, xo, xm, xg, xrm, xd, xi, xsel⟩ := x
  simp only at hop h1 h2 h3
  conv => enter [1]; whnf
  refine Ends.callE (near05_F mk K lo (by omega) ⟨xl, xr, xs, xo, xm, xg, xrm, xd, xi, xsel⟩ hop h1 h2 h3 H) (fun v9 H9 hv => ?_)
  obtain ⟨hH9, z, hv, hz⟩ := hv
  have hH8 := Eq.symm hH9
  replace hv : v9 = .agg (inL z) := hv
  subst hv
  dsimp only at hH8
  subst hH8
  clear hH9
  conv => enter [1]; whnf
  obtain ⟨md, hmd⟩ : ∃ md : Int, md = xm % 4 := ⟨_, rfl⟩
  obtain ⟨rm, hrm⟩ : ∃ rm : Int, rm = xrm % 8 := ⟨_, rfl⟩
  have ug := hg
  simp only [U16] at ug
  have ug3 := ug 3
  have ug5 := ug 5
  have ug6 := ug 6
  have ug7 := ug 7
  conv => enter [1]; whnf
  rw [and64_3, and64_7, ← hmd, ← hrm]
  clear hmd hrm
  by_cases r0 : rm = 0
  · subst r0
    have hoff := off_F mk K lo (by omega) g s ip f ⟨z.lock, z.rep, z.seg, z.op, md, z.reg, 0, xd, z.imm, z.sel⟩ H h0
    replace hoff : _ = some (Val.tup [.int .u16 (offP g md 0 xd).1, .bool (offP g md 0 xd).2], H) := hoff
    by_cases ha : (g 3).2 = true
    all_goals
      by_cases m3 : md = 3
      · rw [show offP g md 0 xd = (0, true) from if_pos (Or.inl m3)] at hoff
        
        conv => enter [1]; whnf
        repeat (first
          | (refine Ends.force ?_; conv => enter [1]; whnf)
          | (refine Ends.forceN ?_; conv => enter [1]; whnf)
          | (refine Ends.forceLs ?_; conv => enter [1]; whnf)
          | (refine Ends.iteT (by first | with_reducible assumption | (simp [*]; done) | (apply decide_eq_true; omega) | fail "open") ?_; conv => enter [1]; whnf)
          | (refine Ends.iteF (by first | with_reducible assumption | (simp [*]; done) | (apply decide_eq_false; omega) | fail "open") ?_; conv => enter [1]; whnf))
        refine Ends.call hoff ?_
        conv => enter [1]; whnf
        refine Ends.call (awake11_F mk K lo (by omega) H h0) ?_
        conv => enter [1]; whnf
        exact Ends.some' rfl
      by_cases m0 : md < 0
      · rw [show offP g md 0 xd = (0, true) from if_pos (Or.inr (Or.inl m0))] at hoff
        have mz0 : ¬ md = 0 := by omega
        
        conv => enter [1]; whnf
        repeat (first
          | (refine Ends.force ?_; conv => enter [1]; whnf)
          | (refine Ends.forceN ?_; conv => enter [1]; whnf)
          | (refine Ends.forceLs ?_; conv => enter [1]; whnf)
          | (refine Ends.iteT (by first | with_reducible assumption | (simp [*]; done) | (apply decide_eq_true; omega) | fail "open") ?_; conv => enter [1]; whnf)
          | (refine Ends.iteF (by first | with_reducible assumption | (simp [*]; done) | (apply decide_eq_false; omega) | fail "open") ?_; conv => enter [1]; whnf))
        refine Ends.call hoff ?_
        conv => enter [1]; whnf
        refine Ends.call (awake11_F mk K lo (by omega) H h0) ?_
        conv => enter [1]; whnf
        exact Ends.some' rfl
      rw [show offP g md 0 xd = (IntKind.u16.wrap (IntKind.u16.wrap (xd + (g 3).1) + (g 6).1), !(g 3).2 && !(g 6).2) from by unfold offP; rw [if_neg (by omega), if_neg (by omega)]; rfl] at hoff
      conv => enter [1]; whnf
      repeat (first
        | (refine Ends.force ?_; conv => enter [1]; whnf)
        | (refine Ends.forceN ?_; conv => enter [1]; whnf)
        | (refine Ends.forceLs ?_; conv => enter [1]; whnf)
        | (refine Ends.iteT (by first | with_reducible assumption | (simp [*]; done) | (apply decide_eq_true; omega) | fail "open") ?_; conv => enter [1]; whnf)
        | (refine Ends.iteF (by first | with_reducible assumption | (simp [*]; done) | (apply decide_eq_false; omega) | fail "open") ?_; conv => enter [1]; whnf))
      refine Ends.call hoff ?_
      conv => enter [1]; whnf
      refine Ends.call (awake11_F mk K lo (by omega) H h0) ?_
      conv => enter [1]; whnf
      refine Ends.iteT (guardT (beq_iff_eq.2 (off_w2 xd (g 3).1 (g 6).1 h1 ug3 ug6))) ?_
      conv => enter [1]; whnf
      refine Ends.some' ?_
      simp [*]
  by_cases r1 : rm = 1
  · subst r1
    have hoff := off_F mk K lo (by omega) g s ip f ⟨z.lock, z.rep, z.seg, z.op, md, z.reg, 1, xd, z.imm, z.sel⟩ H h0
    replace hoff : _ = some (Val.tup [.int .u16 (offP g md 1 xd).1, .bool (offP g md 1 xd).2], H) := hoff
    by_cases ha : (g 3).2 = true
    all_goals
      by_cases m3 : md = 3
      · rw [show offP g md 1 xd = (0, true) from if_pos (Or.inl m3)] at hoff
        
        conv => enter [1]; whnf
        repeat (first
          | (refine Ends.force ?_; conv => enter [1]; whnf)
          | (refine Ends.forceN ?_; conv => enter [1]; whnf)
          | (refine Ends.forceLs ?_; conv => enter [1]; whnf)
          | (refine Ends.iteT (by first | with_reducible assumption | (simp [*]; done) | (apply decide_eq_true; omega) | fail "open") ?_; conv => enter [1]; whnf)
          | (refine Ends.iteF (by first | with_reducible assumption | (simp [*]; done) | (apply decide_eq_false; omega) | fail "open") ?_; conv => enter [1]; whnf))
        refine Ends.call hoff ?_
        conv => enter [1]; whnf
        refine Ends.call (awake11_F mk K lo (by omega) H h0) ?_
        conv => enter [1]; whnf
        exact Ends.some' rfl
      by_cases m0 : md < 0
      · rw [show offP g md 1 xd = (0, true) from if_pos (Or.inr (Or.inl m0))] at hoff
        have mz0 : ¬ md = 0 := by omega
        
        conv => enter [1]; whnf
        repeat (first
          | (refine Ends.force ?_; conv => enter [1]; whnf)
          | (refine Ends.forceN ?_; conv => enter [1]; whnf)
          | (refine Ends.forceLs ?_; conv => enter [1]; whnf)
          | (refine Ends.iteT (by first | with_reducible assumption | (simp [*]; done) | (apply decide_eq_true; omega) | fail "open") ?_; conv => enter [1]; whnf)
          | (refine Ends.iteF (by first | with_reducible assumption | (simp [*]; done) | (apply decide_eq_false; omega) | fail "open") ?_; conv => enter [1]; whnf))
        refine Ends.call hoff ?_
        conv => enter [1]; whnf
        refine Ends.call (awake11_F mk K lo (by omega) H h0) ?_
        conv => enter [1]; whnf
        exact Ends.some' rfl
      rw [show offP g md 1 xd = (IntKind.u16.wrap (IntKind.u16.wrap (xd + (g 3).1) + (g 7).1), !(g 3).2 && !(g 7).2) from by unfold offP; rw [if_neg (by omega), if_neg (by omega)]; rfl] at hoff
      conv => enter [1]; whnf
      repeat (first
        | (refine Ends.force ?_; conv => enter [1]; whnf)
        | (refine Ends.forceN ?_; conv => enter [1]; whnf)
        | (refine Ends.forceLs ?_; conv => enter [1]; whnf)
        | (refine Ends.iteT (by first | with_reducible assumption | (simp [*]; done) | (apply decide_eq_true; omega) | fail "open") ?_; conv => enter [1]; whnf)
        | (refine Ends.iteF (by first | with_reducible assumption | (simp [*]; done) | (apply decide_eq_false; omega) | fail "open") ?_; conv => enter [1]; whnf))
      refine Ends.call hoff ?_
      conv => enter [1]; whnf
      refine Ends.call (awake11_F mk K lo (by omega) H h0) ?_
      conv => enter [1]; whnf
      refine Ends.iteT (guardT (beq_iff_eq.2 (off_w2 xd (g 3).1 (g 7).1 h1 ug3 ug7))) ?_
      conv => enter [1]; whnf
      refine Ends.some' ?_
      simp [*]
  by_cases r2 : rm = 2
  · subst r2
    have hoff := off_F mk K lo (by omega) g s ip f ⟨z.lock, z.rep, z.seg, z.op, md, z.reg, 2, xd, z.imm, z.sel⟩ H h0
    replace hoff : _ = some (Val.tup [.int .u16 (offP g md 2 xd).1, .bool (offP g md 2 xd).2], H) := hoff
    by_cases ha : (g 5).2 = true
    all_goals
      by_cases m3 : md = 3
      · rw [show offP g md 2 xd = (0, true) from if_pos (Or.inl m3)] at hoff
        
        conv => enter [1]; whnf
        repeat (first
          | (refine Ends.force ?_; conv => enter [1]; whnf)
          | (refine Ends.forceN ?_; conv => enter [1]; whnf)
          | (refine Ends.forceLs ?_; conv => enter [1]; whnf)
          | (refine Ends.iteT (by first | with_reducible assumption | (simp [*]; done) | (apply decide_eq_true; omega) | fail "open") ?_; conv => enter [1]; whnf)
          | (refine Ends.iteF (by first | with_reducible assumption | (simp [*]; done) | (apply decide_eq_false; omega) | fail "open") ?_; conv => enter [1]; whnf))
        refine Ends.call hoff ?_
        conv => enter [1]; whnf
        refine Ends.call (awake11_F mk K lo (by omega) H h0) ?_
        conv => enter [1]; whnf
        exact Ends.some' rfl
      by_cases m0 : md < 0
      · rw [show offP g md 2 xd = (0, true) from if_pos (Or.inr (Or.inl m0))] at hoff
        have mz0 : ¬ md = 0 := by omega
        
        conv => enter [1]; whnf
        repeat (first
          | (refine Ends.force ?_; conv => enter [1]; whnf)
          | (refine Ends.forceN ?_; conv => enter [1]; whnf)
          | (refine Ends.forceLs ?_; conv => enter [1]; whnf)
          | (refine Ends.iteT (by first | with_reducible assumption | (simp [*]; done) | (apply decide_eq_true; omega) | fail "open") ?_; conv => enter [1]; whnf)
          | (refine Ends.iteF (by first | with_reducible assumption | (simp [*]; done) | (apply decide_eq_false; omega) | fail "open") ?_; conv => enter [1]; whnf))
        refine Ends.call hoff ?_
        conv => enter [1]; whnf
        refine Ends.call (awake11_F mk K lo (by omega) H h0) ?_
        conv => enter [1]; whnf
        exact Ends.some' rfl
      rw [show offP g md 2 xd = (IntKind.u16.wrap (IntKind.u16.wrap (xd + (g 5).1) + (g 6).1), !(g 5).2 && !(g 6).2) from by unfold offP; rw [if_neg (by omega), if_neg (by omega)]; rfl] at hoff
      conv => enter [1]; whnf
      repeat (first
        | (refine Ends.force ?_; conv => enter [1]; whnf)
        | (refine Ends.forceN ?_; conv => enter [1]; whnf)
        | (refine Ends.forceLs ?_; conv => enter [1]; whnf)
        | (refine Ends.iteT (by first | with_reducible assumption | (simp [*]; done) | (apply decide_eq_true; omega) | fail "open") ?_; conv => enter [1]; whnf)
        | (refine Ends.iteF (by first | with_reducible assumption | (simp [*]; done) | (apply decide_eq_false; omega) | fail "open") ?_; conv => enter [1]; whnf))
      refine Ends.call hoff ?_
      conv => enter [1]; whnf
      refine Ends.call (awake11_F mk K lo (by omega) H h0) ?_
      conv => enter [1]; whnf
      refine Ends.iteT (guardT (beq_iff_eq.2 (off_w2 xd (g 5).1 (g 6).1 h1 ug5 ug6))) ?_
      conv => enter [1]; whnf
      refine Ends.some' ?_
      simp [*]
  by_cases r3 : rm = 3
  · subst r3
    have hoff := off_F mk K lo (by omega) g s ip f ⟨z.lock, z.rep, z.seg, z.op, md, z.reg, 3, xd, z.imm, z.sel⟩ H h0
    replace hoff : _ = some (Val.tup [.int .u16 (offP g md 3 xd).1, .bool (offP g md 3 xd).2], H) := hoff
    by_cases ha : (g 5).2 = true
    all_goals
      by_cases m3 : md = 3
      · rw [show offP g md 3 xd = (0, true) from if_pos (Or.inl m3)] at hoff
        
        conv => enter [1]; whnf
        repeat (first
          | (refine Ends.force ?_; conv => enter [1]; whnf)
          | (refine Ends.forceN ?_; conv => enter [1]; whnf)
          | (refine Ends.forceLs ?_; conv => enter [1]; whnf)
          | (refine Ends.iteT (by first | with_reducible assumption | (simp [*]; done) | (apply decide_eq_true; omega) | fail "open") ?_; conv => enter [1]; whnf)
          | (refine Ends.iteF (by first | with_reducible assumption | (simp [*]; done) | (apply decide_eq_false; omega) | fail "open") ?_; conv => enter [1]; whnf))
        refine Ends.call hoff ?_
        conv => enter [1]; whnf
        refine Ends.call (awake11_F mk K lo (by omega) H h0) ?_
        conv => enter [1]; whnf
        exact Ends.some' rfl
      by_cases m0 : md < 0
      · rw [show offP g md 3 xd = (0, true) from if_pos (Or.inr (Or.inl m0))] at hoff
        have mz0 : ¬ md = 0 := by omega
        
        conv => enter [1]; whnf
        repeat (first
          | (refine Ends.force ?_; conv => enter [1]; whnf)
          | (refine Ends.forceN ?_; conv => enter [1]; whnf)
          | (refine Ends.forceLs ?_; conv => enter [1]; whnf)
          | (refine Ends.iteT (by first | with_reducible assumption | (simp [*]; done) | (apply decide_eq_true; omega) | fail "open") ?_; conv => enter [1]; whnf)
          | (refine Ends.iteF (by first | with_reducible assumption | (simp [*]; done) | (apply decide_eq_false; omega) | fail "open") ?_; conv => enter [1]; whnf))
        refine Ends.call hoff ?_
        conv => enter [1]; whnf
        refine Ends.call (awake11_F mk K lo (by omega) H h0) ?_
        conv => enter [1]; whnf
        exact Ends.some' rfl
      rw [show offP g md 3 xd = (IntKind.u16.wrap (IntKind.u16.wrap (xd + (g 5).1) + (g 7).1), !(g 5).2 && !(g 7).2) from by unfold offP; rw [if_neg (by omega), if_neg (by omega)]; rfl] at hoff
      conv => enter [1]; whnf
      repeat (first
        | (refine Ends.force ?_; conv => enter [1]; whnf)
        | (refine Ends.forceN ?_; conv => enter [1]; whnf)
        | (refine Ends.forceLs ?_; conv => enter [1]; whnf)
        | (refine Ends.iteT (by first | with_reducible assumption | (simp [*]; done) | (apply decide_eq_true; omega) | fail "open") ?_; conv => enter [1]; whnf)
        | (refine Ends.iteF (by first | with_reducible assumption | (simp [*]; done) | (apply decide_eq_false; omega) | fail "open") ?_; conv => enter [1]; whnf))
      refine Ends.call hoff ?_
      conv => enter [1]; whnf
      refine Ends.call (awake11_F mk K lo (by omega) H h0) ?_
      conv => enter [1]; whnf
      refine Ends.iteT (guardT (beq_iff_eq.2 (off_w2 xd (g 5).1 (g 7).1 h1 ug5 ug7))) ?_
      conv => enter [1]; whnf
      refine Ends.some' ?_
      simp [*]
  by_cases r4 : rm = 4
  · subst r4
    have hoff := off_F mk K lo (by omega) g s ip f ⟨z.lock, z.rep, z.seg, z.op, md, z.reg, 4, xd, z.imm, z.sel⟩ H h0
    replace hoff : _ = some (Val.tup [.int .u16 (offP g md 4 xd).1, .bool (offP g md 4 xd).2], H) := hoff
    by_cases m3 : md = 3
    · rw [show offP g md 4 xd = (0, true) from if_pos (Or.inl m3)] at hoff
      
      conv => enter [1]; whnf
      repeat (first
        | (refine Ends.force ?_; conv => enter [1]; whnf)
        | (refine Ends.forceN ?_; conv => enter [1]; whnf)
        | (refine Ends.forceLs ?_; conv => enter [1]; whnf)
        | (refine Ends.iteT (by first | with_reducible assumption | (simp [*]; done) | (apply decide_eq_true; omega) | fail "open") ?_; conv => enter [1]; whnf)
        | (refine Ends.iteF (by first | with_reducible assumption | (simp [*]; done) | (apply decide_eq_false; omega) | fail "open") ?_; conv => enter [1]; whnf))
      refine Ends.call hoff ?_
      conv => enter [1]; whnf
      refine Ends.call (awake11_F mk K lo (by omega) H h0) ?_
      conv => enter [1]; whnf
      exact Ends.some' rfl
    by_cases m0 : md < 0
    · rw [show offP g md 4 xd = (0, true) from if_pos (Or.inr (Or.inl m0))] at hoff
      have mz0 : ¬ md = 0 := by omega
      
      conv => enter [1]; whnf
      repeat (first
        | (refine Ends.force ?_; conv => enter [1]; whnf)
        | (refine Ends.forceN ?_; conv => enter [1]; whnf)
        | (refine Ends.forceLs ?_; conv => enter [1]; whnf)
        | (refine Ends.iteT (by first | with_reducible assumption | (simp [*]; done) | (apply decide_eq_true; omega) | fail "open") ?_; conv => enter [1]; whnf)
        | (refine Ends.iteF (by first | with_reducible assumption | (simp [*]; done) | (apply decide_eq_false; omega) | fail "open") ?_; conv => enter [1]; whnf))
      refine Ends.call hoff ?_
      conv => enter [1]; whnf
      refine Ends.call (awake11_F mk K lo (by omega) H h0) ?_
      conv => enter [1]; whnf
      exact Ends.some' rfl
    rw [show offP g md 4 xd = (IntKind.u16.wrap (xd + (g 6).1), !(g 6).2) from by unfold offP; rw [if_neg (by omega), if_neg (by omega)]; rfl] at hoff
    conv => enter [1]; whnf
    repeat (first
      | (refine Ends.force ?_; conv => enter [1]; whnf)
      | (refine Ends.forceN ?_; conv => enter [1]; whnf)
      | (refine Ends.forceLs ?_; conv => enter [1]; whnf)
      | (refine Ends.iteT (by first | with_reducible assumption | (simp [*]; done) | (apply decide_eq_true; omega) | fail "open") ?_; conv => enter [1]; whnf)
      | (refine Ends.iteF (by first | with_reducible assumption | (simp [*]; done) | (apply decide_eq_false; omega) | fail "open") ?_; conv => enter [1]; whnf))
    refine Ends.call hoff ?_
    conv => enter [1]; whnf
    refine Ends.call (awake11_F mk K lo (by omega) H h0) ?_
    conv => enter [1]; whnf
    refine Ends.iteT (guardT (beq_iff_eq.2 (off_w1 xd (g 6).1 h1 ug6))) ?_
    conv => enter [1]; whnf
    refine Ends.some' ?_
    simp [*]
  by_cases r5 : rm = 5
  · subst r5
    have hoff := off_F mk K lo (by omega) g s ip f ⟨z.lock, z.rep, z.seg, z.op, md, z.reg, 5, xd, z.imm, z.sel⟩ H h0
    replace hoff : _ = some (Val.tup [.int .u16 (offP g md 5 xd).1, .bool (offP g md 5 xd).2], H) := hoff
    by_cases m3 : md = 3
    · rw [show offP g md 5 xd = (0, true) from if_pos (Or.inl m3)] at hoff
      
      conv => enter [1]; whnf
      repeat (first
        | (refine Ends.force ?_; conv => enter [1]; whnf)
        | (refine Ends.forceN ?_; conv => enter [1]; whnf)
        | (refine Ends.forceLs ?_; conv => enter [1]; whnf)
        | (refine Ends.iteT (by first | with_reducible assumption | (simp [*]; done) | (apply decide_eq_true; omega) | fail "open") ?_; conv => enter [1]; whnf)
        | (refine Ends.iteF (by first | with_reducible assumption | (simp [*]; done) | (apply decide_eq_false; omega) | fail "open") ?_; conv => enter [1]; whnf))
      refine Ends.call hoff ?_
      conv => enter [1]; whnf
      refine Ends.call (awake11_F mk K lo (by omega) H h0) ?_
      conv => enter [1]; whnf
      exact Ends.some' rfl
    by_cases m0 : md < 0
    · rw [show offP g md 5 xd = (0, true) from if_pos (Or.inr (Or.inl m0))] at hoff
      have mz0 : ¬ md = 0 := by omega
      
      conv => enter [1]; whnf
      repeat (first
        | (refine Ends.force ?_; conv => enter [1]; whnf)
        | (refine Ends.forceN ?_; conv => enter [1]; whnf)
        | (refine Ends.forceLs ?_; conv => enter [1]; whnf)
        | (refine Ends.iteT (by first | with_reducible assumption | (simp [*]; done) | (apply decide_eq_true; omega) | fail "open") ?_; conv => enter [1]; whnf)
        | (refine Ends.iteF (by first | with_reducible assumption | (simp [*]; done) | (apply decide_eq_false; omega) | fail "open") ?_; conv => enter [1]; whnf))
      refine Ends.call hoff ?_
      conv => enter [1]; whnf
      refine Ends.call (awake11_F mk K lo (by omega) H h0) ?_
      conv => enter [1]; whnf
      exact Ends.some' rfl
    rw [show offP g md 5 xd = (IntKind.u16.wrap (xd + (g 7).1), !(g 7).2) from by unfold offP; rw [if_neg (by omega), if_neg (by omega)]; rfl] at hoff
    conv => enter [1]; whnf
    repeat (first
      | (refine Ends.force ?_; conv => enter [1]; whnf)
      | (refine Ends.forceN ?_; conv => enter [1]; whnf)
      | (refine Ends.forceLs ?_; conv => enter [1]; whnf)
      | (refine Ends.iteT (by first | with_reducible assumption | (simp [*]; done) | (apply decide_eq_true; omega) | fail "open") ?_; conv => enter [1]; whnf)
      | (refine Ends.iteF (by first | with_reducible assumption | (simp [*]; done) | (apply decide_eq_false; omega) | fail "open") ?_; conv => enter [1]; whnf))
    refine Ends.call hoff ?_
    conv => enter [1]; whnf
    refine Ends.call (awake11_F mk K lo (by omega) H h0) ?_
    conv => enter [1]; whnf
    refine Ends.iteT (guardT (beq_iff_eq.2 (off_w1 xd (g 7).1 h1 ug7))) ?_
    conv => enter [1]; whnf
    refine Ends.some' ?_
    simp [*]
  by_cases r6 : rm = 6
  · subst r6
    have hoff := off_F mk K lo (by omega) g s ip f ⟨z.lock, z.rep, z.seg, z.op, md, z.reg, 6, xd, z.imm, z.sel⟩ H h0
    replace hoff : _ = some (Val.tup [.int .u16 (offP g md 6 xd).1, .bool (offP g md 6 xd).2], H) := hoff
    by_cases m3 : md = 3
    · rw [show offP g md 6 xd = (0, true) from if_pos (Or.inl m3)] at hoff
      
      conv => enter [1]; whnf
      repeat (first
        | (refine Ends.force ?_; conv => enter [1]; whnf)
        | (refine Ends.forceN ?_; conv => enter [1]; whnf)
        | (refine Ends.forceLs ?_; conv => enter [1]; whnf)
        | (refine Ends.iteT (by first | with_reducible assumption | (simp [*]; done) | (apply decide_eq_true; omega) | fail "open") ?_; conv => enter [1]; whnf)
        | (refine Ends.iteF (by first | with_reducible assumption | (simp [*]; done) | (apply decide_eq_false; omega) | fail "open") ?_; conv => enter [1]; whnf))
      refine Ends.call hoff ?_
      conv => enter [1]; whnf
      refine Ends.call (awake11_F mk K lo (by omega) H h0) ?_
      conv => enter [1]; whnf
      exact Ends.some' rfl
    by_cases m0 : md < 0
    · rw [show offP g md 6 xd = (0, true) from if_pos (Or.inr (Or.inl m0))] at hoff
      have mz0 : ¬ md = 0 := by omega
      
      conv => enter [1]; whnf
      repeat (first
        | (refine Ends.force ?_; conv => enter [1]; whnf)
        | (refine Ends.forceN ?_; conv => enter [1]; whnf)
        | (refine Ends.forceLs ?_; conv => enter [1]; whnf)
        | (refine Ends.iteT (by first | with_reducible assumption | (simp [*]; done) | (apply decide_eq_true; omega) | fail "open") ?_; conv => enter [1]; whnf)
        | (refine Ends.iteF (by first | with_reducible assumption | (simp [*]; done) | (apply decide_eq_false; omega) | fail "open") ?_; conv => enter [1]; whnf))
      refine Ends.call hoff ?_
      conv => enter [1]; whnf
      refine Ends.call (awake11_F mk K lo (by omega) H h0) ?_
      conv => enter [1]; whnf
      exact Ends.some' rfl
    by_cases mz : md = 0
    · rw [show offP g md 6 xd = (xd, true) from by unfold offP; rw [if_neg (by omega), if_pos ⟨mz, rfl⟩]] at hoff
      
      conv => enter [1]; whnf
      repeat (first
        | (refine Ends.force ?_; conv => enter [1]; whnf)
        | (refine Ends.forceN ?_; conv => enter [1]; whnf)
        | (refine Ends.forceLs ?_; conv => enter [1]; whnf)
        | (refine Ends.iteT (by first | with_reducible assumption | (simp [*]; done) | (apply decide_eq_true; omega) | fail "open") ?_; conv => enter [1]; whnf)
        | (refine Ends.iteF (by first | with_reducible assumption | (simp [*]; done) | (apply decide_eq_false; omega) | fail "open") ?_; conv => enter [1]; whnf))
      refine Ends.call hoff ?_
      conv => enter [1]; whnf
      refine Ends.call (awake11_F mk K lo (by omega) H h0) ?_
      conv => enter [1]; whnf
      refine Ends.iteT (guardT (beq_iff_eq.2 (off_w0 xd h1))) ?_
      conv => enter [1]; whnf
      refine Ends.some' ?_
      simp [*]
    rw [show offP g md 6 xd = (IntKind.u16.wrap (xd + (g 5).1), !(g 5).2) from by unfold offP; rw [if_neg (by omega), if_neg (by omega)]; rfl] at hoff
    conv => enter [1]; whnf
    repeat (first
      | (refine Ends.force ?_; conv => enter [1]; whnf)
      | (refine Ends.forceN ?_; conv => enter [1]; whnf)
      | (refine Ends.forceLs ?_; conv => enter [1]; whnf)
      | (refine Ends.iteT (by first | with_reducible assumption | (simp [*]; done) | (apply decide_eq_true; omega) | fail "open") ?_; conv => enter [1]; whnf)
      | (refine Ends.iteF (by first | with_reducible assumption | (simp [*]; done) | (apply decide_eq_false; omega) | fail "open") ?_; conv => enter [1]; whnf))
    refine Ends.call hoff ?_
    conv => enter [1]; whnf
    refine Ends.call (awake11_F mk K lo (by omega) H h0) ?_
    conv => enter [1]; whnf
    refine Ends.iteT (guardT (beq_iff_eq.2 (off_w1 xd (g 5).1 h1 ug5))) ?_
    conv => enter [1]; whnf
    refine Ends.some' ?_
    simp [*]
  by_cases r7 : rm = 7
  · subst r7
    have hoff := off_F mk K lo (by omega) g s ip f ⟨z.lock, z.rep, z.seg, z.op, md, z.reg, 7, xd, z.imm, z.sel⟩ H h0
    replace hoff : _ = some (Val.tup [.int .u16 (offP g md 7 xd).1, .bool (offP g md 7 xd).2], H) := hoff
    by_cases m3 : md = 3
    · rw [show offP g md 7 xd = (0, true) from if_pos (Or.inl m3)] at hoff
      
      conv => enter [1]; whnf
      repeat (first
        | (refine Ends.force ?_; conv => enter [1]; whnf)
        | (refine Ends.forceN ?_; conv => enter [1]; whnf)
        | (refine Ends.forceLs ?_; conv => enter [1]; whnf)
        | (refine Ends.iteT (by first | with_reducible assumption | (simp [*]; done) | (apply decide_eq_true; omega) | fail "open") ?_; conv => enter [1]; whnf)
        | (refine Ends.iteF (by first | with_reducible assumption | (simp [*]; done) | (apply decide_eq_false; omega) | fail "open") ?_; conv => enter [1]; whnf))
      refine Ends.call hoff ?_
      conv => enter [1]; whnf
      refine Ends.call (awake11_F mk K lo (by omega) H h0) ?_
      conv => enter [1]; whnf
      exact Ends.some' rfl
    by_cases m0 : md < 0
    · rw [show offP g md 7 xd = (0, true) from if_pos (Or.inr (Or.inl m0))] at hoff
      have mz0 : ¬ md = 0 := by omega
      
      conv => enter [1]; whnf
      repeat (first
        | (refine Ends.force ?_; conv => enter [1]; whnf)
        | (refine Ends.forceN ?_; conv => enter [1]; whnf)
        | (refine Ends.forceLs ?_; conv => enter [1]; whnf)
        | (refine Ends.iteT (by first | with_reducible assumption | (simp [*]; done) | (apply decide_eq_true; omega) | fail "open") ?_; conv => enter [1]; whnf)
        | (refine Ends.iteF (by first | with_reducible assumption | (simp [*]; done) | (apply decide_eq_false; omega) | fail "open") ?_; conv => enter [1]; whnf))
      refine Ends.call hoff ?_
      conv => enter [1]; whnf
      refine Ends.call (awake11_F mk K lo (by omega) H h0) ?_
      conv => enter [1]; whnf
      exact Ends.some' rfl
    rw [show offP g md 7 xd = (IntKind.u16.wrap (xd + (g 3).1), !(g 3).2) from by unfold offP; rw [if_neg (by omega), if_neg (by omega)]; rfl] at hoff
    conv => enter [1]; whnf
    repeat (first
      | (refine Ends.force ?_; conv => enter [1]; whnf)
      | (refine Ends.forceN ?_; conv => enter [1]; whnf)
      | (refine Ends.forceLs ?_; conv => enter [1]; whnf)
      | (refine Ends.iteT (by first | with_reducible assumption | (simp [*]; done) | (apply decide_eq_true; omega) | fail "open") ?_; conv => enter [1]; whnf)
      | (refine Ends.iteF (by first | with_reducible assumption | (simp [*]; done) | (apply decide_eq_false; omega) | fail "open") ?_; conv => enter [1]; whnf))
    refine Ends.call hoff ?_
    conv => enter [1]; whnf
    refine Ends.call (awake11_F mk K lo (by omega) H h0) ?_
    conv => enter [1]; whnf
    refine Ends.iteT (guardT (beq_iff_eq.2 (off_w1 xd (g 3).1 h1 ug3))) ?_
    conv => enter [1]; whnf
    refine Ends.some' ?_
    simp [*]
  have hoff := off_F mk K lo (by omega) g s ip f ⟨z.lock, z.rep, z.seg, z.op, md, z.reg, rm, xd, z.imm, z.sel⟩ H h0
  replace hoff : _ = some (Val.tup [.int .u16 (offP g md rm xd).1, .bool (offP g md rm xd).2], H) := hoff
  rw [show offP g md rm xd = (0, true) from if_pos (by omega)] at hoff
  by_cases m3 : md = 3
  all_goals
    by_cases m0 : md < 0
    all_goals
      by_cases q0 : rm < 0
      all_goals
        try (have q7 : rm > 7 := by omega)
        
        conv => enter [1]; whnf
        repeat (first
          | (refine Ends.force ?_; conv => enter [1]; whnf)
          | (refine Ends.forceN ?_; conv => enter [1]; whnf)
          | (refine Ends.forceLs ?_; conv => enter [1]; whnf)
          | (refine Ends.iteT (by first | with_reducible assumption | (simp [*]; done) | (apply decide_eq_true; omega) | fail "open") ?_; conv => enter [1]; whnf)
          | (refine Ends.iteF (by first | with_reducible assumption | (simp [*]; done) | (apply decide_eq_false; omega) | fail "open") ?_; conv => enter [1]; whnf))
        refine Ends.call hoff ?_
        conv => enter [1]; whnf
        refine Ends.call (awake11_F mk K lo (by omega) H h0) ?_
        conv => enter [1]; whnf
        exact Ends.some' rfl
end Go.Proofs.YtponkdimnafppaaDoor.VM
