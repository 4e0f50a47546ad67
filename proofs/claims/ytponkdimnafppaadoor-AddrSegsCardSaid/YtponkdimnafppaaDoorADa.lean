/- Offsets by the plain machine. -/
import Derived.Test.YtponkdimnafppaaDoorROf
namespace Go.Proofs.YtponkdimnafppaaDoor.VM
open Go Go.RowKit
set_option linter.unusedVariables false
set_option linter.unusedSimpArgs false
set_option maxRecDepth 40000
set_option maxHeartbeats 3200000
/-- The table of registers that an offset counts from. -/
def basesL : List Val := [.int .i64 3, .int .i64 6, .int .i64 3, .int .i64 7, .int .i64 5, .int .i64 6, .int .i64 5, .int .i64 7, .int .i64 6, .int .i64 (-1), .int .i64 7, .int .i64 (-1), .int .i64 5, .int .i64 (-1), .int .i64 3, .int .i64 (-1)]
/-- The registers that an offset counts from. -/
def oneR (rm : Int) : Nat := if rm = 0 then 3 else if rm = 1 then 3 else if rm = 2 then 5 else if rm = 3 then 5 else if rm = 4 then 6 else if rm = 5 then 7 else if rm = 6 then 5 else 3
def twoR (rm : Int) : Option Nat := if rm = 0 then some 6 else if rm = 1 then some 7 else if rm = 2 then some 6 else if rm = 3 then some 7 else none
def offP (g : Nat → VT) (md rm disp : Int) : Int × Bool :=
  if md = 3 ∨ md < 0 ∨ rm < 0 ∨ 7 < rm then (0, true)
  else if md = 0 ∧ rm = 6 then (disp, true)
  else match twoR rm with
    | some b => (IntKind.u16.wrap (IntKind.u16.wrap (disp + (g (oneR rm)).1) + (g b).1), !(g (oneR rm)).2 && !(g b).2)
    | none => (IntKind.u16.wrap (disp + (g (oneR rm)).1), !(g (oneR rm)).2)
theorem off_F (mk : Mk) (k lo : Nat) (hk : 30 ≤ k) (g s : Nat → VT) (ip f : Int) (z : IN) (H : List Blk) (h0 : H[0]? = some ⟨basesL, true⟩) :
    FF mk k lo 10 [.agg (regsL g s ip f), .agg (inL z)] H = some (.tup [.int .u16 (offP g z.mod z.rm z.disp).1, .bool (offP g z.mod z.rm z.disp).2], H) := by
  obtain ⟨k, rfl⟩ : ∃ m, k = m + 20 := ⟨k - 20, by omega⟩
  obtain ⟨z1, z2, z3, z4, md, z6, rm, disp, z9, z10⟩ := z
  show FF mk ((k + 19) + 1) lo _ _ H = some (.tup [.int .u16 (offP g md rm disp).1, .bool (offP g md rm disp).2], H)
  refine eq_of_ends ?_
  refine Ends.enter rfl ?_
  by_cases c1 : md = 3
  · conv => enter [1]; whnf
    repeat (first
      | (refine Ends.force ?_; conv => enter [1]; whnf)
      | (refine Ends.forceN ?_; conv => enter [1]; whnf)
      | (refine Ends.forceLs ?_; conv => enter [1]; whnf)
      | (refine Ends.iteT (by first | with_reducible assumption | (simp [*]; done) | (apply decide_eq_true; omega) | fail "open") ?_; conv => enter [1]; whnf)
      | (refine Ends.iteF (by first | with_reducible assumption | (simp [*]; done) | (apply decide_eq_false; omega) | fail "open") ?_; conv => enter [1]; whnf))
    refine Ends.some' ?_
    simp [offP, c1]
  by_cases c2 : md < 0
  · conv => enter [1]; whnf
    repeat (first
      | (refine Ends.force ?_; conv => enter [1]; whnf)
      | (refine Ends.forceN ?_; conv => enter [1]; whnf)
      | (refine Ends.forceLs ?_; conv => enter [1]; whnf)
      | (refine Ends.iteT (by first | with_reducible assumption | (simp [*]; done) | (apply decide_eq_true; omega) | fail "open") ?_; conv => enter [1]; whnf)
      | (refine Ends.iteF (by first | with_reducible assumption | (simp [*]; done) | (apply decide_eq_false; omega) | fail "open") ?_; conv => enter [1]; whnf))
    refine Ends.some' ?_
    simp [offP, c2]
  by_cases c3 : rm < 0
  · conv => enter [1]; whnf
    repeat (first
      | (refine Ends.force ?_; conv => enter [1]; whnf)
      | (refine Ends.forceN ?_; conv => enter [1]; whnf)
      | (refine Ends.forceLs ?_; conv => enter [1]; whnf)
      | (refine Ends.iteT (by first | with_reducible assumption | (simp [*]; done) | (apply decide_eq_true; omega) | fail "open") ?_; conv => enter [1]; whnf)
      | (refine Ends.iteF (by first | with_reducible assumption | (simp [*]; done) | (apply decide_eq_false; omega) | fail "open") ?_; conv => enter [1]; whnf))
    refine Ends.some' ?_
    simp [offP, c3]
  by_cases c4 : rm > 7
  · conv => enter [1]; whnf
    repeat (first
      | (refine Ends.force ?_; conv => enter [1]; whnf)
      | (refine Ends.forceN ?_; conv => enter [1]; whnf)
      | (refine Ends.forceLs ?_; conv => enter [1]; whnf)
      | (refine Ends.iteT (by first | with_reducible assumption | (simp [*]; done) | (apply decide_eq_true; omega) | fail "open") ?_; conv => enter [1]; whnf)
      | (refine Ends.iteF (by first | with_reducible assumption | (simp [*]; done) | (apply decide_eq_false; omega) | fail "open") ?_; conv => enter [1]; whnf))
    refine Ends.some' ?_
    simp [offP, show 7 < rm from c4]
  have hc : ¬ (md = 3 ∨ md < 0 ∨ rm < 0 ∨ 7 < rm) := by omega
  by_cases c5 : md = 0 ∧ rm = 6
  · obtain ⟨c5, c6⟩ := c5
    conv => enter [1]; whnf
    repeat (first
      | (refine Ends.force ?_; conv => enter [1]; whnf)
      | (refine Ends.forceN ?_; conv => enter [1]; whnf)
      | (refine Ends.forceLs ?_; conv => enter [1]; whnf)
      | (refine Ends.iteT (by first | with_reducible assumption | (simp [*]; done) | (apply decide_eq_true; omega) | fail "open") ?_; conv => enter [1]; whnf)
      | (refine Ends.iteF (by first | with_reducible assumption | (simp [*]; done) | (apply decide_eq_false; omega) | fail "open") ?_; conv => enter [1]; whnf))
    refine Ends.some' ?_
    simp [offP, c5, c6]
  by_cases c8 : md = 0 ∧ rm = 6
  · exact absurd c8 c5
  rcases (show rm = 0 ∨ rm = 1 ∨ rm = 2 ∨ rm = 3 ∨ rm = 4 ∨ rm = 5 ∨ rm = 6 ∨ rm = 7 by omega) with rfl | rfl | rfl | rfl | rfl | rfl | rfl | rfl
  · skip
    have hs : offP g md 0 disp = (IntKind.u16.wrap (IntKind.u16.wrap (disp + (g 3).1) + (g 6).1), !(g 3).2 && !(g 6).2) := by
      unfold offP
      rw [if_neg hc, if_neg c5]
      rfl
    rw [hs]
    conv => enter [1]; whnf
    repeat (first
      | (refine Ends.force ?_; conv => enter [1]; whnf)
      | (refine Ends.forceN ?_; conv => enter [1]; whnf)
      | (refine Ends.forceLs ?_; conv => enter [1]; whnf)
      | (refine Ends.iteT (by first | with_reducible assumption | (simp [*]; done) | (apply decide_eq_true; omega) | fail "open") ?_; conv => enter [1]; whnf)
      | (refine Ends.iteF (by first | with_reducible assumption | (simp [*]; done) | (apply decide_eq_false; omega) | fail "open") ?_; conv => enter [1]; whnf))
    refine Ends.ite (fun h => ?_) (fun h => ?_) <;> (conv => enter [1]; whnf)
    all_goals
      refine Ends.opt (get_at h0 _) ?_
      conv => enter [1]; whnf
      refine Ends.opt ((by rfl)) ?_
      conv => enter [1]; whnf
      repeat (first
        | (refine Ends.force ?_; conv => enter [1]; whnf)
        | (refine Ends.forceN ?_; conv => enter [1]; whnf)
        | (refine Ends.forceLs ?_; conv => enter [1]; whnf)
        | (refine Ends.iteT (by first | with_reducible assumption | (simp [*]; done) | (apply decide_eq_true; omega) | fail "open") ?_; conv => enter [1]; whnf)
        | (refine Ends.iteF (by first | with_reducible assumption | (simp [*]; done) | (apply decide_eq_false; omega) | fail "open") ?_; conv => enter [1]; whnf))
      repeat (first
        | (refine Ends.force ?_; conv => enter [1]; whnf)
        | (refine Ends.forceN ?_; conv => enter [1]; whnf)
        | (refine Ends.forceLs ?_; conv => enter [1]; whnf)
        | (refine Ends.iteT (by first | with_reducible assumption | (simp [*]; done) | (apply decide_eq_true; omega) | fail "open") ?_; conv => enter [1]; whnf)
        | (refine Ends.iteF (by first | with_reducible assumption | (simp [*]; done) | (apply decide_eq_false; omega) | fail "open") ?_; conv => enter [1]; whnf))
      refine Ends.ite (fun h => ?_) (fun h => ?_) <;> (conv => enter [1]; whnf)
      · refine Ends.some' ?_
        simp at h
        simp [h]
      · refine Ends.some' ?_
        simp at h
        simp [h]
  · skip
    have hs : offP g md 1 disp = (IntKind.u16.wrap (IntKind.u16.wrap (disp + (g 3).1) + (g 7).1), !(g 3).2 && !(g 7).2) := by
      unfold offP
      rw [if_neg hc, if_neg c5]
      rfl
    rw [hs]
    conv => enter [1]; whnf
    repeat (first
      | (refine Ends.force ?_; conv => enter [1]; whnf)
      | (refine Ends.forceN ?_; conv => enter [1]; whnf)
      | (refine Ends.forceLs ?_; conv => enter [1]; whnf)
      | (refine Ends.iteT (by first | with_reducible assumption | (simp [*]; done) | (apply decide_eq_true; omega) | fail "open") ?_; conv => enter [1]; whnf)
      | (refine Ends.iteF (by first | with_reducible assumption | (simp [*]; done) | (apply decide_eq_false; omega) | fail "open") ?_; conv => enter [1]; whnf))
    refine Ends.ite (fun h => ?_) (fun h => ?_) <;> (conv => enter [1]; whnf)
    all_goals
      refine Ends.opt (get_at h0 _) ?_
      conv => enter [1]; whnf
      refine Ends.opt ((by rfl)) ?_
      conv => enter [1]; whnf
      repeat (first
        | (refine Ends.force ?_; conv => enter [1]; whnf)
        | (refine Ends.forceN ?_; conv => enter [1]; whnf)
        | (refine Ends.forceLs ?_; conv => enter [1]; whnf)
        | (refine Ends.iteT (by first | with_reducible assumption | (simp [*]; done) | (apply decide_eq_true; omega) | fail "open") ?_; conv => enter [1]; whnf)
        | (refine Ends.iteF (by first | with_reducible assumption | (simp [*]; done) | (apply decide_eq_false; omega) | fail "open") ?_; conv => enter [1]; whnf))
      repeat (first
        | (refine Ends.force ?_; conv => enter [1]; whnf)
        | (refine Ends.forceN ?_; conv => enter [1]; whnf)
        | (refine Ends.forceLs ?_; conv => enter [1]; whnf)
        | (refine Ends.iteT (by first | with_reducible assumption | (simp [*]; done) | (apply decide_eq_true; omega) | fail "open") ?_; conv => enter [1]; whnf)
        | (refine Ends.iteF (by first | with_reducible assumption | (simp [*]; done) | (apply decide_eq_false; omega) | fail "open") ?_; conv => enter [1]; whnf))
      refine Ends.ite (fun h => ?_) (fun h => ?_) <;> (conv => enter [1]; whnf)
      · refine Ends.some' ?_
        simp at h
        simp [h]
      · refine Ends.some' ?_
        simp at h
        simp [h]
  · skip
    have hs : offP g md 2 disp = (IntKind.u16.wrap (IntKind.u16.wrap (disp + (g 5).1) + (g 6).1), !(g 5).2 && !(g 6).2) := by
      unfold offP
      rw [if_neg hc, if_neg c5]
      rfl
    rw [hs]
    conv => enter [1]; whnf
    repeat (first
      | (refine Ends.force ?_; conv => enter [1]; whnf)
      | (refine Ends.forceN ?_; conv => enter [1]; whnf)
      | (refine Ends.forceLs ?_; conv => enter [1]; whnf)
      | (refine Ends.iteT (by first | with_reducible assumption | (simp [*]; done) | (apply decide_eq_true; omega) | fail "open") ?_; conv => enter [1]; whnf)
      | (refine Ends.iteF (by first | with_reducible assumption | (simp [*]; done) | (apply decide_eq_false; omega) | fail "open") ?_; conv => enter [1]; whnf))
    refine Ends.ite (fun h => ?_) (fun h => ?_) <;> (conv => enter [1]; whnf)
    all_goals
      refine Ends.opt (get_at h0 _) ?_
      conv => enter [1]; whnf
      refine Ends.opt ((by rfl)) ?_
      conv => enter [1]; whnf
      repeat (first
        | (refine Ends.force ?_; conv => enter [1]; whnf)
        | (refine Ends.forceN ?_; conv => enter [1]; whnf)
        | (refine Ends.forceLs ?_; conv => enter [1]; whnf)
        | (refine Ends.iteT (by first | with_reducible assumption | (simp [*]; done) | (apply decide_eq_true; omega) | fail "open") ?_; conv => enter [1]; whnf)
        | (refine Ends.iteF (by first | with_reducible assumption | (simp [*]; done) | (apply decide_eq_false; omega) | fail "open") ?_; conv => enter [1]; whnf))
      repeat (first
        | (refine Ends.force ?_; conv => enter [1]; whnf)
        | (refine Ends.forceN ?_; conv => enter [1]; whnf)
        | (refine Ends.forceLs ?_; conv => enter [1]; whnf)
        | (refine Ends.iteT (by first | with_reducible assumption | (simp [*]; done) | (apply decide_eq_true; omega) | fail "open") ?_; conv => enter [1]; whnf)
        | (refine Ends.iteF (by first | with_reducible assumption | (simp [*]; done) | (apply decide_eq_false; omega) | fail "open") ?_; conv => enter [1]; whnf))
      refine Ends.ite (fun h => ?_) (fun h => ?_) <;> (conv => enter [1]; whnf)
      · refine Ends.some' ?_
        simp at h
        simp [h]
      · refine Ends.some' ?_
        simp at h
        simp [h]
  · skip
    have hs : offP g md 3 disp = (IntKind.u16.wrap (IntKind.u16.wrap (disp + (g 5).1) + (g 7).1), !(g 5).2 && !(g 7).2) := by
      unfold offP
      rw [if_neg hc, if_neg c5]
      rfl
    rw [hs]
    conv => enter [1]; whnf
    repeat (first
      | (refine Ends.force ?_; conv => enter [1]; whnf)
      | (refine Ends.forceN ?_; conv => enter [1]; whnf)
      | (refine Ends.forceLs ?_; conv => enter [1]; whnf)
      | (refine Ends.iteT (by first | with_reducible assumption | (simp [*]; done) | (apply decide_eq_true; omega) | fail "open") ?_; conv => enter [1]; whnf)
      | (refine Ends.iteF (by first | with_reducible assumption | (simp [*]; done) | (apply decide_eq_false; omega) | fail "open") ?_; conv => enter [1]; whnf))
    refine Ends.ite (fun h => ?_) (fun h => ?_) <;> (conv => enter [1]; whnf)
    all_goals
      refine Ends.opt (get_at h0 _) ?_
      conv => enter [1]; whnf
      refine Ends.opt ((by rfl)) ?_
      conv => enter [1]; whnf
      repeat (first
        | (refine Ends.force ?_; conv => enter [1]; whnf)
        | (refine Ends.forceN ?_; conv => enter [1]; whnf)
        | (refine Ends.forceLs ?_; conv => enter [1]; whnf)
        | (refine Ends.iteT (by first | with_reducible assumption | (simp [*]; done) | (apply decide_eq_true; omega) | fail "open") ?_; conv => enter [1]; whnf)
        | (refine Ends.iteF (by first | with_reducible assumption | (simp [*]; done) | (apply decide_eq_false; omega) | fail "open") ?_; conv => enter [1]; whnf))
      repeat (first
        | (refine Ends.force ?_; conv => enter [1]; whnf)
        | (refine Ends.forceN ?_; conv => enter [1]; whnf)
        | (refine Ends.forceLs ?_; conv => enter [1]; whnf)
        | (refine Ends.iteT (by first | with_reducible assumption | (simp [*]; done) | (apply decide_eq_true; omega) | fail "open") ?_; conv => enter [1]; whnf)
        | (refine Ends.iteF (by first | with_reducible assumption | (simp [*]; done) | (apply decide_eq_false; omega) | fail "open") ?_; conv => enter [1]; whnf))
      refine Ends.ite (fun h => ?_) (fun h => ?_) <;> (conv => enter [1]; whnf)
      · refine Ends.some' ?_
        simp at h
        simp [h]
      · refine Ends.some' ?_
        simp at h
        simp [h]
  · skip
    have hs : offP g md 4 disp = (IntKind.u16.wrap (disp + (g 6).1), !(g 6).2) := by
      unfold offP
      rw [if_neg hc, if_neg c5]
      rfl
    rw [hs]
    conv => enter [1]; whnf
    repeat (first
      | (refine Ends.force ?_; conv => enter [1]; whnf)
      | (refine Ends.forceN ?_; conv => enter [1]; whnf)
      | (refine Ends.forceLs ?_; conv => enter [1]; whnf)
      | (refine Ends.iteT (by first | with_reducible assumption | (simp [*]; done) | (apply decide_eq_true; omega) | fail "open") ?_; conv => enter [1]; whnf)
      | (refine Ends.iteF (by first | with_reducible assumption | (simp [*]; done) | (apply decide_eq_false; omega) | fail "open") ?_; conv => enter [1]; whnf))
    refine Ends.ite (fun h => ?_) (fun h => ?_) <;> (conv => enter [1]; whnf)
    all_goals
      refine Ends.opt (get_at h0 _) ?_
      conv => enter [1]; whnf
      refine Ends.opt ((by rfl)) ?_
      conv => enter [1]; whnf
      repeat (first
        | (refine Ends.force ?_; conv => enter [1]; whnf)
        | (refine Ends.forceN ?_; conv => enter [1]; whnf)
        | (refine Ends.forceLs ?_; conv => enter [1]; whnf)
        | (refine Ends.iteT (by first | with_reducible assumption | (simp [*]; done) | (apply decide_eq_true; omega) | fail "open") ?_; conv => enter [1]; whnf)
        | (refine Ends.iteF (by first | with_reducible assumption | (simp [*]; done) | (apply decide_eq_false; omega) | fail "open") ?_; conv => enter [1]; whnf))
      repeat (first
        | (refine Ends.force ?_; conv => enter [1]; whnf)
        | (refine Ends.forceN ?_; conv => enter [1]; whnf)
        | (refine Ends.forceLs ?_; conv => enter [1]; whnf)
        | (refine Ends.iteT (by first | with_reducible assumption | (simp [*]; done) | (apply decide_eq_true; omega) | fail "open") ?_; conv => enter [1]; whnf)
        | (refine Ends.iteF (by first | with_reducible assumption | (simp [*]; done) | (apply decide_eq_false; omega) | fail "open") ?_; conv => enter [1]; whnf))
      refine Ends.some' ?_
      simp
  · skip
    have hs : offP g md 5 disp = (IntKind.u16.wrap (disp + (g 7).1), !(g 7).2) := by
      unfold offP
      rw [if_neg hc, if_neg c5]
      rfl
    rw [hs]
    conv => enter [1]; whnf
    repeat (first
      | (refine Ends.force ?_; conv => enter [1]; whnf)
      | (refine Ends.forceN ?_; conv => enter [1]; whnf)
      | (refine Ends.forceLs ?_; conv => enter [1]; whnf)
      | (refine Ends.iteT (by first | with_reducible assumption | (simp [*]; done) | (apply decide_eq_true; omega) | fail "open") ?_; conv => enter [1]; whnf)
      | (refine Ends.iteF (by first | with_reducible assumption | (simp [*]; done) | (apply decide_eq_false; omega) | fail "open") ?_; conv => enter [1]; whnf))
    refine Ends.ite (fun h => ?_) (fun h => ?_) <;> (conv => enter [1]; whnf)
    all_goals
      refine Ends.opt (get_at h0 _) ?_
      conv => enter [1]; whnf
      refine Ends.opt ((by rfl)) ?_
      conv => enter [1]; whnf
      repeat (first
        | (refine Ends.force ?_; conv => enter [1]; whnf)
        | (refine Ends.forceN ?_; conv => enter [1]; whnf)
        | (refine Ends.forceLs ?_; conv => enter [1]; whnf)
        | (refine Ends.iteT (by first | with_reducible assumption | (simp [*]; done) | (apply decide_eq_true; omega) | fail "open") ?_; conv => enter [1]; whnf)
        | (refine Ends.iteF (by first | with_reducible assumption | (simp [*]; done) | (apply decide_eq_false; omega) | fail "open") ?_; conv => enter [1]; whnf))
      repeat (first
        | (refine Ends.force ?_; conv => enter [1]; whnf)
        | (refine Ends.forceN ?_; conv => enter [1]; whnf)
        | (refine Ends.forceLs ?_; conv => enter [1]; whnf)
        | (refine Ends.iteT (by first | with_reducible assumption | (simp [*]; done) | (apply decide_eq_true; omega) | fail "open") ?_; conv => enter [1]; whnf)
        | (refine Ends.iteF (by first | with_reducible assumption | (simp [*]; done) | (apply decide_eq_false; omega) | fail "open") ?_; conv => enter [1]; whnf))
      refine Ends.some' ?_
      simp
  · skip
    have hs : offP g md 6 disp = (IntKind.u16.wrap (disp + (g 5).1), !(g 5).2) := by
      unfold offP
      rw [if_neg hc, if_neg c5]
      rfl
    rw [hs]
    have c7 : ¬ md = 0 := fun z => c5 ⟨z, rfl⟩
    conv => enter [1]; whnf
    repeat (first
      | (refine Ends.force ?_; conv => enter [1]; whnf)
      | (refine Ends.forceN ?_; conv => enter [1]; whnf)
      | (refine Ends.forceLs ?_; conv => enter [1]; whnf)
      | (refine Ends.iteT (by first | with_reducible assumption | (simp [*]; done) | (apply decide_eq_true; omega) | fail "open") ?_; conv => enter [1]; whnf)
      | (refine Ends.iteF (by first | with_reducible assumption | (simp [*]; done) | (apply decide_eq_false; omega) | fail "open") ?_; conv => enter [1]; whnf))
    skip
    all_goals
      refine Ends.opt (get_at h0 _) ?_
      conv => enter [1]; whnf
      refine Ends.opt ((by rfl)) ?_
      conv => enter [1]; whnf
      repeat (first
        | (refine Ends.force ?_; conv => enter [1]; whnf)
        | (refine Ends.forceN ?_; conv => enter [1]; whnf)
        | (refine Ends.forceLs ?_; conv => enter [1]; whnf)
        | (refine Ends.iteT (by first | with_reducible assumption | (simp [*]; done) | (apply decide_eq_true; omega) | fail "open") ?_; conv => enter [1]; whnf)
        | (refine Ends.iteF (by first | with_reducible assumption | (simp [*]; done) | (apply decide_eq_false; omega) | fail "open") ?_; conv => enter [1]; whnf))
      repeat (first
        | (refine Ends.force ?_; conv => enter [1]; whnf)
        | (refine Ends.forceN ?_; conv => enter [1]; whnf)
        | (refine Ends.forceLs ?_; conv => enter [1]; whnf)
        | (refine Ends.iteT (by first | with_reducible assumption | (simp [*]; done) | (apply decide_eq_true; omega) | fail "open") ?_; conv => enter [1]; whnf)
        | (refine Ends.iteF (by first | with_reducible assumption | (simp [*]; done) | (apply decide_eq_false; omega) | fail "open") ?_; conv => enter [1]; whnf))
      refine Ends.some' ?_
      simp
  · skip
    have hs : offP g md 7 disp = (IntKind.u16.wrap (disp + (g 3).1), !(g 3).2) := by
      unfold offP
      rw [if_neg hc, if_neg c5]
      rfl
    rw [hs]
    conv => enter [1]; whnf
    repeat (first
      | (refine Ends.force ?_; conv => enter [1]; whnf)
      | (refine Ends.forceN ?_; conv => enter [1]; whnf)
      | (refine Ends.forceLs ?_; conv => enter [1]; whnf)
      | (refine Ends.iteT (by first | with_reducible assumption | (simp [*]; done) | (apply decide_eq_true; omega) | fail "open") ?_; conv => enter [1]; whnf)
      | (refine Ends.iteF (by first | with_reducible assumption | (simp [*]; done) | (apply decide_eq_false; omega) | fail "open") ?_; conv => enter [1]; whnf))
    refine Ends.ite (fun h => ?_) (fun h => ?_) <;> (conv => enter [1]; whnf)
    all_goals
      refine Ends.opt (get_at h0 _) ?_
      conv => enter [1]; whnf
      refine Ends.opt ((by rfl)) ?_
      conv => enter [1]; whnf
      repeat (first
        | (refine Ends.force ?_; conv => enter [1]; whnf)
        | (refine Ends.forceN ?_; conv => enter [1]; whnf)
        | (refine Ends.forceLs ?_; conv => enter [1]; whnf)
        | (refine Ends.iteT (by first | with_reducible assumption | (simp [*]; done) | (apply decide_eq_true; omega) | fail "open") ?_; conv => enter [1]; whnf)
        | (refine Ends.iteF (by first | with_reducible assumption | (simp [*]; done) | (apply decide_eq_false; omega) | fail "open") ?_; conv => enter [1]; whnf))
      repeat (first
        | (refine Ends.force ?_; conv => enter [1]; whnf)
        | (refine Ends.forceN ?_; conv => enter [1]; whnf)
        | (refine Ends.forceLs ?_; conv => enter [1]; whnf)
        | (refine Ends.iteT (by first | with_reducible assumption | (simp [*]; done) | (apply decide_eq_true; omega) | fail "open") ?_; conv => enter [1]; whnf)
        | (refine Ends.iteF (by first | with_reducible assumption | (simp [*]; done) | (apply decide_eq_false; omega) | fail "open") ?_; conv => enter [1]; whnf))
      refine Ends.some' ?_
      simp
end Go.Proofs.YtponkdimnafppaaDoor.VM
