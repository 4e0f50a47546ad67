/- AddrOff by the plain machine. -/
import Derived.Test.YtponkdimnafppaaDoorADa
namespace Go.Proofs.YtponkdimnafppaaDoor.VM
open Go Go.RowKit
set_option linter.unusedVariables false
set_option linter.unusedSimpArgs false
set_option maxRecDepth 40000
set_option maxHeartbeats 3200000
def defP (z : IN) : Int := if 0 < z.seg ∧ z.seg ≤ 4 then z.seg - 1 else if z.mod = 3 then 3 else if z.rm = 2 ∨ z.rm = 3 ∨ z.rm = 6 ∧ z.mod ≠ 0 then 2 else 3
theorem default_F (mk : Mk) (k lo : Nat) (hk : 2 ≤ k) (z : IN) (H : List Blk) : FF mk k lo 13 [.agg (inL z)] H = some (.int .i64 (defP z), H) := by
  obtain ⟨k, rfl⟩ : ∃ m, k = m + 1 := ⟨k - 1, by omega⟩
  refine eq_of_ends ?_
  refine Ends.enter rfl ?_
  obtain ⟨z1, z2, sg, z4, md, z6, rm, disp, z9, z10⟩ := z
  show Ends _ (fun r => r = (Val.int .i64 (if 0 < sg ∧ sg ≤ 4 then sg - 1 else if md = 3 then 3 else if rm = 2 ∨ rm = 3 ∨ rm = 6 ∧ md ≠ 0 then 2 else 3), H))
  by_cases c1 : 0 < sg ∧ sg ≤ 4
  · rw [if_pos c1]
    obtain ⟨c1, c2⟩ := c1
    have c3 : sg > 0 := c1
    conv => enter [1]; whnf
    repeat (first
      | (refine Ends.force ?_; conv => enter [1]; whnf)
      | (refine Ends.forceN ?_; conv => enter [1]; whnf)
      | (refine Ends.forceLs ?_; conv => enter [1]; whnf)
      | (refine Ends.iteT (by first | with_reducible assumption | (simp [*]; done) | (apply decide_eq_true; omega) | fail "open") ?_; conv => enter [1]; whnf)
      | (refine Ends.iteF (by first | with_reducible assumption | (simp [*]; done) | (apply decide_eq_false; omega) | fail "open") ?_; conv => enter [1]; whnf))
    refine Ends.some' ?_
    show (Val.int .i64 (IntKind.i64.wrap (sg - 1)), H) = _
    rw [w64n (sg - 1) (by omega) (by omega)]
  · rw [if_neg c1]
    conv => enter [1]; whnf
    by_cases c2 : 0 < sg
    all_goals
      first
        | (have c3 : ¬ sg ≤ 4 := fun w => c1 ⟨c2, w⟩; refine Ends.iteT (by simp; omega) ?_; (conv => enter [1]; whnf); refine Ends.iteF (by simp; omega) ?_)
        | (refine Ends.iteF (by simp; omega) ?_)
      conv => enter [1]; whnf
      by_cases c4 : md = 3
      · rw [if_pos c4]
        repeat (first
          | (refine Ends.force ?_; conv => enter [1]; whnf)
          | (refine Ends.forceN ?_; conv => enter [1]; whnf)
          | (refine Ends.forceLs ?_; conv => enter [1]; whnf)
          | (refine Ends.iteT (by first | with_reducible assumption | (simp [*]; done) | (apply decide_eq_true; omega) | fail "open") ?_; conv => enter [1]; whnf)
          | (refine Ends.iteF (by first | with_reducible assumption | (simp [*]; done) | (apply decide_eq_false; omega) | fail "open") ?_; conv => enter [1]; whnf))
        exact Ends.some' rfl
      · rw [if_neg c4]
        repeat (first
          | (refine Ends.force ?_; conv => enter [1]; whnf)
          | (refine Ends.forceN ?_; conv => enter [1]; whnf)
          | (refine Ends.forceLs ?_; conv => enter [1]; whnf)
          | (refine Ends.iteT (by first | with_reducible assumption | (simp [*]; done) | (apply decide_eq_true; omega) | fail "open") ?_; conv => enter [1]; whnf)
          | (refine Ends.iteF (by first | with_reducible assumption | (simp [*]; done) | (apply decide_eq_false; omega) | fail "open") ?_; conv => enter [1]; whnf))
        by_cases c5 : rm = 2
        · rw [if_pos (.inl c5)]
          repeat (first
            | (refine Ends.force ?_; conv => enter [1]; whnf)
            | (refine Ends.forceN ?_; conv => enter [1]; whnf)
            | (refine Ends.forceLs ?_; conv => enter [1]; whnf)
            | (refine Ends.iteT (by first | with_reducible assumption | (simp [*]; done) | (apply decide_eq_true; omega) | fail "open") ?_; conv => enter [1]; whnf)
            | (refine Ends.iteF (by first | with_reducible assumption | (simp [*]; done) | (apply decide_eq_false; omega) | fail "open") ?_; conv => enter [1]; whnf))
          exact Ends.some' rfl
        by_cases c6 : rm = 3
        · rw [if_pos (.inr (.inl c6))]
          repeat (first
            | (refine Ends.force ?_; conv => enter [1]; whnf)
            | (refine Ends.forceN ?_; conv => enter [1]; whnf)
            | (refine Ends.forceLs ?_; conv => enter [1]; whnf)
            | (refine Ends.iteT (by first | with_reducible assumption | (simp [*]; done) | (apply decide_eq_true; omega) | fail "open") ?_; conv => enter [1]; whnf)
            | (refine Ends.iteF (by first | with_reducible assumption | (simp [*]; done) | (apply decide_eq_false; omega) | fail "open") ?_; conv => enter [1]; whnf))
          exact Ends.some' rfl
        by_cases c7 : rm = 6
        · by_cases c8 : md = 0
          · rw [if_neg (fun w => by rcases w with w | w | w <;> first | exact c5 w | exact c6 w | exact w.2 c8)]
            repeat (first
              | (refine Ends.force ?_; conv => enter [1]; whnf)
              | (refine Ends.forceN ?_; conv => enter [1]; whnf)
              | (refine Ends.forceLs ?_; conv => enter [1]; whnf)
              | (refine Ends.iteT (by first | with_reducible assumption | (simp [*]; done) | (apply decide_eq_true; omega) | fail "open") ?_; conv => enter [1]; whnf)
              | (refine Ends.iteF (by first | with_reducible assumption | (simp [*]; done) | (apply decide_eq_false; omega) | fail "open") ?_; conv => enter [1]; whnf))
            exact Ends.some' rfl
          · rw [if_pos (.inr (.inr ⟨c7, c8⟩))]
            repeat (first
              | (refine Ends.force ?_; conv => enter [1]; whnf)
              | (refine Ends.forceN ?_; conv => enter [1]; whnf)
              | (refine Ends.forceLs ?_; conv => enter [1]; whnf)
              | (refine Ends.iteT (by first | with_reducible assumption | (simp [*]; done) | (apply decide_eq_true; omega) | fail "open") ?_; conv => enter [1]; whnf)
              | (refine Ends.iteF (by first | with_reducible assumption | (simp [*]; done) | (apply decide_eq_false; omega) | fail "open") ?_; conv => enter [1]; whnf))
            exact Ends.some' rfl
        · rw [if_neg (fun w => by rcases w with w | w | w <;> first | exact c5 w | exact c6 w | exact c7 w.1)]
          repeat (first
            | (refine Ends.force ?_; conv => enter [1]; whnf)
            | (refine Ends.forceN ?_; conv => enter [1]; whnf)
            | (refine Ends.forceLs ?_; conv => enter [1]; whnf)
            | (refine Ends.iteT (by first | with_reducible assumption | (simp [*]; done) | (apply decide_eq_true; omega) | fail "open") ?_; conv => enter [1]; whnf)
            | (refine Ends.iteF (by first | with_reducible assumption | (simp [*]; done) | (apply decide_eq_false; omega) | fail "open") ?_; conv => enter [1]; whnf))
          exact Ends.some' rfl
theorem off_w0 (d : Int) (hd : 0 ≤ d ∧ d < 65536) : IntKind.i64.wrap d = (IntKind.i64.wrap d).tmod 65536 := by
  rw [w64n d (by omega) (by omega), Int.tmod_eq_emod_of_nonneg (by omega)]; omega
theorem off_w1 (d a : Int) (hd : 0 ≤ d ∧ d < 65536) (ha : 0 ≤ a ∧ a < 65536) : IntKind.i64.wrap (IntKind.u16.wrap (d + a)) = (IntKind.i64.wrap (IntKind.i64.wrap d + IntKind.i64.wrap a)).tmod 65536 := by
  rw [w64n d (by omega) (by omega), w64n a (by omega) (by omega), w64n (d + a) (by omega) (by omega), Int.tmod_eq_emod_of_nonneg (by omega), wu16, w64n _ (by omega) (by omega)]
theorem off_w2 (d a b : Int) (hd : 0 ≤ d ∧ d < 65536) (ha : 0 ≤ a ∧ a < 65536) (hb : 0 ≤ b ∧ b < 65536) : IntKind.i64.wrap (IntKind.u16.wrap (IntKind.u16.wrap (d + a) + b)) = (IntKind.i64.wrap (IntKind.i64.wrap (IntKind.i64.wrap d + IntKind.i64.wrap a) + IntKind.i64.wrap b)).tmod 65536 := by
  rw [w64n d (by omega) (by omega), w64n a (by omega) (by omega), w64n b (by omega) (by omega), w64n (d + a) (by omega) (by omega), w64n (d + a + b) (by omega) (by omega), Int.tmod_eq_emod_of_nonneg (by omega), wu16, wu16, w64n _ (by omega) (by omega)]
  omega
theorem awake11_F (mk : Mk) (k lo : Nat) (hk : 40 ≤ k) (H : List Blk) (h0 : H[0]? = some ⟨basesL, true⟩) : FF mk k lo 11 [] H = some (.bool true, H) := by
  obtain ⟨k, rfl⟩ : ∃ m, k = m + 1 := ⟨k - 1, by omega⟩
  refine eq_of_ends ?_
  refine Ends.enter rfl ?_
  have hoff := off_F mk k lo (by omega) (updR (fun _ => (0, false)) 5 (7, false)) (fun _ => (0, false)) 0 0 ⟨false, 0, 0, 139, 1, 0, 6, 2, 0, 0⟩ H h0
  conv => enter [1]; whnf
  refine Ends.call hoff ?_
  refine Ends.call (default_F mk k lo (by omega) ⟨false, 0, 0, 0, 1, 0, 6, 0, 0, 0⟩ H) ?_
  conv => enter [1]; whnf
  refine Ends.call (default_F mk k lo (by omega) ⟨false, 0, 0, 0, 0, 0, 6, 0, 0, 0⟩ H) ?_
  conv => enter [1]; whnf
  exact Ends.some' rfl
end Go.Proofs.YtponkdimnafppaaDoor.VM
