/- Contracts of the walk of ValueFits: value's small functions. -/
import Derived.Test.YtdalgfoifdjffaaProg
import Derived.Below
import Derived.Deep.Draws
import Derived.OwnWalk
import Derived.Tactics
import Derived.WalkKit
import Derived.KernelRfl
import Derived.RowKit3
import Derived.Deep.LoopGhost
import Derived.Deep.QuietTactic
import Derived.BigQuiet
import Derived.Deep.RegionWith
import Derived.StillTailTactics
import Derived.WideLaws
import Derived.Laws.BitsLemmas
import Derived.RowKit
import Derived.Outline
import Derived.WalkLawsBesides
import Derived.Test.YtdalgfoifdjffaaWWords
import Derived.Test.YtdalgfoifdjffaaWLast
import Derived.Test.YtdalgfoifdjffaaWMore
import Derived.Test.YtdalgfoifdjffaaWArr
namespace Go.Proofs.Ytdalgfoifdjffaa.My
open Go.RowKit Go.Proofs.YtdalgfoifdjffaaW.PrintWords Go.Proofs.YtdalgfoifdjffaaW.PrintLast Go.Proofs.YtdalgfoifdjffaaW.PrintMore
set_option linter.unusedVariables false
set_option linter.unusedSimpArgs false

def numV (n : Int) : Value := .agg #[.int .i64 n, .int .i64 0, .int .i64 0, .int .i64 0, .int .i64 0, .bool true]
set_option maxRecDepth 100000 in
theorem plain_c (n : Int) (w : World) : Calls Try.prog 35 #[.agg #[.int .i64 n, .int .i64 0, .int .i64 0, .int .i64 0, .int .i64 0, .bool true]] w fun e w' => e = .returned (.bool true) ∧ Below w.heap.size w w' := by
  have hu := Try.underlying24
  go_enter Try.func35, Try.ntmps35
  go_wp2
  go_ret
  exact ⟨rfl, below_alloc (Below.refl _ _) _⟩
theorem cut_c (n : Int) (w : World) : Calls Try.prog 50 #[.int .i64 n] w fun e w' => e = .returned (.int .i64 (wrap64 (wrap32 n))) ∧ w = w' := by
  go_enter Try.func50, Try.ntmps50
  go_wp2
  go_ret
  exact ⟨rfl, rfl⟩
def fitsM (n s : Int) : Bool := if s = 1 then decide (-128 ≤ n ∧ n ≤ 255) else decide (-32768 ≤ n ∧ n ≤ 65535)
theorem fits_c (n s : Int) (w : World) : Calls Try.prog 30 #[.int .i64 n, .int .i64 s] w fun e w' => e = .returned (.bool (fitsM n s)) ∧ w = w' := by
  by_cases hs : s = 1
  · subst hs
    cases h1 : decide ((-128 : Int) ≤ n)
    · go_enter Try.func30, Try.ntmps30
      go_wp2
      go_ret
      refine ⟨?_, rfl⟩
      unfold fitsM
      simp at h1 ⊢
      omega
    · go_enter Try.func30, Try.ntmps30
      go_wp2
      go_ret
      refine ⟨?_, rfl⟩
      unfold fitsM
      simp at h1 ⊢
      omega
  · cases h1 : decide ((-32768 : Int) ≤ n)
    · go_enter Try.func30, Try.ntmps30
      go_wp2
      go_ret
      refine ⟨?_, rfl⟩
      unfold fitsM
      simp [hs] at h1 ⊢
      omega
    · go_enter Try.func30, Try.ntmps30
      go_wp2
      go_ret
      refine ⟨?_, rfl⟩
      unfold fitsM
      simp [hs] at h1 ⊢
      omega
def sizeM (t : Int) : Int := if t = 1 ∨ t = 2 ∨ t = 4 ∨ t = 8 then t else 0
theorem size_c (t : Int) (w : World) : Calls Try.prog 31 #[.int .i64 t] w fun e w' => e = .returned (.int .i64 (sizeM t)) ∧ w = w' := by
  by_cases h1 : t = 1
  · subst h1
    go_enter Try.func31, Try.ntmps31
    go_wp2
    go_ret
    exact ⟨rfl, rfl⟩
  by_cases h2 : t = 2
  · subst h2
    go_enter Try.func31, Try.ntmps31
    go_wp2
    go_ret
    exact ⟨rfl, rfl⟩
  by_cases h4 : t = 4
  · subst h4
    go_enter Try.func31, Try.ntmps31
    go_wp2
    go_ret
    exact ⟨rfl, rfl⟩
  by_cases h8 : t = 8
  · subst h8
    go_enter Try.func31, Try.ntmps31
    go_wp2
    go_ret
    exact ⟨rfl, rfl⟩
  go_enter Try.func31, Try.ntmps31
  go_wp2
  go_ret
  exact ⟨by unfold sizeM; rw [if_neg (by omega)]; rfl, rfl⟩
theorem reckon_c (w : World) : Calls Try.prog 48 #[.string (⟨#[83, 72, 76]⟩ : ByteArray), .int .i64 1, .int .i64 4] w fun e w' => e = .returned (.tuple #[.int .i64 16, .bool true]) ∧ w = w' := by
  have hb : Go.bits .and .i64 4 31 = 4 := by decide
  go_enter Try.func48, Try.ntmps48
  go_wp2
  go_ret2
  exact ⟨rfl, rfl⟩
set_option maxRecDepth 100000 in
set_option maxHeartbeats 8000000 in
theorem num_c (n m : Int) (hm : wrap64 (wrap32 n) = m) (w : World) : Calls Try.prog 28 #[.int .i64 n] w fun e w' => e = .returned (.agg #[.int .i64 m, .int .i64 0, .int .i64 0, .int .i64 0, .int .i64 0, .bool true]) ∧ Below w.heap.size w w' := by
  have hu := Try.underlying24
  have hm' := Aside0.mk hm
  clear hm
  go_enter Try.func28, Try.ntmps28
  go_wp2_with (first | ((with_reducible refine gate_dst (N := 2) rfl ?_); refine box_event ?hg (N := 2) ?hd (cs := #[.int .i64 0, .int .i64 0, .int .i64 0, .int .i64 0, .int .i64 0, .bool false]) (t := 24) ?hr ?_; (case hd => rfl); (case hg => rfl); (case hr => first | (go_simp; done) | (go_simp; rfl)); intro g hg w3 hbox hb; have BB := Aside0.mk hb; have BK := Aside0.mk hbox; have GE := Aside0.mk (Nat.le_of_eq hg.symm); clear hb hbox hg) | (go_at_call 50; refine (cut_c _ _).mono ?_; rintro e w' ⟨rfl, rfl⟩; rw [hm'.out]; have c0 := (blk_cell BK.out 0).trans rfl; have c1 := (blk_cell BK.out 1).trans rfl; have c2 := (blk_cell BK.out 2).trans rfl; have c3 := (blk_cell BK.out 3).trans rfl; have c4 := (blk_cell BK.out 4).trans rfl; have c5 := (blk_cell BK.out 5).trans rfl; have f0 := blk_frozen BK.out 0; have f1 := blk_frozen BK.out 1; have f2 := blk_frozen BK.out 2; have f3 := blk_frozen BK.out 3; have f4 := blk_frozen BK.out 4; have f5 := blk_frozen BK.out 5))
  refine bodyPost_ret (results_cell_row rfl _ _ g 24 #[.int .i64 m, .int .i64 0, .int .i64 0, .int .i64 0, .int .i64 0, .bool true] (0, 0) _ rfl (by refine blk_put (cs := #[.int .i64 m, .int .i64 0, .int .i64 0, .int .i64 0, .int .i64 0, .bool false]) ?_ 5 _ rfl; refine blk_put (cs := #[.int .i64 m, .int .i64 0, .int .i64 0, .int .i64 0, .int .i64 0, .bool false]) ?_ 4 _ rfl; refine blk_put (cs := #[.int .i64 m, .int .i64 0, .int .i64 0, .int .i64 0, .int .i64 0, .bool false]) ?_ 3 _ rfl; refine blk_put (cs := #[.int .i64 m, .int .i64 0, .int .i64 0, .int .i64 0, .int .i64 0, .bool false]) ?_ 2 _ rfl; refine blk_put (cs := #[.int .i64 m, .int .i64 0, .int .i64 0, .int .i64 0, .int .i64 0, .bool false]) ?_ 1 _ rfl; refine blk_put (cs := #[.int .i64 0, .int .i64 0, .int .i64 0, .int .i64 0, .int .i64 0, .bool false]) ?_ 0 _ rfl; exact BK.out) Try.underlying24 rfl (by kernel_rfl)) rfl ?_
  exact ⟨rfl, by repeat (first | (with_reducible exact BB.out) | refine below_set ?_ GE.out)⟩
end Go.Proofs.Ytdalgfoifdjffaa.My
