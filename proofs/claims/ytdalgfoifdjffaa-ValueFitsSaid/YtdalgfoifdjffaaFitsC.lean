/- Contracts of the walk of ValueFits: value.both at the numbers that awake asks. -/
import Derived.Test.YtdalgfoifdjffaaFitsA
import Derived.Deep.RegionWith
namespace Go.Proofs.Ytdalgfoifdjffaa.My
open Go.RowKit Go.Proofs.YtdalgfoifdjffaaW.PrintWords Go.Proofs.YtdalgfoifdjffaaW.PrintLast Go.Proofs.YtdalgfoifdjffaaW.PrintMore
set_option linter.unusedVariables false
set_option linter.unusedSimpArgs false

set_option maxRecDepth 100000 in
set_option maxHeartbeats 8000000 in
theorem both_c (w : World) : Calls Try.prog 49 #[.agg #[.int .i64 1, .int .i64 0, .int .i64 0, .int .i64 0, .int .i64 0, .bool true], .agg #[.int .i64 4, .int .i64 0, .int .i64 0, .int .i64 0, .int .i64 0, .bool true], .int .i64 16] w fun e w' => e = .returned (.agg #[.int .i64 16, .int .i64 0, .int .i64 0, .int .i64 0, .int .i64 0, .bool true]) ∧ Below w.heap.size w w' := by
  have hu := Try.underlying24
  have cu := fun w => cut_c 16 w
  rw [show wrap64 (wrap32 16) = 16 by decide +kernel] at cu
  have CU := Aside0.mk cu
  clear cu
  have BB := Aside0.mk (Below.refl w.heap.size w)
  go_enter Try.func49, Try.ntmps49
  try go_wp2_with (first | ((with_reducible refine gate_dst (N := 3) rfl ?_); refine box_event ?hg (N := 3) ?hd (cs := #[.int .i64 1, .int .i64 0, .int .i64 0, .int .i64 0, .int .i64 0, .bool true]) (t := 24) ?hr ?_; (case hd => rfl); (case hg => rfl); (case hr => first | (go_simp; done) | (go_simp; rfl)); intro g3 hg w3 hbox hb; have BK3 := Aside0.mk hbox; have GE3 := Aside0.mk (Nat.le_trans (below_size BB.out) (Nat.le_of_eq hg.symm)); have n0 := Aside0.mk (below_step BB.out hb); clear hb hbox hg BB; have BB := n0; clear n0) | ((with_reducible refine gate_dst (N := 4) rfl ?_); refine box_event ?hg (N := 4) ?hd (cs := #[.int .i64 4, .int .i64 0, .int .i64 0, .int .i64 0, .int .i64 0, .bool true]) (t := 24) ?hr ?_; (case hd => rfl); (case hg => rfl); (case hr => first | (go_simp; done) | (go_simp; rfl)); intro g4 hg w4 hbox hb; have n1 := Aside0.mk (blk_below BK3.out hb); have GE4 := Aside0.mk (Nat.le_trans (below_size BB.out) (Nat.le_of_eq hg.symm)); have n0 := Aside0.mk (below_step BB.out hb); clear BB BK3; have BK3 := n1; have BK4 := Aside0.mk hbox; clear hb hbox hg; have BB := n0; clear n0 n1) | ((with_reducible refine gate_dst (N := 6) rfl ?_); refine box_event ?hg (N := 6) ?hd (cs := #[.int .i64 0, .int .i64 0, .int .i64 0, .int .i64 0, .int .i64 0, .bool false]) (t := 24) ?hr ?_; (case hd => rfl); (case hg => rfl); (case hr => first | (go_simp; done) | (go_simp; rfl)); intro g6 hg w6 hbox hb; have n1 := Aside0.mk (blk_below BK3.out hb); have n2 := Aside0.mk (blk_below BK4.out hb); have GE6 := Aside0.mk (Nat.le_trans (below_size BB.out) (Nat.le_of_eq hg.symm)); have n0 := Aside0.mk (below_step BB.out hb); clear BB BK3 BK4; have BK3 := n1; have BK4 := n2; have BK6 := Aside0.mk hbox; clear hb hbox hg; have BB := n0; clear n0 n1 n2))
  have c30 : w6.cell? ⟨g3, 0, none⟩ = some (.int .i64 1) := (blk_cell BK3.out 0).trans rfl
  have f30 := blk_frozen BK3.out 0
  have c31 : w6.cell? ⟨g3, 1, none⟩ = some (.int .i64 0) := (blk_cell BK3.out 1).trans rfl
  have f31 := blk_frozen BK3.out 1
  have c32 : w6.cell? ⟨g3, 2, none⟩ = some (.int .i64 0) := (blk_cell BK3.out 2).trans rfl
  have f32 := blk_frozen BK3.out 2
  have c33 : w6.cell? ⟨g3, 3, none⟩ = some (.int .i64 0) := (blk_cell BK3.out 3).trans rfl
  have f33 := blk_frozen BK3.out 3
  have c34 : w6.cell? ⟨g3, 4, none⟩ = some (.int .i64 0) := (blk_cell BK3.out 4).trans rfl
  have f34 := blk_frozen BK3.out 4
  have c35 : w6.cell? ⟨g3, 5, none⟩ = some (.bool true) := (blk_cell BK3.out 5).trans rfl
  have f35 := blk_frozen BK3.out 5
  have c40 : w6.cell? ⟨g4, 0, none⟩ = some (.int .i64 4) := (blk_cell BK4.out 0).trans rfl
  have f40 := blk_frozen BK4.out 0
  have c41 : w6.cell? ⟨g4, 1, none⟩ = some (.int .i64 0) := (blk_cell BK4.out 1).trans rfl
  have f41 := blk_frozen BK4.out 1
  have c42 : w6.cell? ⟨g4, 2, none⟩ = some (.int .i64 0) := (blk_cell BK4.out 2).trans rfl
  have f42 := blk_frozen BK4.out 2
  have c43 : w6.cell? ⟨g4, 3, none⟩ = some (.int .i64 0) := (blk_cell BK4.out 3).trans rfl
  have f43 := blk_frozen BK4.out 3
  have c44 : w6.cell? ⟨g4, 4, none⟩ = some (.int .i64 0) := (blk_cell BK4.out 4).trans rfl
  have f44 := blk_frozen BK4.out 4
  have c45 : w6.cell? ⟨g4, 5, none⟩ = some (.bool true) := (blk_cell BK4.out 5).trans rfl
  have f45 := blk_frozen BK4.out 5
  have c60 : w6.cell? ⟨g6, 0, none⟩ = some (.int .i64 0) := (blk_cell BK6.out 0).trans rfl
  have f60 := blk_frozen BK6.out 0
  have c61 : w6.cell? ⟨g6, 1, none⟩ = some (.int .i64 0) := (blk_cell BK6.out 1).trans rfl
  have f61 := blk_frozen BK6.out 1
  have c62 : w6.cell? ⟨g6, 2, none⟩ = some (.int .i64 0) := (blk_cell BK6.out 2).trans rfl
  have f62 := blk_frozen BK6.out 2
  have c63 : w6.cell? ⟨g6, 3, none⟩ = some (.int .i64 0) := (blk_cell BK6.out 3).trans rfl
  have f63 := blk_frozen BK6.out 3
  have c64 : w6.cell? ⟨g6, 4, none⟩ = some (.int .i64 0) := (blk_cell BK6.out 4).trans rfl
  have f64 := blk_frozen BK6.out 4
  have c65 : w6.cell? ⟨g6, 5, none⟩ = some (.bool false) := (blk_cell BK6.out 5).trans rfl
  have f65 := blk_frozen BK6.out 5
  go_region_with (first | (go_at_call 50; refine (CU.out _).mono ?_; rintro e w' ⟨rfl, rfl⟩))
  all_goals go_wp2_with fail
  all_goals refine bodyPost_ret (results_cell_row rfl _ _ g6 24 #[.int .i64 16, .int .i64 0, .int .i64 0, .int .i64 0, .int .i64 0, .bool true] (0, 0) _ rfl (by refine blk_drew ?_; refine blk_put (cs := #[.int .i64 16, .int .i64 0, .int .i64 0, .int .i64 0, .int .i64 0, .bool false]) ?_ 5 _ rfl; refine blk_put (cs := #[.int .i64 16, .int .i64 0, .int .i64 0, .int .i64 0, .int .i64 0, .bool false]) ?_ 4 _ rfl; refine blk_put (cs := #[.int .i64 16, .int .i64 0, .int .i64 0, .int .i64 0, .int .i64 0, .bool false]) ?_ 3 _ rfl; refine blk_put (cs := #[.int .i64 16, .int .i64 0, .int .i64 0, .int .i64 0, .int .i64 0, .bool false]) ?_ 2 _ rfl; refine blk_put (cs := #[.int .i64 16, .int .i64 0, .int .i64 0, .int .i64 0, .int .i64 0, .bool false]) ?_ 1 _ rfl; refine blk_put (cs := #[.int .i64 0, .int .i64 0, .int .i64 0, .int .i64 0, .int .i64 0, .bool false]) ?_ 0 _ rfl; exact BK6.out) Try.underlying24 rfl (by kernel_rfl)) rfl ?_
  all_goals exact ⟨rfl, by repeat (first | (with_reducible exact BB.out) | apply below_drew1 | refine below_set ?_ GE6.out)⟩
end Go.Proofs.Ytdalgfoifdjffaa.My
