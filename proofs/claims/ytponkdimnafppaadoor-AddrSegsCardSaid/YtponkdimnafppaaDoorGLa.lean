/- The table of the registers that an offset counts from, out of what the row lists. -/
import Derived.Test.YtponkdimnafppaaDoorADa
import Derived.Test.YtponkdimnafppaaDoorRows
import Derived.ProofKit
import Derived.LaidMore
import Derived.OpenShut
import Derived.Stop.Joined
namespace Go.Proofs.YtponkdimnafppaaDoor.VM
open Go Go.RowKit Go.ChangeShapes Go.WideShapes
set_option linter.unusedVariables false
set_option linter.unusedSimpArgs false
set_option maxRecDepth 100000
set_option maxHeartbeats 1600000
/-- The table is where it is. -/
def BasesIn (W : World) : Prop := ∃ arr ty fr, W.heap[0]? = some (.cells arr ty fr) ∧ 16 ≤ arr.size ∧ ∀ i x, getAt i basesL = some x → ∃ v, arr[0 + i]? = some v ∧ ∀ ρ, cellRel ρ x v
theorem gBases : Tryd.prog.globalNamed "hansom/addr.bases" = some 0 := by kernel_rfl
theorem tBases : (Tryd.prog.globals[0]?).map (·.type) = some 79 := by kernel_rfl
theorem uBases : Tryd.prog.underlying 79 = some (.array 8 78) := by kernel_rfl
theorem uPair : Tryd.prog.underlying 78 = some (.array 2 3) := by kernel_rfl
theorem cBases : Tryd.prog.cellsOf 79 = 16 := by kernel_rfl
theorem cPair : Tryd.prog.cellsOf 78 = 2 := by kernel_rfl
theorem cInt : Tryd.prog.cellsOf 3 = 1 := by kernel_rfl
theorem int_cell {W : World} {fuel : Nat} {cs : List Value} {x : DataW Unit × List MemPlace} {n : Int} (h : DataW.trod (fun _ => ()) Tryd.prog W 0 (fun _ => true) false fuel 3 cs = some x) (hx : x.1 = .lit (.int .i64 n)) : cs = [.int .i64 n] := by
  obtain ⟨k, rfl, e2, _⟩ := DataW.trod_int Tryd.underlying3 h
  rw [e2] at hx
  simp only [DataW.lit.injEq, Lit.int.injEq] at hx
  rw [hx.2]
theorem pair_cells {W : World} {fuel : Nat} {cs : List Value} {x : DataW Unit × List MemPlace} {a b : Int} (h : DataW.trod (fun _ => ()) Tryd.prog W 0 (fun _ => true) false fuel 78 cs = some x) (hx : x.1 = .agg [.lit (.int .i64 a), .lit (.int .i64 b)]) : cs = [.int .i64 a, .int .i64 b] := by
  obtain ⟨xs, m, rfl, hx1, hlen, hn, hel⟩ := DataW.trod_array uPair h
  rw [cPair] at hlen
  rw [cInt] at hel
  rw [hx1] at hx
  match cs, hlen, xs, hn, hx, hel with
  | [c0, c1], _, [x0, x1], _, hx, hel =>
    simp only [List.map_cons, List.map_nil, DataW.agg.injEq, List.cons.injEq] at hx
    have h0 := int_cell (hel 0 (by decide)) hx.1
    have h1 := int_cell (hel 1 (by decide)) hx.2.1
    simp only [Nat.zero_mul, List.drop_zero, List.take_succ_cons, List.take_zero, List.cons.injEq, and_true] at h0
    simp only [Nat.one_mul, List.drop_succ_cons, List.drop_zero, List.take_succ_cons, List.take_zero, List.cons.injEq, and_true] at h1
    rw [h0, h1]
theorem bases_in {W : World} (h : laidMetH Tryd.prog [("hansom/addr.bases", Rows.laid_hansom_addr_bases)] W) : BasesIn W := by
  rw [MakeChecks.laidMetH_plain _ _ _ (by kernel_rfl)] at h
  obtain ⟨ps, ⟨g0, t0, cs0, f0, p0, q0, hg0, ht0, hv0, hd0, _, _⟩, _, _⟩ := h
  obtain rfl := Option.some.inj (gBases.symm.trans hg0)
  obtain rfl := Option.some.inj (tBases.symm.trans ht0)
  obtain ⟨xs, m, rfl, hx1, hlen, hn, hel⟩ := DataW.trod_array uBases hd0
  rw [cBases] at hlen
  rw [cPair] at hel
  simp only [Prod.mk.injEq] at hx1
  have hh : ∃ arr ty fr, W.heap[0]? = some (.cells arr ty fr) ∧ arr = cs0 := by
    simp only [World.var?, gBases, Option.bind_some] at hv0
    split at hv0
    · rename_i c t fr hb
      exact ⟨c, t, fr, hb, Option.some.inj hv0⟩
    · cases hv0
  obtain ⟨arr, ty, fr, hh, rfl⟩ := hh
  have hl : arr.toList = [.int .i64 3, .int .i64 6, .int .i64 3, .int .i64 7, .int .i64 5, .int .i64 6, .int .i64 5, .int .i64 7, .int .i64 6, .int .i64 (-1), .int .i64 7, .int .i64 (-1), .int .i64 5, .int .i64 (-1), .int .i64 3, .int .i64 (-1)] := by
    generalize arr.toList = cs at hlen hel
    have hxs := hx1.1
    unfold Rows.laid_hansom_addr_bases at hxs
    match cs, hlen, xs, hn, hxs, hel with
    | [c0, c1, c2, c3, c4, c5, c6, c7, c8, c9, c10, c11, c12, c13, c14, c15], _, [x0, x1, x2, x3, x4, x5, x6, x7], _, hxs, hel =>
      simp only [List.map_cons, List.map_nil, DataW.agg.injEq, List.cons.injEq, and_true] at hxs
      obtain ⟨e0, e1, e2, e3, e4, e5, e6, e7⟩ := hxs
      have h0 := pair_cells (hel 0 (by decide)) e0.symm
      have h1 := pair_cells (hel 1 (by decide)) e1.symm
      have h2 := pair_cells (hel 2 (by decide)) e2.symm
      have h3 := pair_cells (hel 3 (by decide)) e3.symm
      have h4 := pair_cells (hel 4 (by decide)) e4.symm
      have h5 := pair_cells (hel 5 (by decide)) e5.symm
      have h6 := pair_cells (hel 6 (by decide)) e6.symm
      have h7 := pair_cells (hel 7 (by decide)) e7.symm
      simp at h0 h1 h2 h3 h4 h5 h6 h7
      simp [h0, h1, h2, h3, h4, h5, h6, h7]
  have hs : arr.size = 16 := by rw [← Array.length_toList, hl]; rfl
  refine ⟨arr, ty, fr, hh, by omega, fun i x hx => ?_⟩
  have hx2 : basesL[i]? = some x := by rw [← getAt_eq]; exact hx
  have hi : i < 16 := (List.getElem?_eq_some_iff.1 hx2).1
  have ha : arr[0 + i]? = arr.toList[i]? := by rw [Nat.zero_add, Array.getElem?_toList]
  rw [ha, hl]
  rcases (show i = 0 ∨ i = 1 ∨ i = 2 ∨ i = 3 ∨ i = 4 ∨ i = 5 ∨ i = 6 ∨ i = 7 ∨ i = 8 ∨ i = 9 ∨ i = 10 ∨ i = 11 ∨ i = 12 ∨ i = 13 ∨ i = 14 ∨ i = 15 by omega) with rfl | rfl | rfl | rfl | rfl | rfl | rfl | rfl | rfl | rfl | rfl | rfl | rfl | rfl | rfl | rfl <;> (cases hx; exact ⟨_, rfl, fun ρ => rfl⟩)
/-- A law with the table. -/
def rhoB : Ren := fun b => match b with
  | .hp 0 => some ⟨0, 0, 16⟩
  | _ => none
theorem rhoB_some {b : Base} {c : CB} (h : rhoB b = some c) : b = .hp 0 ∧ c = ⟨0, 0, 16⟩ := by
  simp only [rhoB] at h
  split at h
  · exact ⟨rfl, (Option.some.inj h).symm⟩
  · cases h
theorem law_bases {k : Nat} {f : FuncId} {xs : List Val} {H' : List Blk} {W : World} {avs : List Value} (hB : BasesIn W) (hF : FF Mk.plain k 1 f xs [⟨basesL, true⟩] = some (.bool true, H')) (hr : rels (relV rhoB) xs avs) :
    Calls Tryd.prog f avs.toArray W fun e W' => e = .returned (.bool true) ∧ Below W.heap.size W W' := by
  obtain ⟨arr, ty, fr, h1, h2, h3⟩ := hB
  refine law_of (ρ := rhoB) (H0 := [⟨basesL, true⟩]) follows annok extok hF (fun b c z => ⟨0, (rhoB_some z).1, Nat.zero_lt_one⟩) (fun k c cs z hk => ?_) (fun b c z => by rw [(rhoB_some z).2]; exact (Array.getElem?_eq_some_iff.1 h1).1) hr (fun g i e => ?_)
  · obtain ⟨h0, rfl⟩ := rhoB_some z
    cases h0
    obtain rfl : basesL = cs := Option.some.inj hk
    exact ⟨rfl, arr, ty, fr, h1, by decide, by show 0 + 16 ≤ arr.size; omega, fun i x hx => by obtain ⟨v, hv, hρ⟩ := h3 i x hx; exact ⟨v, hv, hρ _⟩⟩
  · unfold globs at e
    simp only [globI] at e
    split at e
    · rename_i hg
      cases e
      exact ⟨_, rfl, Nat.eq_of_beq_eq_true hg, rfl⟩
    · cases e
end Go.Proofs.YtponkdimnafppaaDoor.VM
