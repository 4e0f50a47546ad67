/- A plain machine for the program's functions: slices that come in, of structs (or of nothing else) that end in a slice each; structs that come in and hold slices. -/
import Derived.Test.YtponkdimnafppaaDoorVX
namespace Go.Proofs.YtponkdimnafppaaDoor.VM
open Go Go.RowKit Go.ChangeShapes Go.WideShapes
set_option linter.unusedVariables false
set_option linter.unusedSimpArgs false
/-- The kind of a cell that may be a slice. -/
inductive NK where
  | ck (k : CK)
  | sl (ks : List CK)
def oneB (P : Program) (u : TypeId) : Option CK := match P.underlying u with
  | some (.int k) => some (.int k)
  | some .bool => some .bool
  | some .string => some .str
  | _ => none
def kindN (P : Program) (u : TypeId) : Option NK := match P.underlying u with
  | some (.slice e) => (flatB P e).bind fun ks => if P.cellsOf e = ks.length ∧ 0 < ks.length then some (.sl ks) else none
  | _ => (oneB P u).map .ck
/-- A slice within: its elements' cells, and where they are. -/
def SlRow0 (W : World) (A : Option Addr) (n c sz : Nat) (els : List (List Val)) : Prop :=
  els.length = n ∧ ((A = none ∧ n = 0 ∧ c = 0) ∨ ∃ a, A = some a ∧ n ≤ c ∧ (c = 0 ∨ ∃ blk off arr ty fr, a = ⟨blk, off, none⟩ ∧ W.heap[blk]? = some (.cells arr ty fr) ∧ off + c * sz ≤ arr.size ∧
    ∀ i x, getAt i els.flatten = some x → ∃ v, arr[off + i]? = some v ∧ ∀ ρ, cellRel ρ x v))
def InCell (W : World) : NK → Value → Prop
  | .ck k, v => ckOk k (valOf v) ∧ ∀ ρ, cellRel ρ (valOf v) v
  | .sl ks, v => ∃ A n c els, v = .slice A n c ∧ SlRow0 W A n c ks.length els ∧ (∀ el ∈ els, rowOk ks el) ∧ c ≤ maxLen
section
variable {H : Type} {enc : TypeId × Value → H} {P : Program} {W : World}
theorem add_add (a : Addr) (i j : Nat) (h : a.spot = none) : Addr.add (Addr.add a i) j = ⟨a.block, a.off + i + j, none⟩ := by
  obtain ⟨b, o, s⟩ := a
  simp only at h
  subst h
  unfold Addr.add
  split <;> split <;> simp_all
theorem add_zero (a : Addr) : Addr.add a 0 = a := by unfold Addr.add; simp
/-- A slice that is read, anywhere: its elements' cells. -/
theorem slice_in {t e : TypeId} {ks : List CK} {fuel : Nat} {cs : List Value} {x : DataW H × List MemPlace} (ht : P.underlying t = some (.slice e)) (hk : flatB P e = some ks) (hks : P.cellsOf e = ks.length) (h0 : 0 < ks.length)
    (h : DataW.trod enc P W 0 (fun _ => true) true fuel t cs = some x) :
    ∃ A n c els, cs = [.slice A n c] ∧ SlRow0 W A n c ks.length els ∧ (∀ el ∈ els, rowOk ks el) ∧ c ≤ maxLen := by
  rcases DataW.trod_slice ht h with ⟨hcs, _⟩ | ⟨a, len, cap, elems, rest, n, rfl, hcs, _, hb, hl, hm, hlen, hel, hsp, hns⟩
  · exact ⟨none, 0, 0, [], hcs, ⟨rfl, .inl ⟨rfl, rfl, rfl⟩⟩, by simp, Nat.zero_le _⟩
  · by_cases hc0 : cap = 0
    · have : len = 0 := by omega
      subst this
      exact ⟨_, _, _, [], hcs, ⟨rfl, .inr ⟨a, rfl, hl, .inl hc0⟩⟩, by simp, hm⟩
    have each : ∀ i, i < cap → ∃ cs : List Value, cs.length = ks.length ∧ rowOk ks (cs.map valOf) ∧ (∀ v ∈ cs, ∀ ρ, cellRel ρ (valOf v) v) ∧ ∀ j, j < ks.length → W.cell? (Addr.add (Addr.add a (i * ks.length)) j) = cs[j]? := by
      intro i hi
      have he : ∃ y, (W.cells? 0 (Addr.add a (i * P.cellsOf e)) (P.cellsOf e)).bind (DataW.trod enc P W 0 (fun _ => true) true n e) = some y := by
        by_cases hi2 : i < len
        · exact ⟨_, (hel i hi2).trans (List.getElem?_eq_getElem (by omega))⟩
        · obtain ⟨hrl, hr⟩ := hsp rfl
          have := hr (i - len) (by omega)
          rw [show len + (i - len) = i by omega] at this
          exact ⟨_, this.trans (List.getElem?_eq_getElem (by omega))⟩
      obtain ⟨y, he⟩ := he
      rw [Option.bind_eq_some_iff] at he
      obtain ⟨cs, hcs, htr⟩ := he
      obtain ⟨_, hl2, hcell⟩ := World.cells?_some hcs
      obtain ⟨hr, hv⟩ := flat_ok hk htr
      exact ⟨cs, by rw [hl2, hks], hr, hv, fun j hj => by have := hcell j (by omega); rw [← hks]; exact this⟩
    have hspot : a.spot = none := by
      obtain ⟨cs, h1, _, _, h4⟩ := each 0 (by omega)
      have h5 := h4 0 h0
      rw [List.getElem?_eq_getElem (by omega), Nat.zero_mul, add_zero, add_zero] at h5
      exact World.cell?_spot h5
    have hheap : ∃ arr ty fr, W.heap[a.block]? = some (.cells arr ty fr) := by
      obtain ⟨cs, h1, _, _, h4⟩ := each 0 (by omega)
      have h5 := h4 0 h0
      rw [List.getElem?_eq_getElem (by omega), add_add _ _ _ hspot] at h5
      unfold World.cell? at h5
      simp only at h5
      split at h5
      · rename_i arr ty fr hh
        exact ⟨_, _, _, hh⟩
      · simp_all
    obtain ⟨arr, ty, fr, hheap⟩ := hheap
    have each : ∀ i, i < cap → ∃ cs : List Value, cs.length = ks.length ∧ rowOk ks (cs.map valOf) ∧ (∀ v ∈ cs, ∀ ρ, cellRel ρ (valOf v) v) ∧ ∀ j, j < ks.length → arr[a.off + i * ks.length + j]? = cs[j]? := by
      intro i hi
      obtain ⟨cs, h1, h2, h3, h4⟩ := each i hi
      refine ⟨cs, h1, h2, h3, fun j hj => ?_⟩
      rw [← h4 j hj, add_add _ _ _ hspot]
      simp [World.cell?, hheap]
    let g : Nat → List Val := fun i => if h : i < cap then (Classical.choose (each i h)).map valOf else []
    have hg : ∀ i (h : i < cap), g i = (Classical.choose (each i h)).map valOf := fun i h => by simp only [g]; rw [dif_pos h]
    refine ⟨some a, len, cap, (List.range len).map g, hcs, ⟨by simp, .inr ⟨a, rfl, hl, .inr ⟨a.block, a.off, arr, ty, fr, by cases a; simp_all, hheap, ?_, fun i x hx => ?_⟩⟩⟩, fun el hel2 => ?_, hm⟩
    · obtain ⟨cs, h1, _, _, h4⟩ := each (cap - 1) (by omega)
      have h5 := h4 (ks.length - 1) (by omega)
      rw [List.getElem?_eq_getElem (by omega)] at h5
      have h6 := (Array.getElem?_eq_some_iff.1 h5).1
      have : cap * ks.length = (cap - 1) * ks.length + ks.length := by
        rw [← Nat.succ_mul]; congr 1; omega
      omega
    · rw [getAt_eq] at hx
      obtain ⟨j, e', r, h1, h2, rfl, h4⟩ := flatten_get (sz := ks.length) (fun e he => by
        simp only [List.mem_map, List.mem_range] at he
        obtain ⟨i, hi, rfl⟩ := he
        rw [hg i (by omega), List.length_map]
        exact (Classical.choose_spec (each i (by omega))).1) hx
      have hj : j < len := by
        have := (List.getElem?_eq_some_iff.1 h1).1
        simpa using this
      simp only [List.getElem?_map, List.getElem?_range hj, Option.map_some, Option.some.injEq] at h1
      rw [hg j (by omega)] at h1
      subst h1
      obtain ⟨s1, s2, s3, s4⟩ := Classical.choose_spec (each j (by omega))
      simp only [List.getElem?_map, Option.map_eq_some_iff] at h2
      obtain ⟨v, hv, rfl⟩ := h2
      refine ⟨v, ?_, fun ρ => s3 v (List.mem_of_getElem? hv) ρ⟩
      rw [← Nat.add_assoc, s4 r h4, hv]
    · simp only [List.mem_map, List.mem_range] at hel2
      obtain ⟨i, hi, rfl⟩ := hel2
      rw [hg i (by omega)]
      exact (Classical.choose_spec (each i (by omega))).2.1
/-- A cell that is read. -/
theorem cell_in {u : TypeId} {nk : NK} {fuel : Nat} {cs : List Value} {x : DataW H × List MemPlace} (hk : kindN P u = some nk) (h : DataW.trod enc P W 0 (fun _ => true) true fuel u cs = some x) : ∃ v, cs = [v] ∧ InCell W nk v := by
  unfold kindN at hk
  split at hk
  · rename_i e he
    simp only [Option.bind_eq_some_iff] at hk
    obtain ⟨ks, hk1, hk2⟩ := hk
    split at hk2
    · rename_i hc
      cases hk2
      obtain ⟨A, n, c, els, rfl, h1, h2, h3⟩ := slice_in he hk1 hc.1 hc.2 h
      exact ⟨_, rfl, A, n, c, els, rfl, h1, h2, h3⟩
    · cases hk2
  · simp only [Option.map_eq_some_iff] at hk
    obtain ⟨k, hk, rfl⟩ := hk
    obtain ⟨v, rfl, h1, h2⟩ := one_ok hk h
    exact ⟨v, rfl, h1, h2⟩
/-- The kinds of a struct's cells, or of a value of one cell. -/
def nestB (P : Program) (t : TypeId) : Option (List NK) :=
  match P.underlying t with
  | some (.struct fs) => if P.cellsOf t = fs.size ∧ (List.range fs.size).all (fun i => match fs[i]? with | some f => f.offset == i && P.cellsOf f.type == 1 | none => false) = true then mapO (fun f => kindN P f.type) fs.toList else none
  | _ => if P.cellsOf t = 1 then (kindN P t).map fun k => [k] else none
def InRow (W : World) : List NK → List Value → Prop
  | [], [] => True
  | k :: ks, v :: vs => InCell W k v ∧ InRow W ks vs
  | _, _ => False
theorem inRow_length : ∀ {ks : List NK} {vs : List Value}, InRow W ks vs → vs.length = ks.length
  | [], [], _ => rfl
  | _ :: ks, _ :: vs, h => by simp [inRow_length h.2]
  | [], _ :: _, h => h.elim
  | _ :: _, [], h => h.elim
theorem inRow_of : ∀ {ks : List NK} {vs : List Value}, vs.length = ks.length → (∀ (i : Nat) (k : NK), ks[i]? = some k → ∃ v, vs[i]? = some v ∧ InCell W k v) → InRow W ks vs
  | [], [], _, _ => trivial
  | k :: ks, v :: vs, hl, h => by
    refine ⟨?_, inRow_of (by simpa using hl) fun i q hq => ?_⟩
    · obtain ⟨v', hv, hk⟩ := h 0 k rfl
      cases hv
      exact hk
    · obtain ⟨v', hv, hk⟩ := h (i + 1) q (by simpa using hq)
      exact ⟨v', by simpa using hv, hk⟩
  | [], _ :: _, hl, _ => by cases hl
  | _ :: _, [], hl, _ => by cases hl
theorem row_in {t : TypeId} {ks : List NK} {fuel : Nat} {cs : List Value} {x : DataW H × List MemPlace} (hk : nestB P t = some ks) (h : DataW.trod enc P W 0 (fun _ => true) true fuel t cs = some x) : InRow W ks cs := by
  unfold nestB at hk
  split at hk
  · rename_i fs hfs
    obtain ⟨xs, n, rfl, rfl, hl, hx, hf⟩ := DataW.trod_struct hfs h
    split at hk
    · rename_i hc
      obtain ⟨hc1, hc2⟩ := hc
      obtain ⟨hkl, hkg⟩ := mapO_get hk
      refine inRow_of (by rw [hl, hc1, hkl, Array.length_toList]) fun i k hi => ?_
      have hil : i < fs.size := by
        have := (List.getElem?_eq_some_iff.1 hi).1
        rw [hkl, Array.length_toList] at this
        exact this
      obtain ⟨k', hk', ho⟩ := hkg i fs[i] (by simp [hil])
      rw [hi] at hk'
      cases hk'
      rw [List.all_eq_true] at hc2
      have hci := hc2 i (by simpa using hil)
      simp only [Array.getElem?_eq_getElem hil, Bool.and_eq_true, beq_iff_eq] at hci
      have ht := hf i fs[i] (by simp [hil])
      rw [hci.1, hci.2] at ht
      have hxi : i < xs.length := by omega
      rw [List.getElem?_eq_getElem hxi] at ht
      obtain ⟨v, hv, h1⟩ := cell_in ho ht
      refine ⟨v, ?_, h1⟩
      have := congrArg (fun l => l[0]?) hv
      simpa [List.getElem?_take, List.getElem?_drop] using this
    · cases hk
  · split at hk
    · simp only [Option.map_eq_some_iff] at hk
      obtain ⟨k, hk, rfl⟩ := hk
      obtain ⟨v, rfl, h1⟩ := cell_in hk h
      exact ⟨h1, trivial⟩
    · cases hk
/-- A slice whose elements hold slices: each element's cells, and where they are. -/
def NRow (W : World) (A : Option Addr) (n c sz : Nat) (rs : List (List Value)) : Prop :=
  rs.length = n ∧ ((A = none ∧ n = 0 ∧ c = 0) ∨ ∃ blk off arr ty fr, A = some ⟨blk, off, none⟩ ∧ n ≤ c ∧ W.heap[blk]? = some (.cells arr ty fr) ∧ (0 < c → off + c * sz ≤ arr.size) ∧
    ∀ (i : Nat) (r : List Value), rs[i]? = some r → ∀ (j : Nat) (v : Value), r[j]? = some v → arr[off + i * sz + j]? = some v)
theorem open_nest {r : Reach} {base : Nat} {t e : TypeId} {ks : List NK} {A : Option Addr} {len cap : Nat} {d : DataW H} {ps : List MemPlace} (ht : P.underlying t = some (.slice e)) (hk : nestB P e = some ks) (hks : P.cellsOf e = ks.length) (h0 : 0 < ks.length)
    (ok : Value.okWide P W r base t (.slice A len cap)) (h : DataW.Trod enc P W 0 (fun _ => true) true t (.slice A len cap) d ps) :
    ∃ rs : List (List Value), NRow W A len cap ks.length rs ∧ (∀ r ∈ rs, InRow W ks r) ∧ cap ≤ maxLen := by
  obtain ⟨fuel, hf⟩ := h
  simp only [Value.okWide, ht, Cell.okWide] at ok
  rcases DataW.trod_slice ht hf with ⟨hcs, _⟩ | ⟨a, len', cap', elems, rest, n, rfl, hcs, _, hb, hl, hm, hlen, hel, hsp, hns⟩
  · simp [Value.cells] at hcs
    obtain ⟨rfl, rfl, rfl⟩ := hcs
    exact ⟨[], ⟨rfl, .inl ⟨rfl, rfl, rfl⟩⟩, by simp, Nat.zero_le _⟩
  · simp [Value.cells] at hcs
    obtain ⟨rfl, rfl, rfl⟩ := hcs
    simp only [Cell.ok, ht] at ok
    obtain ⟨_, _, _, hspot, row, cells, hshape, _⟩ := ok
    obtain ⟨blk, off, spot⟩ := a
    simp only at hspot
    subst hspot
    unfold World.shape? at hshape
    split at hshape
    · rename_i arr ty fr hheap
      have each : ∀ i, i < cap → ∃ cs : List Value, InRow W ks cs ∧ ∀ j, j < ks.length → arr[off + i * ks.length + j]? = cs[j]? := by
        intro i hi
        have he : ∃ y, (W.cells? 0 (Addr.add ⟨blk, off, none⟩ (i * P.cellsOf e)) (P.cellsOf e)).bind (DataW.trod enc P W 0 (fun _ => true) true n e) = some y := by
          by_cases hi2 : i < len
          · exact ⟨_, (hel i hi2).trans (List.getElem?_eq_getElem (by omega))⟩
          · obtain ⟨hrl, hr⟩ := hsp rfl
            have := hr (i - len) (by omega)
            rw [show len + (i - len) = i by omega] at this
            exact ⟨_, this.trans (List.getElem?_eq_getElem (by omega))⟩
        obtain ⟨y, he⟩ := he
        rw [Option.bind_eq_some_iff] at he
        obtain ⟨cs, hcs, htr⟩ := he
        obtain ⟨_, hl2, hcell⟩ := World.cells?_some hcs
        refine ⟨cs, row_in hk htr, fun j hj => ?_⟩
        have h3 := hcell j (by omega)
        rw [← h3, hks, add_add _ _ _ rfl]
        simp [World.cell?, hheap]
      let g : Nat → List Value := fun i => if h : i < cap then Classical.choose (each i h) else []
      have hg : ∀ i (h : i < cap), g i = Classical.choose (each i h) := fun i h => by simp only [g]; rw [dif_pos h]
      refine ⟨(List.range len).map g, ⟨by simp, .inr ⟨blk, off, arr, ty, fr, rfl, hl, hheap, fun hp => ?_, fun i r hr j v hv => ?_⟩⟩, fun el hel2 => ?_, hm⟩
      · obtain ⟨cs, h1, h4⟩ := each (cap - 1) (by omega)
        have h5 := h4 (ks.length - 1) (by omega)
        have h7 := inRow_length h1
        rw [List.getElem?_eq_getElem (by omega)] at h5
        have h6 := (Array.getElem?_eq_some_iff.1 h5).1
        have : cap * ks.length = (cap - 1) * ks.length + ks.length := by
          rw [← Nat.succ_mul]; congr 1; omega
        omega
      · have hi : i < len := by
          have := (List.getElem?_eq_some_iff.1 hr).1
          simpa using this
        simp only [List.getElem?_map, List.getElem?_range hi, Option.map_some, Option.some.injEq] at hr
        rw [hg i (by omega)] at hr
        subst hr
        obtain ⟨s1, s4⟩ := Classical.choose_spec (each i (by omega))
        have h7 := inRow_length s1
        have hj := (List.getElem?_eq_some_iff.1 hv).1
        rw [s4 j (by omega), hv]
      · simp only [List.mem_map, List.mem_range] at hel2
        obtain ⟨i, hi, rfl⟩ := hel2
        rw [hg i (by omega)]
        exact (Classical.choose_spec (each i (by omega))).1
    · cases hshape
end
/-! ### elements that are plain cells, and a slice behind them -/
/-- A slice within, as the machine has it: its block's number; a slice of no room stands for itself. -/
def inBlk (sz blk : Nat) (A : Option Addr) (c : Nat) : Option CB := A.map fun a => if c = 0 then ⟨blk, 0, 0⟩ else ⟨a.block, a.off, c * sz⟩
theorem inRel {W : World} {A : Option Addr} {n c sz blk : Nat} {els : List (List Val)} (h : SlRow0 W A n c sz els) {ρ : Ren} {b : Nat} (hρ : ρ (.hp b) = inBlk sz blk A c) : cellRel ρ (slVal b sz A n) (.slice A n c) := by
  obtain ⟨h1, ⟨rfl, rfl, rfl⟩ | ⟨a, rfl, hn, h2⟩⟩ := h
  · rfl
  · refine ⟨_, _, _, hρ, rfl, hn, ?_, ?_⟩
    · split
      · rename_i hc; subst hc; simp
      · simp
    · rcases h2 with h2 | ⟨blk, off, arr, ty, fr, rfl, _⟩
      · exact .inr h2
      · by_cases hc : c = 0
        · exact .inr hc
        · left; simp [hc]
theorem inAt {W : World} {A : Option Addr} {n c sz blk : Nat} {els : List (List Val)} (h : SlRow0 W A n c sz els) (hsz : ∀ el ∈ els, el.length = sz) {ρ : Ren} {cb : CB} (hb : inBlk sz blk A c = some cb) (hblk : ∃ arr ty fr, W.heap[blk]? = some (.cells arr ty fr)) :
    cb.blk < W.heap.size ∧ (∃ arr ty fr, W.heap[cb.blk]? = some (.cells arr ty fr) ∧ els.flatten.length ≤ cb.room ∧ cb.off + els.flatten.length ≤ arr.size ∧ (∀ i x, getAt i els.flatten = some x → ∃ v, arr[cb.off + i]? = some v ∧ cellRel ρ x v)) := by
  have hfl : els.flatten.length = n * sz := by
    rw [List.length_flatten, ← h.1]
    clear h hb
    induction els with
    | nil => simp
    | cons e es ih =>
      simp only [List.map_cons, List.sum_cons, List.length_cons, Nat.succ_mul]
      rw [ih (fun el he => hsz el (by simp [he])), hsz e (by simp)]
      omega
  obtain ⟨h1, ⟨rfl, rfl, rfl⟩ | ⟨a, rfl, hn, h2⟩⟩ := h
  · cases hb
  · by_cases hc : c = 0
    · simp only [inBlk, Option.map_some, hc, if_true, Option.some.injEq] at hb
      subst hb
      obtain ⟨arr, ty, fr, hh⟩ := hblk
      have hn0 : n = 0 := by omega
      subst hn0
      have hel : els = [] := List.length_eq_zero_iff.1 h1
      subst hel
      exact ⟨(Array.getElem?_eq_some_iff.1 hh).1, arr, ty, fr, hh, by simp, by simp, fun i x hx => by simp [getAt] at hx⟩
    · rcases h2 with h2 | ⟨b', off, arr, ty, fr, rfl, hh, hs, hg⟩
      · exact absurd h2 hc
      · simp only [inBlk, Option.map_some, hc, if_false, Option.some.injEq] at hb
        subst hb
        have := Nat.mul_le_mul_right sz hn
        refine ⟨(Array.getElem?_eq_some_iff.1 hh).1, arr, ty, fr, hh, by rw [hfl]; exact this, by rw [hfl]; show off + _ ≤ _; omega, fun i x hx => ?_⟩
        obtain ⟨v, hv, hr⟩ := hg i x hx
        exact ⟨v, hv, hr ρ⟩
theorem ntakeN_all {α : Type} : ∀ (l r : List α), takeN l.length (l ++ r) = some l
  | [], r => by cases r <;> rfl
  | x :: l, r => by
    show (takeN l.length (l ++ r)).map (x :: ·) = _
    rw [ntakeN_all l r]; rfl
theorem ndropN_all {α : Type} : ∀ (l r : List α), dropN l.length (l ++ r) = r
  | [], r => by cases r <;> rfl
  | x :: l, r => ndropN_all l r
theorem npart_mid {α : Type} (a b c : List α) {off n : Nat} (h1 : off = a.length) (h2 : n = b.length) : part? off n (a ++ (b ++ c)) = some b := by
  subst h1; subst h2
  unfold part?
  rw [ndropN_all, ntakeN_all]
/-- An element: plain cells, and a slice behind them. -/
structure Inn where
  pre : List Val
  A : Option Addr
  n : Nat
  c : Nat
  els : List (List Val)
def Inn.cells (ksz b : Nat) (r : Inn) : List Val := r.pre ++ [slVal b ksz r.A r.n]
def InnIs (W : World) (kp ks : List CK) (r : Inn) (vs : List Value) : Prop :=
  ∃ pv : List Value, vs = pv ++ [.slice r.A r.n r.c] ∧ r.pre = pv.map valOf ∧ (∀ v ∈ pv, ∀ ρ, cellRel ρ (valOf v) v) ∧ rowOk kp r.pre ∧ SlRow0 W r.A r.n r.c ks.length r.els ∧ (∀ el ∈ r.els, rowOk ks el) ∧ r.c ≤ maxLen
theorem toInn {W : World} {ks : List CK} : ∀ {kp : List CK} {vs : List Value}, InRow W (kp.map NK.ck ++ [.sl ks]) vs → ∃ r, InnIs W kp ks r vs
  | [], vs, h => by
    match vs, h with
    | [v], ⟨h1, _⟩ =>
      obtain ⟨A, n, c, els, rfl, h2, h3, h4⟩ := h1
      exact ⟨⟨[], A, n, c, els⟩, [], rfl, rfl, by simp, trivial, h2, h3, h4⟩
  | k :: kp, vs, h => by
    match vs, h with
    | v :: vs, ⟨h1, h2⟩ =>
      obtain ⟨⟨pre, A, n, c, els⟩, pv, rfl, h3, h4, h5, h6, h7, h8⟩ := toInn (kp := kp) (vs := vs) h2
      simp only at h3
      subst h3
      refine ⟨⟨valOf v :: pv.map valOf, A, n, c, els⟩, v :: pv, rfl, rfl, fun x hx => ?_, ⟨h1.1, h5⟩, h6, h7, h8⟩
      rcases List.mem_cons.1 hx with rfl | hx
      · exact h1.2
      · exact h4 x hx
theorem toInns {W : World} {kp ks : List CK} : ∀ {rs : List (List Value)}, (∀ r ∈ rs, InRow W (kp.map NK.ck ++ [.sl ks]) r) → ∃ l : List Inn, l.length = rs.length ∧ ∀ (i : Nat) (x : Inn), l[i]? = some x → ∃ r, rs[i]? = some r ∧ InnIs W kp ks x r
  | [], _ => ⟨[], rfl, fun i x h => by simp at h⟩
  | r :: rs, h => by
    obtain ⟨x, hx⟩ := toInn (h r (by simp))
    obtain ⟨l, h1, h2⟩ := toInns (rs := rs) fun r hr => h r (by simp [hr])
    refine ⟨x :: l, by simp [h1], fun i y hy => ?_⟩
    cases i with
    | zero => simp at hy; subst hy; exact ⟨r, rfl, hx⟩
    | succ i => simp at hy; obtain ⟨r', hr', hi⟩ := h2 i y hy; exact ⟨r', by simpa using hr', hi⟩
def nestV (ksz : Nat) : Nat → List Inn → List Val
  | _, [] => []
  | b, r :: rs => r.cells ksz b ++ nestV ksz (b + 1) rs
def nestH (l : List Inn) : List Blk := l.map fun r => ⟨r.els.flatten, true⟩
theorem nestV_len {ksz sz : Nat} : ∀ {l : List Inn} {b : Nat}, (∀ r ∈ l, r.pre.length + 1 = sz) → (nestV ksz b l).length = l.length * sz
  | [], _, _ => by simp [nestV]
  | r :: l, b, h => by
    simp only [nestV, List.length_append, List.length_cons, Nat.succ_mul, Inn.cells]
    rw [nestV_len (fun r hr => h r (by simp [hr]))]
    have := h r (by simp)
    simp only [List.length_nil]
    omega
theorem nestV_mem {ksz : Nat} : ∀ {l : List Inn} {b : Nat} {v : Val}, v ∈ nestV ksz b l → ∃ (i : Nat) (r : Inn), l[i]? = some r ∧ v ∈ r.cells ksz (b + i)
  | r :: l, b, v, h => by
    simp only [nestV, List.mem_append] at h
    rcases h with h | h
    · exact ⟨0, r, rfl, h⟩
    · obtain ⟨i, r', h1, h2⟩ := nestV_mem h
      exact ⟨i + 1, r', by simpa using h1, by rw [show b + (i + 1) = b + 1 + i by omega]; exact h2⟩
theorem nestV_get {ksz sz : Nat} : ∀ {l : List Inn} {b i : Nat} {x : Val}, (∀ r ∈ l, r.pre.length + 1 = sz) → (nestV ksz b l)[i]? = some x → ∃ (j : Nat) (r : Inn) (q : Nat), l[j]? = some r ∧ (r.cells ksz (b + j))[q]? = some x ∧ i = j * sz + q
  | [], b, i, x, hl, h => by simp [nestV] at h
  | r :: l, b, i, x, hl, h => by
    simp only [nestV] at h
    have hr := hl r (by simp)
    have hc : (r.cells ksz b).length = sz := by simp [Inn.cells, hr]
    by_cases c : i < (r.cells ksz b).length
    · rw [List.getElem?_append_left c] at h
      exact ⟨0, r, i, rfl, h, by simp⟩
    · rw [List.getElem?_append_right (by omega)] at h
      obtain ⟨j, r', q, h1, h2, h3⟩ := nestV_get (fun r hr => hl r (by simp [hr])) h
      refine ⟨j + 1, r', q, by simpa using h1, by rw [show b + (j + 1) = b + 1 + j by omega]; exact h2, ?_⟩
      rw [Nat.succ_mul]; omega
theorem nestV_part {ksz sz : Nat} : ∀ {l : List Inn} {b i : Nat} {r : Inn}, (∀ r ∈ l, r.pre.length + 1 = sz) → l[i]? = some r → part? (i * sz) sz (nestV ksz b l) = some (r.cells ksz (b + i))
  | r0 :: l, b, 0, r, hl, h => by
    simp at h; subst h
    have hr := hl r0 (by simp)
    simp only [nestV, Nat.zero_mul]
    exact npart_mid [] _ _ rfl (by simp [Inn.cells, hr])
  | r0 :: l, b, i + 1, r, hl, h => by
    have hr := hl r0 (by simp)
    have h1 := nestV_part (ksz := ksz) (b := b + 1) (fun r hr => hl r (by simp [hr])) (show l[i]? = some r by simpa using h)
    simp only [nestV]
    have hd : ∀ (xs ys : List Val) (n : Nat), dropN (xs.length + n) (xs ++ ys) = dropN n ys := by
      intro xs ys n
      induction xs with
      | nil => simp
      | cons x xs ih => simp only [List.length_cons, List.cons_append, Nat.succ_add, dropN]; exact ih
    unfold part? at h1 ⊢
    have hc : (r0.cells ksz b).length = sz := by simp [Inn.cells, hr]
    rw [show (i + 1) * sz = (r0.cells ksz b).length + i * sz by rw [hc, Nat.succ_mul]; omega, hd, h1, show b + 1 + i = b + (i + 1) by omega]
/-- A slice of such elements, as the machine has it (so many of them told): the blocks 0 and 1 .. -/
theorem nest_ok {W : World} {a : Addr} {n c : Nat} {kp ks : List CK} {rs : List (List Value)} (hr : NRow W (some a) n c (kp.length + 1) rs) {l : List Inn} (hl : ∀ (i : Nat) (x : Inn), l[i]? = some x → ∃ r, rs[i]? = some r ∧ InnIs W kp ks x r) :
    ∃ ρ : Ren, relV ρ (.sl (.hp 0) 0 n (kp.length + 1)) (.slice (some a) n c) ∧ (∀ b c, ρ b = some c → ∃ k, b = .hp k ∧ k < (⟨nestV ks.length 1 l, true⟩ :: nestH l : List Blk).length) ∧
    (∀ k c cs, ρ (.hp k) = some c → liveAt (⟨nestV ks.length 1 l, true⟩ :: nestH l) k = some cs → cs.all shared = true ∧ ∃ arr ty fr, W.heap[c.blk]? = some (.cells arr ty fr) ∧ cs.length ≤ c.room ∧ c.off + cs.length ≤ arr.size ∧ (∀ i x, getAt i cs = some x → ∃ v, arr[c.off + i]? = some v ∧ cellRel ρ x v)) ∧
    (∀ b c, ρ b = some c → c.blk < W.heap.size) := by
  obtain ⟨hn, ⟨h, _⟩ | ⟨blk, off, arr, ty, fr, ha, hnc, hh, hs, hg⟩⟩ := hr
  · cases h
  cases ha
  have hll : l.length ≤ n := by
    by_cases z : l.length ≤ n
    · exact z
    · obtain ⟨r, h1, _⟩ := hl n l[n] (List.getElem?_eq_getElem (by omega))
      have := (List.getElem?_eq_some_iff.1 h1).1
      omega
  have hpl : ∀ r ∈ l, r.pre.length + 1 = kp.length + 1 := by
    intro r hr
    obtain ⟨i, hi, rfl⟩ := List.getElem_of_mem hr
    obtain ⟨_, _, pv, _, _, _, h5, _⟩ := hl i _ (List.getElem?_eq_getElem hi)
    rw [rowOk_length h5]
  let ρ : Ren := fun b => match b with
    | .hp 0 => some ⟨blk, if c = 0 then 0 else off, c * (kp.length + 1)⟩
    | .hp (i + 1) => (l[i]?).bind fun r => inBlk ks.length blk r.A r.c
    | _ => none
  have hcs : ∀ r : Inn, ∀ v ∈ r.els.flatten, (∀ el ∈ r.els, rowOk ks el) → shared v = true := by
    intro r v hv hel
    obtain ⟨el, h1, h2⟩ := List.mem_flatten.1 hv
    have h3 := hel el h1
    clear h1 hel hv
    clear hl hpl
    induction ks generalizing el with
    | nil => cases el with
      | nil => cases h2
      | cons x xs => exact h3.elim
    | cons k ks ih =>
      match el, h3 with
      | x :: xs, h3 =>
        rcases List.mem_cons.1 h2 with rfl | h2
        · have := h3.1
          cases k <;> cases v <;> first | rfl | exact this.elim
        · exact ih xs h2 h3.2
  refine ⟨ρ, ?_, ?_, ?_, ?_⟩
  · refine ⟨_, _, _, rfl, rfl, hnc, by simp, ?_⟩
    by_cases hc : c = 0
    · exact .inr hc
    · left; simp [hc]
  · intro b cb h
    simp only [ρ] at h
    split at h
    · exact ⟨0, rfl, by simp⟩
    · rename_i i
      rw [Option.bind_eq_some_iff] at h
      obtain ⟨r, h1, _⟩ := h
      have := (List.getElem?_eq_some_iff.1 h1).1
      exact ⟨i + 1, rfl, by simp [nestH]; omega⟩
    · cases h
  · intro k cb cs h hk
    cases k with
    | zero =>
      simp only [ρ, Option.some.injEq] at h
      subst h
      obtain rfl : nestV ks.length 1 l = cs := Option.some.inj hk
      refine ⟨?_, arr, ty, fr, hh, ?_, ?_, fun i x hx => ?_⟩
      · rw [List.all_eq_true]
        intro v hv
        obtain ⟨i, r, h1, h2⟩ := nestV_mem hv
        obtain ⟨vs, _, pv, _, h4, _, h5, _⟩ := hl i r h1
        simp only [Inn.cells, List.mem_append, List.mem_cons, List.not_mem_nil, or_false] at h2
        rcases h2 with h2 | rfl
        · clear h4
          have : ∀ (kp : List CK) (pre : List Val), rowOk kp pre → v ∈ pre → shared v = true := by
            intro kp
            induction kp with
            | nil => intro pre a b; cases pre with
              | nil => cases b
              | cons x xs => exact a.elim
            | cons k ks ih =>
              intro pre a b
              match pre, a with
              | x :: xs, a =>
                rcases List.mem_cons.1 b with rfl | b
                · have := a.1
                  cases k <;> cases v <;> first | rfl | exact this.elim
                · exact ih xs a.2 b
          exact this kp r.pre h5 h2
        · unfold slVal; split <;> rfl
      · rw [nestV_len hpl]; exact Nat.mul_le_mul_right _ (by omega)
      · rw [nestV_len hpl]
        show (if c = 0 then 0 else off) + l.length * (kp.length + 1) ≤ arr.size
        split
        · rename_i hc
          have : l.length = 0 := by omega
          rw [this]; omega
        · have := hs (by omega)
          have := Nat.mul_le_mul_right (kp.length + 1) (show l.length ≤ c by omega)
          omega
      · rw [getAt_eq] at hx
        obtain ⟨j, r, q, h1, h2, rfl⟩ := nestV_get hpl hx
        obtain ⟨vs, h3, pv, rfl, h4, h5, h6, h7, h8, h9⟩ := hl j r h1
        have hjn := (List.getElem?_eq_some_iff.1 h1).1
        have hc : ¬ c = 0 := by omega
        simp only [hc, if_false]
        have hq : q < (pv ++ [Value.slice r.A r.n r.c]).length := by
          have := (List.getElem?_eq_some_iff.1 h2).1
          simp only [Inn.cells, h4, List.length_append, List.length_map, List.length_cons, List.length_nil] at this
          simpa using this
        refine ⟨_, by rw [← Nat.add_assoc]; exact hg j _ h3 q _ (List.getElem?_eq_getElem hq), ?_⟩
        by_cases hqp : q < pv.length
        · rw [List.getElem_append_left hqp]
          simp only [Inn.cells, h4] at h2
          rw [List.getElem?_append_left (by simpa using hqp), List.getElem?_map, List.getElem?_eq_getElem hqp] at h2
          cases h2
          exact h5 _ (List.getElem_mem _) ρ
        · have hq2 : q = pv.length := by simp at hq; omega
          subst hq2
          simp only [Inn.cells, h4] at h2
          rw [List.getElem?_append_right (by simp)] at h2
          simp only [List.length_map, Nat.sub_self, List.getElem?_cons_zero, Option.some.injEq] at h2
          subst h2
          simp only [List.getElem_append_right (Nat.le_refl _), Nat.sub_self, List.getElem_cons_zero]
          refine inRel (blk := blk) h7 ?_
          show ρ (.hp (1 + j)) = _
          rw [Nat.add_comm]
          simp only [ρ, h1, Option.bind_some]
    | succ i =>
      simp only [ρ, Option.bind_eq_some_iff] at h
      obtain ⟨r, h1, h2⟩ := h
      obtain ⟨vs, h3, pv, rfl, h4, h5, h6, h7, h8, h9⟩ := hl i r h1
      have hkk : cs = r.els.flatten := by
        simp only [liveAt, nestH, List.getElem?_cons_succ, List.getElem?_map, h1, Option.map_some, Option.bind_some, if_true, Option.some.injEq] at hk
        exact hk.symm
      subst hkk
      refine ⟨?_, (inAt h7 (fun el hel => rowOk_length (h8 el hel)) h2 ⟨_, _, _, hh⟩).2⟩
      rw [List.all_eq_true]
      exact fun v hv => hcs r v hv h8
  · intro b cb h
    simp only [ρ] at h
    split at h
    · cases h
      exact (Array.getElem?_eq_some_iff.1 hh).1
    · rename_i i
      rw [Option.bind_eq_some_iff] at h
      obtain ⟨r, h1, h2⟩ := h
      obtain ⟨vs, h3, pv, rfl, h4, h5, h6, h7, h8, h9⟩ := hl i r h1
      exact (inAt (ρ := ρ) h7 (fun el hel => rowOk_length (h8 el hel)) h2 ⟨_, _, _, hh⟩).1
    · cases h
end Go.Proofs.YtponkdimnafppaaDoor.VM
