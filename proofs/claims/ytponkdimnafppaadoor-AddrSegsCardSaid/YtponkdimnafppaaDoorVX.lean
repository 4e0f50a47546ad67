/- A plain machine for the program's functions: slices that come in, of numbers, truths, strings, or structs of these. -/
import Derived.Test.YtponkdimnafppaaDoorVT
import Derived.OpenShut
import Derived.SliceStrings
namespace Go.Proofs.YtponkdimnafppaaDoor.VM
open Go Go.RowKit Go.ChangeShapes Go.WideShapes
set_option linter.unusedVariables false
set_option linter.unusedSimpArgs false
/-- The kind of a cell. -/
inductive CK where
  | int (k : IntKind)
  | bool
  | str
/-- A cell of that kind. -/
def ckOk : CK → Val → Prop
  | .int k, .int k' n => k' = k ∧ (Lit.int k n).wf = true
  | .bool, .bool _ => True
  | .str, .str s => s.size ≤ maxLen
  | _, _ => False
def valOf : Value → Val
  | .int k n => .int k n
  | .bool b => .bool b
  | .string s => .str s
  | _ => .undef
def rowOk : List CK → List Val → Prop
  | [], [] => True
  | k :: ks, v :: vs => ckOk k v ∧ rowOk ks vs
  | _, _ => False
theorem rowOk_length : ∀ {ks : List CK} {vs : List Val}, rowOk ks vs → vs.length = ks.length
  | [], [], _ => rfl
  | _ :: ks, _ :: vs, h => by simp [rowOk_length h.2]
  | [], _ :: _, h => h.elim
  | _ :: _, [], h => h.elim
/-- What an element's cells are. -/
def flatB (P : Program) (t : TypeId) : Option (List CK) :=
  let one (u : TypeId) : Option CK := match P.underlying u with
    | some (.int k) => some (.int k)
    | some .bool => some .bool
    | some .string => some .str
    | _ => none
  match P.underlying t with
  | some (.struct fs) => if P.cellsOf t = fs.size ∧ (List.range fs.size).all (fun i => match fs[i]? with | some f => f.offset == i && P.cellsOf f.type == 1 | none => false) = true then mapO (fun f => one f.type) fs.toList else none
  | _ => if P.cellsOf t = 1 then (one t).map fun k => [k] else none
section
variable {H : Type} {enc : TypeId × Value → H} {P : Program} {w : World} {base : Nat} {spare : Nat → Bool} {held : Bool}
theorem one_ok {u : TypeId} {ck : CK} {fuel : Nat} {cs : List Value} {x : DataW H × List MemPlace} (hu : (match P.underlying u with
    | some (.int k) => some (CK.int k)
    | some .bool => some .bool
    | some .string => some .str
    | _ => none) = some ck) (h : DataW.trod enc P w base spare held fuel u cs = some x) : ∃ v, cs = [v] ∧ ckOk ck (valOf v) ∧ ∀ ρ, cellRel ρ (valOf v) v := by
  split at hu
  · rename_i k hk
    obtain ⟨n, rfl, rfl, hw⟩ := DataW.trod_int hk h
    cases hu
    exact ⟨_, rfl, ⟨rfl, hw⟩, fun ρ => rfl⟩
  · rename_i hk
    obtain ⟨n, rfl, rfl⟩ := DataW.trod_bool hk h
    cases hu
    exact ⟨_, rfl, trivial, fun ρ => rfl⟩
  · rename_i hk
    obtain ⟨n, rfl, rfl, hw⟩ := DataW.trod_string hk h
    cases hu
    exact ⟨_, rfl, hw, fun ρ => rfl⟩
  · cases hu
theorem mapO_get {α β : Type} {f : α → Option β} : ∀ {l : List α} {r : List β}, mapO f l = some r → r.length = l.length ∧ ∀ (i : Nat) (x : α), l[i]? = some x → ∃ y, r[i]? = some y ∧ f x = some y
  | [], r, h => by simp only [mapO, Option.some.injEq] at h; subst h; exact ⟨rfl, fun i x h => by simp at h⟩
  | a :: l, r, h => by
    simp only [mapO, Option.bind_eq_some_iff, Option.map_eq_some_iff] at h
    obtain ⟨y, hy, r', hr, rfl⟩ := h
    obtain ⟨hl, hg⟩ := mapO_get hr
    refine ⟨by simp [hl], fun i x h => ?_⟩
    cases i with
    | zero => simp at h; subst h; exact ⟨y, by simp, hy⟩
    | succ i => simp at h; simpa using hg i x h
theorem rowOk_of : ∀ {ks : List CK} {vs : List Val}, vs.length = ks.length → (∀ (i : Nat) (k : CK), ks[i]? = some k → ∃ v, vs[i]? = some v ∧ ckOk k v) → rowOk ks vs
  | [], [], _, _ => trivial
  | k :: ks, v :: vs, hl, h => by
    refine ⟨?_, rowOk_of (by simpa using hl) fun i q hq => ?_⟩
    · obtain ⟨v', hv, hk⟩ := h 0 k rfl
      cases hv
      exact hk
    · obtain ⟨v', hv, hk⟩ := h (i + 1) q (by simpa using hq)
      exact ⟨v', by simpa using hv, hk⟩
  | [], _ :: _, hl, _ => by cases hl
  | _ :: _, [], hl, _ => by cases hl
theorem rels_of {ρ : Ren} : ∀ {cs : List Value}, (∀ v ∈ cs, cellRel ρ (valOf v) v) → rels (cellRel ρ) (cs.map valOf) cs
  | [], _ => trivial
  | c :: cs, h => ⟨h c (by simp), rels_of fun v hv => h v (by simp [hv])⟩
/-- An element that is read: its cells. -/
theorem flat_ok {t : TypeId} {ks : List CK} {fuel : Nat} {cs : List Value} {x : DataW H × List MemPlace} (hk : flatB P t = some ks) (h : DataW.trod enc P w base spare held fuel t cs = some x) :
    rowOk ks (cs.map valOf) ∧ ∀ v ∈ cs, ∀ ρ, cellRel ρ (valOf v) v := by
  unfold flatB at hk
  simp only at hk
  split at hk
  · rename_i fs hfs
    obtain ⟨xs, n, rfl, rfl, hl, hx, hf⟩ := DataW.trod_struct hfs h
    split at hk
    · rename_i hc
      obtain ⟨hc1, hc2⟩ := hc
      obtain ⟨hkl, hkg⟩ := mapO_get hk
      have hlen : cs.length = ks.length := by rw [hl, hc1, hkl, Array.length_toList]
      have each : ∀ (i : Nat) (k : CK), ks[i]? = some k → ∃ v, cs[i]? = some v ∧ ckOk k (valOf v) ∧ ∀ ρ, cellRel ρ (valOf v) v := by
        intro i k hi
        have hil : i < fs.size := by
          have := (List.getElem?_eq_some_iff.1 hi).1
          rw [hkl, Array.length_toList] at this
          exact this
        obtain ⟨k', hk', ho⟩ := hkg i fs[i] (by simp [hil])
        rw [hi] at hk'
        cases hk'
        rw [List.all_eq_true] at hc2
        have hci := hc2 i (by simpa using hil)
        simp only [Array.getElem?_eq_getElem hil, Bool.and_eq_true, beq_iff_eq] at hci
        have ht := hf i fs[i] (by simp [hil])
        rw [hci.1, hci.2] at ht
        have hxi : i < xs.length := by omega
        rw [List.getElem?_eq_getElem hxi] at ht
        obtain ⟨v, hv, h1, h2⟩ := one_ok ho ht
        refine ⟨v, ?_, h1, h2⟩
        have := congrArg (fun l => l[0]?) hv
        simpa [List.getElem?_take, List.getElem?_drop] using this
      refine ⟨rowOk_of (by simpa using hlen) fun i k hi => ?_, fun v hv => ?_⟩
      · obtain ⟨v, hv, h1, _⟩ := each i k hi
        exact ⟨valOf v, by simp [hv], h1⟩
      · obtain ⟨i, hi, rfl⟩ := List.getElem_of_mem hv
        obtain ⟨v, hv2, _, h2⟩ := each i (ks[i]'(by omega)) (by simp [List.getElem?_eq_getElem (show i < ks.length by omega)])
        rw [List.getElem?_eq_getElem hi] at hv2
        cases hv2
        exact h2
    · cases hk
  · split at hk
    · simp only [Option.map_eq_some_iff] at hk
      obtain ⟨k, hk, rfl⟩ := hk
      obtain ⟨v, rfl, h1, h2⟩ := one_ok hk h
      exact ⟨⟨h1, trivial⟩, fun v hv => by simp at hv; subst hv; exact h2⟩
    · cases hk
end
/-- A slice that came in: its elements' cells, and where they are. -/
def SlRow (W : World) (A : Option Addr) (n c sz : Nat) (els : List (List Val)) : Prop :=
  els.length = n ∧ ((A = none ∧ n = 0 ∧ c = 0) ∨ ∃ blk off arr ty fr, A = some ⟨blk, off, none⟩ ∧ n ≤ c ∧ W.heap[blk]? = some (.cells arr ty fr) ∧ (0 < c → off + c * sz ≤ arr.size) ∧
    ∀ i x, getAt i els.flatten = some x → ∃ v, arr[off + i]? = some v ∧ ∀ ρ, cellRel ρ x v)
theorem flatten_get {α : Type} {sz : Nat} : ∀ {els : List (List α)} (hl : ∀ e ∈ els, e.length = sz) {i : Nat} {x : α}, els.flatten[i]? = some x → ∃ j e r, els[j]? = some e ∧ e[r]? = some x ∧ i = j * sz + r ∧ r < sz
  | [], _, i, x, h => by simp at h
  | e :: els, hl, i, x, h => by
    rw [List.flatten_cons] at h
    by_cases hi : i < e.length
    · rw [List.getElem?_append_left hi] at h
      exact ⟨0, e, i, rfl, h, by omega, by rw [← hl e (by simp)]; exact hi⟩
    · rw [List.getElem?_append_right (by omega)] at h
      obtain ⟨j, e', r, h1, h2, h3, h4⟩ := flatten_get (fun e he => hl e (by simp [he])) h
      have := hl e (by simp)
      refine ⟨j + 1, e', r, by simpa using h1, h2, ?_, h4⟩
      rw [Nat.succ_mul]; omega
theorem open_flat {H : Type} {enc : TypeId × Value → H} {P : Program} {W : World} {r : Reach} {base : Nat} {t e : TypeId} {ks : List CK} {A : Option Addr} {len cap : Nat} {d : DataW H} {ps : List MemPlace} (ht : P.underlying t = some (.slice e)) (hk : flatB P e = some ks) (hks : P.cellsOf e = ks.length) (h0 : 0 < ks.length)
    (ok : Value.okWide P W r base t (.slice A len cap)) (h : DataW.Trod enc P W 0 (fun _ => true) true t (.slice A len cap) d ps) :
    ∃ els : List (List Val), SlRow W A len cap ks.length els ∧ (∀ el ∈ els, rowOk ks el) ∧ cap ≤ maxLen := by
  obtain ⟨fuel, hf⟩ := h
  simp only [Value.okWide, ht, Cell.okWide] at ok
  rcases DataW.trod_slice ht hf with ⟨hcs, _⟩ | ⟨a, len', cap', elems, rest, n, rfl, hcs, _, hb, hl, hm, hlen, hel, hsp, hns⟩
  · simp [Value.cells] at hcs
    obtain ⟨rfl, rfl, rfl⟩ := hcs
    exact ⟨[], ⟨rfl, .inl ⟨rfl, rfl, rfl⟩⟩, by simp, Nat.zero_le _⟩
  · simp [Value.cells] at hcs
    obtain ⟨rfl, rfl, rfl⟩ := hcs
    simp only [Cell.ok, ht] at ok
    obtain ⟨_, _, _, hspot, row, cells, hshape, _⟩ := ok
    obtain ⟨blk, off, spot⟩ := a
    simp only at hspot
    subst hspot
    unfold World.shape? at hshape
    split at hshape
    · rename_i arr ty fr hheap
      have each : ∀ i, i < cap → ∃ cs : List Value, cs.length = ks.length ∧ rowOk ks (cs.map valOf) ∧ (∀ v ∈ cs, ∀ ρ, cellRel ρ (valOf v) v) ∧ ∀ j, j < ks.length → arr[off + i * ks.length + j]? = cs[j]? := by
        intro i hi
        have he : ∃ y, (W.cells? 0 (Addr.add ⟨blk, off, none⟩ (i * P.cellsOf e)) (P.cellsOf e)).bind (DataW.trod enc P W 0 (fun _ => true) true n e) = some y := by
          by_cases hi2 : i < len
          · exact ⟨_, (hel i hi2).trans (List.getElem?_eq_getElem (by omega))⟩
          · obtain ⟨hrl, hr⟩ := hsp rfl
            have := hr (i - len) (by omega)
            rw [show len + (i - len) = i by omega] at this
            exact ⟨_, this.trans (List.getElem?_eq_getElem (by omega))⟩
        obtain ⟨y, he⟩ := he
        rw [Option.bind_eq_some_iff] at he
        obtain ⟨cs, hcs, htr⟩ := he
        obtain ⟨_, hl2, hcell⟩ := World.cells?_some hcs
        obtain ⟨hr, hv⟩ := flat_ok hk htr
        refine ⟨cs, by rw [hl2, hks], hr, hv, fun j hj => ?_⟩
        have h3 := hcell j (by omega)
        rw [← h3, hks]
        have hadd : (Addr.add (Addr.add ⟨blk, off, none⟩ (i * ks.length)) j) = ⟨blk, off + i * ks.length + j, none⟩ := by
          unfold Addr.add
          split <;> split <;> simp_all
        rw [hadd]
        simp [World.cell?, hheap]
      let g : Nat → List Val := fun i => if h : i < cap then (Classical.choose (each i h)).map valOf else []
      have hg : ∀ i (h : i < cap), g i = (Classical.choose (each i h)).map valOf := fun i h => by simp only [g]; rw [dif_pos h]
      refine ⟨(List.range len).map g, ⟨by simp, .inr ⟨blk, off, arr, ty, fr, rfl, hl, hheap, fun hp => ?_, fun i x hx => ?_⟩⟩, fun el hel2 => ?_, hm⟩
      · obtain ⟨cs, h1, _, _, h4⟩ := each (cap - 1) (by omega)
        have h5 := h4 (ks.length - 1) (by omega)
        rw [List.getElem?_eq_getElem (by omega)] at h5
        have h6 := (Array.getElem?_eq_some_iff.1 h5).1
        have : cap * ks.length = (cap - 1) * ks.length + ks.length := by
          rw [← Nat.succ_mul]; congr 1; omega
        omega
      · rw [getAt_eq] at hx
        obtain ⟨j, e', r, h1, h2, rfl, h4⟩ := flatten_get (sz := ks.length) (fun e he => by
          simp only [List.mem_map, List.mem_range] at he
          obtain ⟨i, hi, rfl⟩ := he
          rw [hg i (by omega), List.length_map]
          exact (Classical.choose_spec (each i (by omega))).1) hx
        have hj : j < len := by
          have := (List.getElem?_eq_some_iff.1 h1).1
          simpa using this
        simp only [List.getElem?_map, List.getElem?_range hj, Option.map_some, Option.some.injEq] at h1
        rw [hg j (by omega)] at h1
        subst h1
        obtain ⟨s1, s2, s3, s4⟩ := Classical.choose_spec (each j (by omega))
        simp only [List.getElem?_map, Option.map_eq_some_iff] at h2
        obtain ⟨v, hv, rfl⟩ := h2
        refine ⟨v, ?_, fun ρ => s3 v (List.mem_of_getElem? hv) ρ⟩
        rw [← Nat.add_assoc, s4 r h4, hv]
      · simp only [List.mem_map, List.mem_range] at hel2
        obtain ⟨i, hi, rfl⟩ := hel2
        rw [hg i (by omega)]
        exact (Classical.choose_spec (each i (by omega))).2.1
    · cases hshape
/-- A slice that came in, as the machine has it. -/
def slVal (b : Nat) (sz : Nat) (A : Option Addr) (n : Nat) : Val := match A with
  | none => .nils
  | some _ => .sl (.hp b) 0 n sz
/-- Where its block is. -/
def slBlk (sz : Nat) (A : Option Addr) (c : Nat) : Option CB := A.map fun a => ⟨a.block, if c = 0 then 0 else a.off, c * sz⟩
theorem slRel {W : World} {A : Option Addr} {n c sz : Nat} {els : List (List Val)} (h : SlRow W A n c sz els) {ρ : Ren} {b : Nat} (hρ : ρ (.hp b) = slBlk sz A c) : relV ρ (slVal b sz A n) (.slice A n c) := by
  obtain ⟨h1, ⟨rfl, rfl, rfl⟩ | ⟨blk, off, arr, ty, fr, rfl, hn, hh, hs, hg⟩⟩ := h
  · rfl
  · refine ⟨_, _, _, hρ, rfl, hn, by simp, ?_⟩
    by_cases hc : c = 0
    · exact .inr hc
    · left; simp [hc]
theorem slAt {W : World} {A : Option Addr} {n c sz : Nat} {els : List (List Val)} (h : SlRow W A n c sz els) (hsz : ∀ el ∈ els, el.length = sz) {ρ : Ren} {cb : CB} (hb : slBlk sz A c = some cb) :
    cb.blk < W.heap.size ∧ (∃ arr ty fr, W.heap[cb.blk]? = some (.cells arr ty fr) ∧ els.flatten.length ≤ cb.room ∧ cb.off + els.flatten.length ≤ arr.size ∧ (∀ i x, getAt i els.flatten = some x → ∃ v, arr[cb.off + i]? = some v ∧ cellRel ρ x v)) := by
  obtain ⟨h1, ⟨rfl, rfl, rfl⟩ | ⟨blk, off, arr, ty, fr, rfl, hn, hh, hs, hg⟩⟩ := h
  · cases hb
  · cases hb
    have hfl : els.flatten.length = n * sz := by
      rw [List.length_flatten, ← h1]
      clear hg hs hn h1 hh
      induction els with
      | nil => simp
      | cons e es ih =>
        simp only [List.map_cons, List.sum_cons, List.length_cons, Nat.succ_mul]
        rw [ih (fun el he => hsz el (by simp [he])), hsz e (by simp)]
        omega
    refine ⟨(Array.getElem?_eq_some_iff.1 hh).1, ⟨arr, ty, fr, hh, ?_, ?_, fun i x hx => ?_⟩⟩
    · rw [hfl]; exact Nat.mul_le_mul_right _ hn
    · rw [hfl]
      show (if c = 0 then 0 else off) + n * sz ≤ arr.size
      split
      · rename_i hc; have : n = 0 := by omega
        subst this; omega
      · have := hs (by omega)
        have := Nat.mul_le_mul_right sz hn
        omega
    · have hi : i < els.flatten.length := by
        rw [getAt_eq] at hx
        exact (List.getElem?_eq_some_iff.1 hx).1
      obtain ⟨v, hv, hr⟩ := hg i x hx
      have hc : ¬ c = 0 := fun z => by
        have : n = 0 := by omega
        rw [hfl, this] at hi
        omega
      exact ⟨v, by simp only [hc, if_false]; exact hv, hr ρ⟩
end Go.Proofs.YtponkdimnafppaaDoor.VM
