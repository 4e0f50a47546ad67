/- A plain machine for the program's functions: what its values and its memory stand for. -/
import Derived.Test.YtponkdimnafppaaDoorVB
namespace Go.Proofs.YtponkdimnafppaaDoor.VM
open Go
set_option linter.unusedVariables false
set_option linter.unusedSimpArgs false
/-- Where a block lies: its own first cell, and how many cells it may have. -/
structure CB where
  blk : Nat
  off : Nat
  room : Nat
abbrev Ren := Base → Option CB
def cellRel (ρ : Ren) : Val → Value → Prop
  | .int k n, v => v = .int k n
  | .bool b, v => v = .bool b
  | .str s, v => v = .string s
  | .nilp, v => v = .pointer none
  | .ptr b off, v => ∃ c, ρ b = some c ∧ v = .pointer (some ⟨c.blk, c.off + off, none⟩)
  | .nils, v => v = .slice none 0 0
  | .sl b off len esz, v => ∃ c a cap, ρ b = some c ∧ v = .slice (some a) len cap ∧ len ≤ cap ∧ off + cap * esz ≤ c.room ∧ (a = ⟨c.blk, c.off + off, none⟩ ∨ cap = 0)
  | .raw u, v => v = u ∧ u.oneCell' = true
  | _, _ => False
def rels (R : Val → Value → Prop) : List Val → List Value → Prop
  | [], [] => True
  | x :: xs, v :: vs => R x v ∧ rels R xs vs
  | _, _ => False
def relD (ρ : Ren) : Val → Value → Prop
  | .agg cs, v => ∃ l, v = .agg l ∧ rels (cellRel ρ) cs l.toList
  | x, v => cellRel ρ x v
def relV (ρ : Ren) : Val → Value → Prop
  | .tup vs, v => ∃ l, v = .tuple l ∧ rels (relD ρ) vs l.toList
  | .undef, _ => True
  | x, v => relD ρ x v
theorem rels_length {R : Val → Value → Prop} : ∀ {xs : List Val} {vs : List Value}, rels R xs vs → xs.length = vs.length
  | [], [], _ => rfl
  | x :: xs, v :: vs, h => by simp [rels_length h.2]
  | [], _ :: _, h => h.elim
  | _ :: _, [], h => h.elim
theorem rels_mono {R S : Val → Value → Prop} (m : ∀ x v, R x v → S x v) : ∀ {xs : List Val} {vs : List Value}, rels R xs vs → rels S xs vs
  | [], [], _ => trivial
  | x :: xs, v :: vs, h => ⟨m _ _ h.1, rels_mono m h.2⟩
  | [], _ :: _, h => h.elim
  | _ :: _, [], h => h.elim
theorem rels_get {R : Val → Value → Prop} : ∀ {xs : List Val} {vs : List Value} {i : Nat} {x : Val}, rels R xs vs → getAt i xs = some x → ∃ v, vs[i]? = some v ∧ R x v
  | [], _, _, _, _, h => by simp [getAt] at h
  | x :: xs, v :: vs, 0, y, h, e => by simp only [getAt, Option.some.injEq] at e; subst e; exact ⟨v, rfl, h.1⟩
  | x :: xs, v :: vs, i + 1, y, h, e => by obtain ⟨w, hw, hr⟩ := rels_get h.2 e; exact ⟨w, by simpa using hw, hr⟩
  | _ :: _, [], _, _, h, _ => h.elim
/-- What is told of one value holds where more blocks are known. -/
def Ren.le (ρ σ : Ren) : Prop := ∀ b c, ρ b = some c → σ b = some c
theorem Ren.le_refl (ρ : Ren) : ρ.le ρ := fun _ _ h => h
theorem Ren.le_trans {a b c : Ren} (h : a.le b) (k : b.le c) : a.le c := fun x y e => k x y (h x y e)
theorem cellRel_mono {ρ σ : Ren} (h : ρ.le σ) (x : Val) (v : Value) (r : cellRel ρ x v) : cellRel σ x v := by
  cases x <;> simp only [cellRel] at r ⊢ <;> try exact r
  · obtain ⟨c, e, hv⟩ := r; exact ⟨c, h _ _ e, hv⟩
  · obtain ⟨c, a, cap, e, hv⟩ := r; exact ⟨c, a, cap, h _ _ e, hv⟩
theorem relD_mono {ρ σ : Ren} (h : ρ.le σ) (x : Val) (v : Value) (r : relD ρ x v) : relD σ x v := by
  cases x with
  | agg cs => obtain ⟨l, e, hl⟩ := r; exact ⟨l, e, rels_mono (cellRel_mono h) hl⟩
  | _ => simp only [relD] at r ⊢; exact cellRel_mono h _ _ r
theorem relV_mono {ρ σ : Ren} (h : ρ.le σ) (x : Val) (v : Value) (r : relV ρ x v) : relV σ x v := by
  cases x with
  | tup cs => obtain ⟨l, e, hl⟩ := r; exact ⟨l, e, rels_mono (relD_mono h) hl⟩
  | undef => trivial
  | _ => simp only [relV] at r ⊢; exact relD_mono h _ _ r
theorem relD_of_cell {ρ : Ren} {x : Val} {v : Value} (r : cellRel ρ x v) : relD ρ x v := by
  cases x with
  | agg cs => exact r.elim
  | _ => exact r
theorem relV_of_relD {ρ : Ren} {x : Val} {v : Value} (r : relD ρ x v) : relV ρ x v := by
  cases x with
  | tup cs => exact r.elim
  | undef => trivial
  | _ => exact r
theorem relV_of_cell {ρ : Ren} {x : Val} {v : Value} (r : cellRel ρ x v) : relV ρ x v := relV_of_relD (relD_of_cell r)
/-! ### values that name no block -/
theorem plainCell_rel {ρ : Ren} {x : Val} {v u : Value} (h : plainCell x = some v) (r : cellRel ρ x u) : u = v := by
  cases x <;> simp only [plainCell, Option.some.injEq] at h <;> first | (subst h; exact r) | (subst h; exact r.1) | (cases h)
theorem mapO_rel {f : Val → Option Value} {R : Val → Value → Prop} (H : ∀ x v u, f x = some v → R x u → u = v) :
    ∀ {xs : List Val} {vs us : List Value}, mapO f xs = some vs → rels R xs us → us = vs
  | [], vs, us, h, r => by
    simp only [mapO, Option.some.injEq] at h; subst h
    cases us with
    | nil => rfl
    | cons => exact r.elim
  | x :: xs, vs, us, h, r => by
    simp only [mapO] at h
    cases hx : f x with
    | none => simp [hx] at h
    | some v =>
      cases hxs : mapO f xs with
      | none => simp [hx, hxs] at h
      | some l =>
        simp [hx, hxs] at h
        subst h
        cases us with
        | nil => exact r.elim
        | cons u us => rw [H _ _ _ hx r.1, mapO_rel H hxs r.2]
theorem plainD_rel {ρ : Ren} {x : Val} {v u : Value} (h : plainD x = some v) (r : relD ρ x u) : u = v := by
  cases x with
  | agg cs =>
    obtain ⟨l, rfl, hl⟩ := r
    simp only [plainD] at h
    cases hm : mapO plainCell cs with
    | none => simp [hm] at h
    | some l' =>
      simp only [hm, Option.map_some, Option.some.injEq] at h
      rw [← h, ← mapO_rel (fun x v u => plainCell_rel) hm hl]
  | _ => simp only [plainD] at h; simp only [relD] at r; exact plainCell_rel h r
theorem plain_rel {ρ : Ren} {x : Val} {v u : Value} (h : plain x = some v) (r : relV ρ x u) : u = v := by
  cases x with
  | tup cs =>
    obtain ⟨l, rfl, hl⟩ := r
    simp only [plain] at h
    cases hm : mapO plainD cs with
    | none => simp [hm] at h
    | some l' =>
      simp only [hm, Option.map_some, Option.some.injEq] at h
      rw [← h, ← mapO_rel (fun x v u => plainD_rel) hm hl]
  | undef => simp [plain, plainD, plainCell] at h
  | _ => simp only [plain] at h; simp only [relV] at r; exact plainD_rel h r
theorem ofCell_rel {ρ : Ren} {v : Value} {x : Val} (h : ofCell v = some x) : cellRel ρ x v := by
  unfold ofCell at h
  split at h <;> first | (simp only [Option.some.injEq] at h; subst h; rfl) | (simp only [Option.some.injEq] at h; subst h; exact ⟨rfl, rfl⟩) | (cases h)
theorem mapO_of {f : Value → Option Val} {R : Val → Value → Prop} (H : ∀ v x, f v = some x → R x v) :
    ∀ {vs : List Value} {xs : List Val}, mapO f vs = some xs → rels R xs vs
  | [], xs, h => by simp only [mapO, Option.some.injEq] at h; subst h; trivial
  | v :: vs, xs, h => by
    simp only [mapO] at h
    cases hx : f v with
    | none => simp [hx] at h
    | some y =>
      cases hxs : mapO f vs with
      | none => simp [hx, hxs] at h
      | some l => simp [hx, hxs] at h; subst h; exact ⟨H _ _ hx, mapO_of H hxs⟩
theorem ofD_rel {ρ : Ren} {v : Value} {x : Val} (h : ofD v = some x) : relD ρ x v := by
  unfold ofD at h
  split at h
  · rename_i cs
    cases hm : mapO ofCell cs.toList with
    | none => simp [hm] at h
    | some l => simp only [hm, Option.map_some, Option.some.injEq] at h; subst h; exact ⟨cs, rfl, mapO_of (R := cellRel ρ) (fun v x h => ofCell_rel h) hm⟩
  · exact relD_of_cell (ofCell_rel h)
theorem ofV_rel {ρ : Ren} {v : Value} {x : Val} (h : ofV v = some x) : relV ρ x v := by
  unfold ofV at h
  split at h
  · rename_i cs
    cases hm : mapO ofD cs.toList with
    | none => simp [hm] at h
    | some l => simp only [hm, Option.map_some, Option.some.injEq] at h; subst h; exact ⟨cs, rfl, mapO_of (R := relD ρ) (fun v x h => ofD_rel h) hm⟩
  · exact relV_of_relD (ofD_rel h)
theorem cellRel_one {ρ : Ren} {x : Val} {v : Value} (r : cellRel ρ x v) : v.oneCell' = true := by
  cases x <;> simp only [cellRel] at r
  case int => subst r; rfl
  case bool => subst r; rfl
  case str => subst r; rfl
  case nilp => subst r; rfl
  case ptr => obtain ⟨c, _, rfl⟩ := r; rfl
  case nils => subst r; rfl
  case sl => obtain ⟨c, a, cap, _, rfl, _⟩ := r; rfl
  case raw => obtain ⟨rfl, h⟩ := r; exact h
theorem cells_one {v : Value} (h : v.oneCell' = true) : v.cells = #[v] := by
  cases v <;> first | rfl | (simp [Value.oneCell'] at h)
theorem shared_like {x : Val} (h : shared x = true) : cellLike x = true := by
  cases x <;> first | rfl | (simp [shared] at h)
theorem cells_rel {ρ : Ren} {x : Val} {v : Value} (r : relV ρ x v) (h : (cellsOf x).all cellLike = true) : rels (cellRel ρ) (cellsOf x) v.cells.toList := by
  cases x with
  | agg cs => obtain ⟨l, rfl, hl⟩ := r; exact hl
  | tup cs => simp [cellsOf, cellLike] at h
  | undef => simp [cellsOf, cellLike] at h
  | _ => simp only [relV, relD] at r; rw [cells_one (cellRel_one r)]; exact ⟨r, trivial⟩
/-! ### the temporaries -/
/-- The tables are where they are. -/
def GlobOk (ρ : Ren) : Prop := ∀ g i, globI globs g = some i → ∃ c, ρ (.hp i) = some c ∧ c.blk = g ∧ c.off = 0
theorem GlobOk.mono {ρ σ : Ren} (h : ρ.le σ) (r : GlobOk ρ) : GlobOk σ := fun g i e => by
  obtain ⟨c, h1, h2⟩ := r g i e
  exact ⟨c, h _ _ h1, h2⟩
theorem GlobOk.to {ρ σ : Ren} (h : ∀ k, σ (.hp k) = ρ (.hp k)) (r : GlobOk ρ) : GlobOk σ := fun g i e => by
  obtain ⟨c, h1, h2⟩ := r g i e
  exact ⟨c, (h i).trans h1, h2⟩
def relT (ρ : Ren) (T : List Val) (a : Act) : Prop := T.length = a.tmps.size ∧ (∀ t x, getAt t T = some x → relV ρ x (a.tmps.getD t undef)) ∧ GlobOk ρ
theorem getAt_eq {α : Type} : ∀ (n : Nat) (l : List α), getAt n l = l[n]?
  | _, [] => by simp [getAt]
  | 0, x :: xs => rfl
  | n + 1, x :: xs => by simp [getAt, getAt_eq n xs]
theorem ev_rel {ρ : Ren} {T : List Val} {a : Act} (h : relT ρ T a) (x : Operand) : relV ρ (ev T x) (a.eval x) := by
  cases x with
  | tmp t =>
    simp only [ev, Act.eval]
    cases hx : getAt t T with
    | none => trivial
    | some y => exact h.2.1 t y hx
  | const v =>
    simp only [ev, Act.eval]
    cases hx : ofV v with
    | none => trivial
    | some y => exact ofV_rel hx
  | global g =>
    simp only [ev, Act.eval, globV]
    cases hx : globI globs g with
    | none => trivial
    | some i =>
      obtain ⟨c, h1, h2, h3⟩ := h.2.2 g i hx
      exact ⟨c, h1, by rw [h2, h3]⟩
  | func f => exact ⟨rfl, rfl⟩
theorem setT_length (d : Nat) (v : Val) (T : List Val) : (setT d v T).length = T.length := by
  induction T generalizing d with
  | nil => cases d <;> rfl
  | cons x xs ih => cases d with
    | zero => rfl
    | succ d => simp [setT, ih]
theorem setT_get (d : Nat) (v : Val) (T : List Val) (t : Nat) : getAt t (setT d v T) = if t = d ∧ d < T.length then some v else getAt t T := by
  induction T generalizing d t with
  | nil => cases d <;> cases t <;> simp [setT, getAt]
  | cons x xs ih =>
    cases d with
    | zero => cases t <;> simp [setT, getAt]
    | succ d =>
      cases t with
      | zero => simp [setT, getAt]
      | succ t => simp [setT, getAt, ih]
theorem relT_put {ρ : Ren} {T : List Val} {a : Act} (h : relT ρ T a) {o : Oper} {x : Val} {v : Value} (r : relV ρ x v) : relT ρ (putT o x T) (a.put o.dst v) := by
  unfold putT Act.put
  cases o.dst with
  | none => exact h
  | some d =>
    refine ⟨by simp [setT_length, h.1], fun t y e => ?_, h.2.2⟩
    simp only at e
    rw [setT_get] at e
    by_cases hd : t = d ∧ d < T.length
    · rw [if_pos hd] at e
      obtain ⟨rfl, hd⟩ := hd
      cases e
      have : t < a.tmps.size := by rw [← h.1]; exact hd
      simp [this, r]
    · rw [if_neg hd] at e
      have := h.2.1 t y e
      by_cases ht : t = d
      · subst ht
        have h2 : ¬ t < T.length := fun z => hd ⟨rfl, z⟩
        rw [getAt_eq] at e
        have := List.getElem?_eq_some_iff.1 e
        exact absurd this.1 h2
      · have hne : d ≠ t := fun e => ht e.symm
        simpa [Array.getElem?_setIfInBounds_ne hne] using this
theorem relT_mono {ρ σ : Ren} (h : ρ.le σ) {T : List Val} {a : Act} (r : relT ρ T a) : relT σ T a := ⟨r.1, fun t x e => relV_mono h _ _ (r.2.1 t x e), r.2.2.mono h⟩
/-! ### memory -/
def wr (lo : Nat) : Base → Prop
  | .lo _ => True
  | .hp b => lo ≤ b
/-- A block that no call and nothing else can change, but a write into itself. -/
def firm (lo : Nat) : Base → Prop
  | .lo _ => True
  | .hp b => b < lo
def inR (M : Mem) : Base → Prop
  | .lo k => k < M.loc.length
  | .hp b => b < M.hp.length
/-- The cells of a block are where its place says. -/
def At (ρ : Ren) (lo base : Nat) (b : Base) (c : CB) (cs : List Val) (w : World) : Prop :=
  ∃ arr ty fr, w.heap[c.blk]? = some (.cells arr ty fr) ∧ cs.length ≤ c.room ∧ c.off + cs.length ≤ arr.size ∧
    (∀ i x, getAt i cs = some x → ∃ v, arr[c.off + i]? = some v ∧ cellRel ρ x v) ∧
    (wr lo b → base ≤ c.blk ∧ c.off + c.room ≤ arr.size ∧ ∀ i, i < arr.size → ¬ (fr.1 ≤ i ∧ i < fr.2))
/-- What is as it was: the world but for draws, new blocks, and the blocks that may be written. -/
structure Kept (A : Nat → Prop) (w w' : World) : Prop where
  os : w'.os = w.os
  tape : w'.tape = w.tape
  output : w'.output = w.output
  size : w.heap.size ≤ w'.heap.size
  block : ∀ c, c < w.heap.size → ¬ A c → w'.heap[c]? = w.heap[c]?
theorem Kept.refl (A : Nat → Prop) (w : World) : Kept A w w := ⟨rfl, rfl, rfl, Nat.le_refl _, fun _ _ _ => rfl⟩
theorem Kept.mono {A B : Nat → Prop} {w w' : World} (h : Kept A w w') (m : ∀ c, c < w.heap.size → A c → B c) : Kept B w w' :=
  ⟨h.os, h.tape, h.output, h.size, fun c hc hb => h.block c hc fun ha => hb (m c hc ha)⟩
theorem Kept.trans {A B : Nat → Prop} {a b c : World} (h : Kept A a b) (k : Kept B b c) (m : ∀ x, x < a.heap.size → B x → A x) : Kept A a c :=
  ⟨k.os.trans h.os, k.tape.trans h.tape, k.output.trans h.output, Nat.le_trans h.size k.size,
    fun x hx ha => (k.block x (Nat.lt_of_lt_of_le hx h.size) fun hb => ha (m x hx hb)).trans (h.block x hx ha)⟩
/-- The blocks that a call may write. -/
def img (ρ : Ren) (F : Base → Prop) (c : Nat) : Prop := ∃ b k, ρ b = some k ∧ F b ∧ k.blk = c
end Go.Proofs.YtponkdimnafppaaDoor.VM
