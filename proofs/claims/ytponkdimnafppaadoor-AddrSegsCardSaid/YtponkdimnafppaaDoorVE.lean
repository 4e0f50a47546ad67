/- A plain machine for the program's functions: its single steps are those of the model. -/
import Derived.Test.YtponkdimnafppaaDoorVD
import Derived.Laws.StructEq
import Derived.Laws.Tables
import Derived.Laws.Append
import Derived.Laws.MakeOwn
import Derived.WalkLawsBesides
import Derived.WalkSpells
namespace Go.Proofs.YtponkdimnafppaaDoor.VM
open Go
set_option linter.unusedVariables false
set_option linter.unusedSimpArgs false
/-- An operation of the model does what the plain machine tells. -/
def Done (P : Program) (lo base : Nat) (ρ : Ren) (G : Mem?) (w : World) (a : Act) (o : Oper) (x : Val) (d : D) : Prop :=
  ∃ n v w' ρ', (execOp a.eval o).run P w = .ok n w' ∧ (n = .value v ∨ n = .skip ∧ v = undef) ∧ relV ρ' x v ∧ ρ.le ρ' ∧ (∀ b, b ∉ newsOf d → ρ' b = ρ b) ∧ Is lo base ρ' (appG d G) w' ∧ Kept (img ρ (· ∈ wrsOf d)) w w' ∧
    (∀ b c, b ∈ newsOf d → ρ' b = some c → w.heap.size ≤ c.blk ∨ ∃ b0 c0, b0 ∈ wrsOf d ∧ ρ b0 = some c0 ∧ c0.blk = c.blk)
section
variable {P : Program} {lo base : Nat} {ρ : Ren} {G : Mem?} {w : World} {a : Act} {o : Oper} {x : Val}
theorem Done.pure {v : Value} (h : Is lo base ρ G w) (hr : (execOp a.eval o).run P w = .ok (.value v) w) (hx : relV ρ x v) : Done P lo base ρ G w a o x .none :=
  ⟨_, v, w, ρ, hr, .inl rfl, hx, Ren.le_refl ρ, fun _ _ => rfl, h, Kept.refl _ _, fun b c hb => by simp [newsOf] at hb⟩
theorem Done.rd {v : Value} {b : Base} (h : Is lo base ρ G w) (hr : (execOp a.eval o).run P w = .ok (.value v) w) (hx : relV ρ x v) : Done P lo base ρ G w a o x (.rd b) :=
  ⟨_, v, w, ρ, hr, .inl rfl, hx, Ren.le_refl ρ, fun _ _ => rfl, h, Kept.refl _ _, fun b c hb => by simp [newsOf] at hb⟩
theorem Done.new {v : Value} {w' : World} {b : Base} {r : Option Base} {cs : List Val} {arr : Array Value} {ty : TypeId} {fr : Nat × Nat} {room : Nat} (h : Is lo base ρ G w) (hb : ρ b = none)
    (hr : (execOp a.eval o).run P w = .ok (.value v) w') (h1 : w'.os = w.os) (h2 : w'.tape = w.tape) (h3 : w'.output = w.output) (hw : w'.heap = w.heap.push (.cells arr ty fr))
    (hroom : room ≤ arr.size) (hl : cs.length ≤ room) (hc : ∀ i x, getAt i cs = some x → ∃ v, arr[i]? = some v ∧ cellRel ρ x v) (hf : ∀ i, i < arr.size → ¬ (fr.1 ≤ i ∧ i < fr.2)) (hsh : ∀ k, b = .hp k → cs.all shared = true)
    (hx : ∀ σ : Ren, σ b = some ⟨w.heap.size, 0, room⟩ → relV σ x v) : Done P lo base ρ G w a o x (.new r b cs) :=
  ⟨_, v, w', ρ.put b ⟨w.heap.size, 0, room⟩, hr, .inl rfl, hx _ (put_same _ _ _), put_le _ hb, fun y hy => put_ne _ _ (fun z => hy (by simp [newsOf, z])), h.new hb hroom hl hc hf hw hsh, Kept.push _ h1 h2 h3 hw, fun q c hq e => by
    simp only [newsOf, List.mem_singleton] at hq; subst hq; rw [put_same] at e; cases e; exact .inl (Nat.le_refl _)⟩
/-! ### operations whose values name no block -/
theorem det_run {α : Type} : ∀ (s : Sem α) (y : α), det P s = some y → ∀ w, s.run P w = .ok y w := by
  intro s
  induction s with
  | pure b => intro y h w; simp only [det, Option.some.injEq] at h; subst h; rfl
  | program k ih => intro y h w; exact ih P y (by simpa [det] using h) w
  | mark m k ih => intro y h w; exact ih y (by simpa [det] using h) w
  | _ => intro y h w; simp [det] at h
theorem evP_rel {T : List Val} (ht : relT ρ T a) {y : Operand} (h : (plain (ev T y)).isSome = true) : a.eval y = evP T y := by
  obtain ⟨v, hv⟩ := Option.isSome_iff_exists.1 h
  rw [plain_rel hv (ev_rel ht y)]
  simp [evP, hv]
theorem gen_ok {T : List Val} (ht : relT ρ T a) (h : Is lo base ρ G w) (hs : ∀ cs b, o.op ≠ .select cs b) (hg : genStep P T o = some x) : Done P lo base ρ G w a o x .none := by
  unfold genStep at hg
  split at hg
  · rename_i hp
    rw [List.all_eq_true] at hp
    have he : execOp a.eval o = execOp (evP T) o := execOp_congr o hs fun y hy => evP_rel ht (hp y (by simpa using hy))
    split at hg
    · rename_i v hd
      exact .pure h (by rw [he]; exact det_run _ _ hd w) (ofV_rel hg)
    · cases hg
  · cases hg
/-! ### new blocks -/
theorem zero_rel {t : TypeId} {cs : List Val} (h : zeroB P t = some cs) : ∃ i z, P.info? t = some i ∧ i.zero = some z ∧ rels (cellRel ρ) cs z.cells.toList := by
  unfold zeroB at h
  cases hi : P.info? t with
  | none => simp [hi] at h
  | some i =>
    cases hz : i.zero with
    | none => simp [hi, hz] at h
    | some z =>
      simp only [hi, hz, Option.bind_some] at h
      exact ⟨i, z, rfl, hz, mapO_of (R := cellRel ρ) (fun v x h => ofCell_rel h) h⟩
theorem rels_cell {R : Val → Value → Prop} {cs : List Val} {vs : Array Value} (h : rels R cs vs.toList) (i : Nat) (y : Val) (e : getAt i cs = some y) : ∃ v, vs[i]? = some v ∧ R y v := by
  obtain ⟨v, hv, hr⟩ := rels_get h e
  exact ⟨v, by simpa using hv, hr⟩
theorem newV_spec {l : Bool} {cs : List Val} {M : Mem} {b : Base} (h : newV l cs M = some b) : (b = bif l then .lo M.loc.length else .hp M.hp.length) ∧ (∀ k, b = .hp k → cs.all shared = true) ∧ cs.all cellLike = true := by
  unfold newV at h
  rw [Mem.top_eq] at h
  cases l
  · simp only [Bool.false_eq_true, if_false, cond_false] at h ⊢
    by_cases hc : cs.all shared = true
    · rw [if_pos hc] at h
      simp only [Option.some.injEq] at h
      refine ⟨h.symm, fun k hk => hc, ?_⟩
      rw [List.all_eq_true] at hc ⊢
      exact fun y hy => shared_like (hc y hy)
    · rw [if_neg hc] at h; cases h
  · simp only [if_true, cond_true] at h ⊢
    by_cases hc : cs.all cellLike = true
    · rw [if_pos hc] at h
      simp only [Option.some.injEq] at h
      exact ⟨h.symm, (fun k hk => by rw [hk] at h; cases h), hc⟩
    · rw [if_neg hc] at h; cases h
theorem noFr (n : Nat) : ∀ i, i < n → ¬ (((0, 0) : Nat × Nat).1 ≤ i ∧ i < ((0, 0) : Nat × Nat).2) := fun i _ z => by simp at z
theorem alloc_ok {T : List Val} {M : Mem} {t : TypeId} {l : Bool} {cs : List Val} {b : Base} (ho : o.op = .alloc t) (ht : relT ρ T a) (h : Is lo base ρ G w) (hz : zeroB P t = some cs) (hn : newV l cs M = some b) (hb : ρ b = none) :
    Done P lo base ρ G w a o (.ptr b 0) (.new none b cs) := by
  obtain ⟨i, z, hi, hzi, hr⟩ := zero_rel (ρ := ρ) hz
  obtain ⟨_, hsh, _⟩ := newV_spec hn
  refine .new (arr := z.cells) (ty := t) (fr := (0, 0)) (room := z.cells.size) (w' := { w with heap := w.heap.push (.cells z.cells t) }) (v := .pointer (some ⟨w.heap.size, 0, none⟩)) h hb ?_ rfl rfl rfl rfl (Nat.le_refl _) (by rw [rels_length hr]; simp) (rels_cell hr) (noFr _) hsh fun σ hσ => ⟨_, hσ, rfl⟩
  simp [execOp, ho, Instr.alloc, zeroValue, typeInfo, hi, hzi, newVar, newRow]
theorem box_ok {T : List Val} {M : Mem} {t : TypeId} {y : Operand} {l : Bool} {b : Base} (ho : o.op = .box t y) (ht : relT ρ T a) (h : Is lo base ρ G w) (hn : newV l (cellsOf (ev T y)) M = some b) (hb : ρ b = none) :
    Done P lo base ρ G w a o (.ptr b 0) (.new none b (cellsOf (ev T y))) := by
  obtain ⟨_, hsh, hcl⟩ := newV_spec hn
  have hr := cells_rel (ev_rel ht y) hcl
  refine .new (arr := (a.eval y).cells) (ty := t) (fr := (0, 0)) (room := (a.eval y).cells.size) (w' := { w with heap := w.heap.push (.cells (a.eval y).cells t) }) (v := .pointer (some ⟨w.heap.size, 0, none⟩)) h hb ?_ rfl rfl rfl rfl (Nat.le_refl _) (by rw [rels_length hr]; simp) (rels_cell hr) (noFr _) hsh fun σ hσ => ⟨_, hσ, rfl⟩
  simp [execOp, ho, Instr.box, newVar, newRow]
/-! ### aggregates -/
theorem putAt_spec {α : Type} : ∀ (off : Nat) (vs xs ys : List α), putAt off vs xs = some ys → vs ≠ [] → off + vs.length ≤ xs.length ∧ ys.length = xs.length ∧ ∀ k, ys[k]? = if off ≤ k ∧ k < off + vs.length then vs[k - off]? else xs[k]?
  | _, [], _, _, _, h0 => absurd rfl h0
  | 0, v :: vs, [], ys, h, _ => by simp [putAt] at h
  | 0, v :: vs, x :: xs, ys, h, _ => by
    simp only [putAt] at h
    cases e : putAt 0 vs xs with
    | none => simp [e] at h
    | some l =>
      simp only [e, Option.map_some, Option.some.injEq] at h
      subst h
      by_cases hv : vs = []
      · subst hv
        simp only [putAt, Option.some.injEq] at e
        subst e
        refine ⟨by simp, rfl, fun k => ?_⟩
        cases k with
        | zero => simp
        | succ k => simp
      · obtain ⟨h1, h2, h3⟩ := putAt_spec 0 vs xs l e hv
        refine ⟨by simp at h1 ⊢; omega, by simp [h2], fun k => ?_⟩
        cases k with
        | zero => simp
        | succ k =>
          have := h3 k
          simp only [List.getElem?_cons_succ, List.length_cons, Nat.zero_add, Nat.zero_le, true_and, Nat.sub_zero, Nat.add_lt_add_iff_right] at this ⊢
          exact this
  | off + 1, v :: vs, [], ys, h, _ => by simp [putAt] at h
  | off + 1, v :: vs, x :: xs, ys, h, _ => by
    simp only [putAt] at h
    cases e : putAt off (v :: vs) xs with
    | none => simp [e] at h
    | some l =>
      simp only [e, Option.map_some, Option.some.injEq] at h
      subst h
      obtain ⟨h1, h2, h3⟩ := putAt_spec off (v :: vs) xs l e (by simp)
      refine ⟨by simp at h1 ⊢; omega, by simp [h2], fun k => ?_⟩
      cases k with
      | zero => simp
      | succ k =>
        have := h3 k
        simp only [List.getElem?_cons_succ, this]
        by_cases hk : off ≤ k ∧ k < off + (v :: vs).length
        · rw [if_pos hk, if_pos (by omega), show k + 1 - (off + 1) = k - off by omega]
        · rw [if_neg hk, if_neg (by omega)]
/-- What a row is with cells put at a place. -/
def Put (off : Nat) (us : List Value) (arr arr' : Array Value) : Prop := arr'.size = arr.size ∧ ∀ k, arr'[k]? = if off ≤ k ∧ k < off + us.length then us[k - off]? else arr[k]?
theorem Put.cons {off : Nat} {u : Value} {us : List Value} {arr arr' : Array Value} (hlt : off < arr.size) (h : Put (off + 1) us (arr.setIfInBounds off u) arr') : Put off (u :: us) arr arr' := by
  refine ⟨by simpa using h.1, fun k => ?_⟩
  rw [h.2 k]
  by_cases hk : off + 1 ≤ k ∧ k < off + 1 + us.length
  · rw [if_pos hk, if_pos (by simp; omega), show k - off = (k - (off + 1)) + 1 by omega, List.getElem?_cons_succ]
  · rw [if_neg hk]
    by_cases h0 : k = off
    · subst h0; rw [if_pos (by simp)]; simp [hlt]
    · rw [if_neg (by simp; omega), Array.getElem?_setIfInBounds_ne (fun z => h0 z.symm)]
theorem foldl_put (off : Nat) : ∀ (us : List Value) (j : Nat) (arr : Array Value), off + j + us.length ≤ arr.size → Put (off + j) us arr ((us.zipIdx j).foldl (fun cs p => cs.setIfInBounds (off + p.2) p.1) arr)
  | [], j, arr, _ => ⟨by simp, fun k => by rw [if_neg (by simp)]; simp⟩
  | u :: us, j, arr, h => by
    simp only [List.zipIdx_cons, List.foldl_cons]
    exact Put.cons (by simp at h; omega) (by have := foldl_put off us (j + 1) (arr.setIfInBounds (off + j) u) (by simp at h ⊢; omega); rwa [← Nat.add_assoc] at this)
theorem rels_put {R : Val → Value → Prop} {off : Nat} {vs xs ys : List Val} {us : List Value} {arr arr' : Array Value} (hp : putAt off vs xs = some ys) (h0 : vs ≠ []) (hv : rels R vs us) (hx : rels R xs arr.toList) (h : Put off us arr arr') : rels R ys arr'.toList := by
  obtain ⟨h1, h2, h3⟩ := putAt_spec _ _ _ _ hp h0
  have l1 := rels_length hv
  have l2 := rels_length hx
  refine rels_of_get (by simp [h2, h.1, l2]) fun i y e => ?_
  rw [h3 i] at e
  have := h.2 i
  rw [← l1] at this
  simp only [Array.getElem?_toList, this]
  split at e
  · rename_i hi
    rw [if_pos hi]
    exact rels_get hv ((getAt_eq _ _).trans e)
  · rename_i hi
    rw [if_neg hi]
    obtain ⟨v, hv, hr⟩ := rels_get hx ((getAt_eq _ _).trans e)
    exact ⟨v, by simpa using hv, hr⟩
theorem fill_rel {place : Nat → Option (Nat × Nat)} {T : List Val} (ht : relT ρ T a) : ∀ {ps : List (Nat × Operand)} {cs cs' : List Val} {arr : Array Value}, rels (cellRel ρ) cs arr.toList →
    fillV place cs (ps.map fun p => (p.1, ev T p.2)) = some cs' → ∃ arr', Instr.fill place arr (ps.map fun p => (p.1, a.eval p.2)) = some arr' ∧ rels (cellRel ρ) cs' arr'.toList
  | [], cs, cs', arr, h, e => by simp only [List.map_nil, fillV, Option.some.injEq] at e; subst e; exact ⟨arr, rfl, h⟩
  | (i, y) :: ps, cs, cs', arr, h, e => by
    simp only [List.map_cons, fillV] at e
    cases hp : place i with
    | none => simp [hp] at e
    | some q =>
      obtain ⟨off, size⟩ := q
      simp only [hp] at e
      by_cases hc : (cellsOf (ev T y)).length = size ∧ 0 < size ∧ (cellsOf (ev T y)).all cellLike
      · rw [if_pos hc] at e
        cases hu : putAt off (cellsOf (ev T y)) cs with
        | none => simp [hu] at e
        | some c2 =>
          simp only [hu, Option.bind_some] at e
          have hr := cells_rel (ev_rel ht y) hc.2.2
          have hl := rels_length hr
          have hne : cellsOf (ev T y) ≠ [] := fun z => by rw [z] at hc; simp at hc; omega
          obtain ⟨h1, h2, h3⟩ := putAt_spec _ _ _ _ hu hne
          have hlen := rels_length h
          have hput := foldl_put off (a.eval y).cells.toList 0 arr (by simp at hl hlen ⊢; omega)
          have hr2 := rels_put hu hne hr h hput
          obtain ⟨arr', he, hr3⟩ := fill_rel ht hr2 e
          refine ⟨arr', ?_, hr3⟩
          simp only [List.map_cons, Instr.fill, hp]
          rw [if_neg (by simp at hl hlen ⊢; omega)]
          rw [← Array.foldl_toList]
          rw [← he]
          congr 1
          simp [Array.toList_zipIdx]
      · rw [if_neg hc] at e; cases e
theorem mapM_eq {α β : Type} (f : α → Option β) : ∀ l : List α, l.mapM f = mapO f l
  | [] => rfl
  | x :: xs => by simp only [List.mapM_cons, mapO, mapM_eq f xs]; cases f x <;> simp [Option.map_eq_bind]; rfl
theorem build_ok {T : List Val} {t : TypeId} {ps : Array (Nat × Operand)} {z cs : List Val} {pl : Nat → Option (Nat × Nat)} (ho : o.op = .build t ps) (ht : relT ρ T a) (h : Is lo base ρ G w) (hz : zeroB P t = some z) (hp : placeV P t = some pl)
    (hf : fillV pl z (partsV T ps) = some cs) : Done P lo base ρ G w a o (.agg cs) .none := by
  obtain ⟨i, zv, hi, hzi, hr⟩ := zero_rel (ρ := ρ) hz
  obtain ⟨arr', he, hr2⟩ := fill_rel ht hr hf
  have hb : P.built t (ps.map fun p => (p.1, a.eval p.2)).toList = some arr' := by
    simp only [Program.built, hi]
    unfold placeV at hp
    cases hu : P.underlying t with
    | none => simp [hu] at hp
    | some d =>
      cases d <;> simp only [hu] at hp
      case struct fs =>
        cases hm : mapO (fun f : Field => (sizeB P f.type).map fun n => (f.offset, n)) fs.toList with
        | none => simp [hm] at hp
        | some l =>
          simp only [hm, Option.map_some, Option.some.injEq] at hp
          subst hp
          have hm2 : fs.toList.mapM (fun f => (P.info? f.type).map fun i => (f.offset, i.size)) = some l := by
            rw [mapM_eq, ← hm]
            congr 1
            funext f
            simp [sizeB, Option.map_map, Function.comp_def]
          simp only [hzi, hm2]
          rw [Array.toList_map]
          rw [← he]
          congr 1
          funext i
          simp [getAt_eq]
      case array n e =>
        cases hs : sizeB P e with
        | none => simp [hs] at hp
        | some s =>
          simp only [hs, Option.map_some, Option.some.injEq] at hp
          subst hp
          unfold sizeB at hs
          cases hie : P.info? e with
          | none => simp [hie] at hs
          | some ie =>
            simp only [hie, Option.map_some, Option.some.injEq] at hs
            subst hs
            simp only [hzi]
            rw [Array.toList_map]
            simp only [hie]
            exact he
      all_goals cases hp
  refine .pure h (v := .agg arr') ?_ ⟨arr', rfl, hr2⟩
  simp only [execOp, ho]
  have := run_build (P := P) w t _ _ hb
  simp only [Sem.run_bind, this, Result.andThen_ok]
  rfl
end
end Go.Proofs.YtponkdimnafppaaDoor.VM
