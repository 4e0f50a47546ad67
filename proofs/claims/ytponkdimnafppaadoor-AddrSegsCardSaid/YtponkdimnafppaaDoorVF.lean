/- A plain machine for the program's functions: more of its single steps. -/
import Derived.Test.YtponkdimnafppaaDoorVE
namespace Go.Proofs.YtponkdimnafppaaDoor.VM
open Go
set_option linter.unusedVariables false
set_option linter.unusedSimpArgs false
section
variable {P : Program} {lo base : Nat} {ρ : Ren} {G : Mem?} {w : World} {a : Act} {o : Oper} {x : Val}
theorem ev_ptr {T : List Val} (ht : relT ρ T a) {y : Operand} {b : Base} {off : Nat} (e : ev T y = .ptr b off) : ∃ c, ρ b = some c ∧ a.eval y = .pointer (some ⟨c.blk, c.off + off, none⟩) := by
  have := ev_rel ht y
  rw [e] at this
  exact this
theorem ev_int {T : List Val} (ht : relT ρ T a) {y : Operand} {k : IntKind} {n : Int} (e : ev T y = .int k n) : a.eval y = .int k n := by
  have := ev_rel ht y
  rw [e] at this
  exact this
theorem ev_agg {T : List Val} (ht : relT ρ T a) {y : Operand} {cs : List Val} (e : ev T y = .agg cs) : ∃ l, a.eval y = .agg l ∧ rels (cellRel ρ) cs l.toList := by
  have := ev_rel ht y
  rw [e] at this
  exact this
theorem ev_str {T : List Val} (ht : relT ρ T a) {y : Operand} {s : ByteArray} (e : ev T y = .str s) : a.eval y = .string s := by
  have := ev_rel ht y
  rw [e] at this
  exact this
theorem ev_bool {T : List Val} (ht : relT ρ T a) {y : Operand} {s : Bool} (e : ev T y = .bool s) : a.eval y = .bool s := by
  have := ev_rel ht y
  rw [e] at this
  exact this
theorem ev_sl {T : List Val} (ht : relT ρ T a) {y : Operand} {b : Base} {off len esz : Nat} (e : ev T y = .sl b off len esz) : ∃ c ad cap, ρ b = some c ∧ a.eval y = .slice (some ad) len cap ∧ len ≤ cap ∧ off + cap * esz ≤ c.room ∧ (ad = ⟨c.blk, c.off + off, none⟩ ∨ cap = 0) := by
  have := ev_rel ht y
  rw [e] at this
  exact this
theorem move_ok {T : List Val} {y : Operand} (ho : o.op = .move y ∨ o.op = .assign y) (ht : relT ρ T a) (h : Is lo base ρ G w) : Done P lo base ρ G w a o (ev T y) .none := by
  refine .pure h (v := a.eval y) ?_ (ev_rel ht y)
  rcases ho with ho | ho <;> simp [execOp, ho]
theorem pickV_rel {t : Bool} {p q x : Val} {u v : Value} (h : pickV t p q = some x) (hp : relV ρ p u) (hq : relV ρ q v) : relV ρ x (if t = true then u else v) := by
  unfold pickV at h
  split at h
  · rename_i k a k' b
    simp only [relV, relD, cellRel] at hp hq
    subst hp; subst hq
    by_cases hk : k = k'
    · subst hk
      rw [if_pos rfl] at h
      simp only [Option.some.injEq] at h; subst h; cases t <;> rfl
    · rw [if_neg hk] at h
      cases t <;> (simp at h; subst h; rfl)
  · simp only [Option.some.injEq] at h; subst h
    simp only [relV, relD, cellRel] at hp hq
    subst hp; subst hq
    cases t <;> rfl
  · simp only [Option.some.injEq] at h; subst h
    simp only [relV, relD, cellRel] at hp hq
    subst hp; subst hq
    cases t <;> rfl
  · cases t
    · simp at h; subst h; simpa using hq
    · simp at h; subst h; simpa using hp
theorem pick_ok {T : List Val} {c y z : Operand} {t : Bool} (ho : o.op = .pick c y z) (ht : relT ρ T a) (h : Is lo base ρ G w) (hc : ev T c = .bool t) (hx : pickV t (ev T y) (ev T z) = some x) : Done P lo base ρ G w a o x .none := by
  refine .pure h (v := if t = true then a.eval y else a.eval z) ?_ (pickV_rel hx (ev_rel ht y) (ev_rel ht z))
  simp only [execOp, ho, ev_bool ht hc, asBool]
  cases t <;> rfl
theorem repeat_rel {R : Val → Value → Prop} {z : List Val} {zs : List Value} (h : rels R z zs) : ∀ n, rels R (repeatV n z) (List.replicate n zs).flatten
  | 0 => trivial
  | n + 1 => by
    have app : ∀ (p : List Val) (q : List Value) (p' : List Val) (q' : List Value), rels R p q → rels R p' q' → rels R (p ++ p') (q ++ q') := by
      intro p
      induction p with
      | nil => intro q p' q' h1 h2; cases q with | nil => exact h2 | cons => exact h1.elim
      | cons y ys ih => intro q p' q' h1 h2; cases q with | nil => exact h1.elim | cons v vs => exact ⟨h1.1, ih vs p' q' h1.2 h2⟩
    simp only [repeatV, List.replicate_succ, List.flatten_cons]
    exact app _ _ _ _ h (repeat_rel h n)
theorem made_list (z : Array Value) : ∀ n, (madeCells z (n * z.size)).toList = (List.replicate n z.toList).flatten
  | 0 => by simp [madeCells]
  | n + 1 => by
    rw [List.replicate_succ', List.flatten_append, ← made_list z n]
    simp only [madeCells, Array.toList_map, Array.toList_range, Nat.succ_mul, List.range_add, List.map_append, List.flatten_cons, List.flatten_nil, List.append_nil, List.map_map]
    congr 1
    apply List.ext_getElem?
    intro i
    by_cases hi : i < z.size
    · simp [hi, Nat.add_mod, Nat.mod_eq_of_lt hi]
    · simp [hi, Nat.not_lt.1 hi]
theorem range0 (f : Nat → Value) : Array.map f (Array.range 0) = #[] := Array.ext' (by simp)
theorem buildSlice_ok {T : List Val} {M : Mem} {t e : TypeId} {n s : Nat} {ps : Array (Nat × Operand)} {z cs : List Val} {b : Base} {l : Bool} (ho : o.op = .buildSlice t n ps) (ht : relT ρ T a) (h : Is lo base ρ G w) (he : elemB P t = some e) (hs : sizeB P e = some s)
    (hz : zeroB P e = some z) (hc : 0 < s ∧ z.length = s ∧ n * s ≤ 16777216) (hf : fillV (fun i => some (i * s, s)) (repeatV n z) (partsV T ps) = some cs) (hn : newV l cs M = some b) (hb : ρ b = none) :
    Done P lo base ρ G w a o (.sl b 0 n s) (.new none b cs) := by
  obtain ⟨h0, hzl, h24⟩ := hc
  obtain ⟨i, zv, hi, hzi, hr⟩ := zero_rel (ρ := ρ) hz
  have hsz : zv.cells.size = s := by have := rels_length hr; simp at this; omega
  have hrep : rels (cellRel ρ) (repeatV n z) (madeCells zv.cells (n * s)).toList := by
    rw [← hsz, made_list]; exact repeat_rel hr n
  obtain ⟨arr', hfill, hr2⟩ := fill_rel ht hrep hf
  obtain ⟨_, hsh, _⟩ := newV_spec hn
  have hlen : cs.length = n * s := by
    have : ∀ (ps : List (Nat × Val)) (c c' : List Val), fillV (fun i => some (i * s, s)) c ps = some c' → c'.length = c.length := by
      intro ps
      induction ps with
      | nil => intro c c' e; simp only [fillV, Option.some.injEq] at e; rw [e]
      | cons p ps ih =>
        intro c c' e
        obtain ⟨i, v⟩ := p
        simp only [fillV] at e
        split at e
        · rename_i hc
          cases hu : putAt (i * s) (cellsOf v) c with
          | none => simp [hu] at e
          | some c2 =>
            simp only [hu, Option.bind_some] at e
            rw [ih c2 c' e]
            exact (putAt_spec _ _ _ _ hu (fun z => by rw [z] at hc; simp at hc; omega)).2.1
        · cases e
    rw [this _ _ _ hf, rels_length hrep]
    simp [madeCells]
  have hsize := rels_length hr2
  simp at hsize
  have hu : P.underlying t = some (.slice e) := by
    unfold elemB at he
    cases hd : P.underlying t with
    | none => simp [hd] at he
    | some d => cases d <;> simp [hd] at he; subst he; rfl
  refine .new (arr := arr') (ty := e) (fr := (0, 0)) (room := n * s) (w' := { w with heap := w.heap.push (.cells arr' e) }) (v := .slice (some ⟨w.heap.size, 0, none⟩) n n) h hb ?_ rfl rfl rfl rfl (by omega) (by omega) (rels_cell hr2) (noFr _) hsh fun σ hσ => ⟨_, _, n, hσ, rfl, Nat.le_refl _, by simp, .inl (by simp)⟩
  have hfill2 : Instr.fill (fun i => some (i * s, s)) (Array.map (fun x => zv.cells[x % zv.cells.size]!) (Array.range (n * s))) (List.map (fun p => (p.fst, a.eval p.snd)) ps.toList) = some arr' := hfill
  simp only [execOp, ho, Instr.buildSlice, Sem.run_bind, run_underlying hu, Result.andThen_ok, sizeB_run hs]
  rw [if_neg (by simp; omega)]
  by_cases hn0 : n * s = 0
  · have hfill3 : Instr.fill (fun i => some (i * s, s)) #[] (List.map (fun p => (p.fst, a.eval p.snd)) ps.toList) = some arr' := by
      rw [hn0, range0] at hfill2; exact hfill2
    simp [hn0, Array.toList_map, range0, hfill3, newRow]
  · rw [if_neg hn0]
    simp [zeroValue, typeInfo, hi, hzi, Array.toList_map, hfill2, newRow]
theorem load_ok {T : List Val} {M : Mem} {t : TypeId} {y : Operand} {b : Base} {off : Nat} (ho : o.op = .load t y) (ht : relT ρ T a) (h : Is lo base ρ G w) (hy : ev T y = .ptr b off) (hg : (ρ b).isSome = true → G b = M.get b) (hx : readV P M t b off = some x) :
    Done P lo base ρ G w a o x (.rd b) := by
  obtain ⟨c, hc, he⟩ := ev_ptr ht hy
  unfold readV at hx
  cases hm : M.get b with
  | none => simp [hm] at hx
  | some cs =>
    simp only [hm, Option.bind_some] at hx
    obtain ⟨v, hr, hv⟩ := read_ok (P := P) (h.at' b c cs hc ((hg (by simp [hc])).trans hm)) hx
    refine .rd h (v := v) ?_ (relV_of_relD hv)
    simp [execOp, ho, Instr.loadAt, he, Instr.sureAddr, hr]
theorem store_run {P : Program} {g o : Nat} {ty : TypeId} {fr : Nat × Nat} : ∀ (us : List Value) (i : Nat) (arr : Array Value) (w : World), w.heap[g]? = some (.cells arr ty fr) → (∀ i, i < arr.size → ¬ (fr.1 ≤ i ∧ i < fr.2)) → o + i + us.length ≤ arr.size →
    (∀ u ∈ us, u.oneCell' = true) → ∃ arr', Put (o + i) us arr arr' ∧ (storeCells ⟨g, o, none⟩ us i).run P w = .ok () (w.setRow g arr')
  | [], i, arr, w, hg, _, _, _ => ⟨arr, ⟨rfl, fun k => by rw [if_neg (by simp)]⟩, by rw [setRow_self w g arr ty fr hg]; rfl⟩
  | u :: us, i, arr, w, hg, hf, hl, h1 => by
    have hi : o + i < arr.size := by simp at hl; omega
    have hcell : w.cell? ⟨g, o + i, none⟩ = some arr[o + i] := by simp [World.cell?, hg, hi]
    have hfro : w.frozen? ⟨g, o + i, none⟩ = false := by
      have := hf (o + i) hi
      simp only [World.frozen?, hg]
      cases hd : (decide (fr.1 ≤ o + i) && decide (o + i < fr.2))
      · rfl
      · exact absurd (by simpa using hd) this
    have hst : (store ((⟨g, o, none⟩ : Addr).add i) u).run P w = .ok () (w.setRow g (arr.setIfInBounds (o + i) u)) := by
      rw [addr_add, run_store P w _ u _ (h1 u (by simp)), hcell]
      simp [hfro, setCell_eq_setRow w g (o + i) arr ty fr u hg]
    obtain ⟨arr', hp, hr⟩ := store_run (P := P) (g := g) (o := o) us (i + 1) (arr.setIfInBounds (o + i) u) (w.setRow g (arr.setIfInBounds (o + i) u)) (setRow_heap w g arr _ ty _ hg) (by simpa using hf) (by simp at hl ⊢; omega) (fun x hx => h1 x (by simp [hx]))
    refine ⟨arr', Put.cons hi hp, ?_⟩
    simp only [storeCells, Sem.run_bind, hst, Result.andThen_ok, hr, setRow_setRow]
theorem mayWrite_wr {b : Base} (h : mayWrite lo b = true) : wr lo b := by
  cases b with
  | lo k => trivial
  | hp k => exact Nat.le_of_ble_eq_true h
theorem store_ok {T : List Val} {M : Mem} {t : TypeId} {y z : Operand} {b : Base} {off : Nat} {d : D} (ho : o.op = .store t y z) (ht : relT ρ T a) (h : Is lo base ρ G w) (hy : ev T y = .ptr b off) (hg : (ρ b).isSome = true → G b = M.get b) (hx : writeV P lo M t b off (ev T z) = some d) :
    Done P lo base ρ G w a o (.tup []) d := by
  obtain ⟨c, hc, he⟩ := ev_ptr ht hy
  unfold writeV at hx
  by_cases hcond : mayWrite lo b = true ∧ sizeB P t = some (cellsOf (ev T z)).length ∧ 0 < (cellsOf (ev T z)).length ∧ (cellsOf (ev T z)).all (likeOf b) = true
  · rw [if_pos hcond] at hx
    obtain ⟨hw, hs, h0, hl⟩ := hcond
    have hl2 : (cellsOf (ev T z)).all cellLike = true := by
      cases b with
      | lo k => exact hl
      | hp k => rw [List.all_eq_true] at hl ⊢; exact fun y hy => shared_like (hl y hy)
    have hr := cells_rel (ev_rel ht z) hl2
    cases hm : M.get b with
    | none => simp [hm] at hx
    | some cs =>
      cases hu : putAt off (cellsOf (ev T z)) cs with
      | none => simp [hm, hu] at hx
      | some cs' =>
        simp [hm, hu] at hx
        subst hx
        have hG := (hg (by simp [hc])).trans hm
        obtain ⟨arr, ty, fr, h1, h2, h3, h4, h5⟩ := h.at' b c cs hc hG
        obtain ⟨hbase, hroom, hfr⟩ := h5 (mayWrite_wr hw)
        have hne : cellsOf (ev T z) ≠ [] := fun q => by rw [q] at h0; simp at h0
        obtain ⟨p1, p2, p3⟩ := putAt_spec _ _ _ _ hu hne
        have hlen := rels_length hr
        have hone : ∀ (xs : List Val) (us : List Value), rels (cellRel ρ) xs us → ∀ u ∈ us, u.oneCell' = true := by
          intro xs
          induction xs with
          | nil => intro us r u hu; cases us with | nil => cases hu | cons => exact r.elim
          | cons q qs ih => intro us r u hu; cases us with
            | nil => cases hu
            | cons v vs => rcases List.mem_cons.1 hu with rfl | hm; exact cellRel_one r.1; exact ih vs r.2 u hm
        obtain ⟨arr', hp, hrun⟩ := store_run (P := P) (g := c.blk) (o := c.off + off) (a.eval z).cells.toList 0 arr w h1 hfr (by simp at hlen ⊢; omega) (hone _ _ hr)
        have hsz : (sizeOf t).run P w = .ok (a.eval z).cells.size w := by rw [sizeB_run hs]; simp at hlen; rw [hlen]
        refine ⟨.skip, undef, w.setRow c.blk arr', ρ, ?_, .inr ⟨rfl, rfl⟩, ⟨#[], rfl, trivial⟩, Ren.le_refl ρ, fun _ _ => rfl, ?_, Kept.setRow _ _ _ ⟨b, c, hc, by simp [wrsOf], rfl⟩, fun b c hb => by simp [newsOf] at hb⟩
        · simp [execOp, ho, Instr.storeAt, he, Instr.sureAddr, storeVar, hsz, hrun]
        · refine h.write hc hG (mayWrite_wr hw) p2 h1 hp.1 (fun i y e => ?_) (fun k hk => ?_)
          · rw [getAt_eq, p3 i] at e
            have h6 := hp.2 (c.off + i)
            simp only [Nat.add_zero] at h6
            rw [h6]
            split at e
            · rename_i hi
              rw [if_pos (by simp at hlen ⊢; omega), show c.off + i - (c.off + off) = i - off by omega]
              exact rels_get hr ((getAt_eq _ _).trans e)
            · rename_i hi
              rw [if_neg (by simp at hlen ⊢; omega)]
              exact h4 i y ((getAt_eq _ _).trans e)
          · subst hk
            have hs1 := h.sh k c cs hc hG
            simp only [List.all_eq_true] at hs1 hl ⊢
            intro y hy
            obtain ⟨i, hi, e⟩ := List.getElem_of_mem hy
            have e2 : cs'[i]? = some y := by rw [List.getElem?_eq_getElem hi, e]
            rw [p3 i] at e2
            split at e2
            · exact hl y (List.mem_of_getElem? e2)
            · exact hs1 y (List.mem_of_getElem? e2)
  · rw [if_neg hcond] at hx; cases hx
theorem nilCheck_ok {T : List Val} {y : Operand} {b : Base} {off : Nat} (ho : o.op = .nilCheck y) (ht : relT ρ T a) (h : Is lo base ρ G w) (hy : ev T y = .ptr b off) : Done P lo base ρ G w a o (.ptr b off) .none := by
  obtain ⟨c, hc, he⟩ := ev_ptr ht hy
  refine .pure h (v := a.eval y) ?_ (by rw [he]; exact ⟨c, hc, rfl⟩)
  simp [execOp, ho, he]
theorem fieldAddr_ok {T : List Val} {s : TypeId} {y : Operand} {f n : Nat} {b : Base} {off : Nat} {fd : Field} (ho : o.op = .fieldAddr s y f) (ht : relT ρ T a) (h : Is lo base ρ G w) (hy : ev T y = .ptr b off) (hf : fieldB P s f = some fd) (hs : sizeB P fd.type = some (n + 1)) :
    Done P lo base ρ G w a o (.ptr b (off + fd.offset)) .none := by
  obtain ⟨c, hc, he⟩ := ev_ptr ht hy
  unfold fieldB at hf
  cases hu : P.underlying s with
  | none => simp [hu] at hf
  | some d =>
    cases d <;> simp only [hu] at hf
    case struct fs =>
      refine .pure h (v := .pointer (some ⟨c.blk, c.off + (off + fd.offset), none⟩)) ?_ ⟨c, hc, rfl⟩
      simp [execOp, ho, Instr.fieldAt, run_underlying hu, hf, he, Instr.sureAddr, fieldPlace, sizeB_run hs, addr_add, Nat.add_assoc]
    all_goals cases hf
theorem part_ok {t : TypeId} {cs : List Val} {l : Array Value} {off : Nat} (hl : rels (cellRel ρ) cs l.toList) (h : partV P t cs off = some x) (w : World) : ∃ v, (part t l off).run P w = .ok v w ∧ relD ρ x v := by
  unfold partV at h
  cases ha : aggB P t with
  | none => simp [ha] at h
  | some g =>
    cases hs : sizeB P t with
    | none => simp [ha, hs] at h
    | some n =>
      cases g
      · simp only [ha, hs] at h
        obtain ⟨v, hv, hr⟩ := rels_get hl h
        refine ⟨v, ?_, relD_of_cell hr⟩
        have hv2 : l[off]? = some v := by simpa using hv
        simp [part, aggB_run ha, hv2]
      · simp only [ha, hs] at h
        cases hp : part? off n cs with
        | none => simp [hp] at h
        | some ys =>
          simp only [hp, Option.map_some, Option.some.injEq] at h
          subst h
          refine ⟨.agg (l.extract off (off + n)), by simp [part, aggB_run ha, sizeB_run hs], _, rfl, ?_⟩
          have hlen := rels_length hl
          refine rels_of_get ?_ fun i y e => ?_
          · rcases part_spec hp with z | ⟨z, rfl⟩
            · simp at hlen ⊢; omega
            · subst z; simp
          · have hi : i < n := by
              have := (List.getElem?_eq_some_iff.1 e).1
              rcases part_spec hp with z | ⟨z, rfl⟩
              · omega
              · simp at this
            rw [part_get hp i hi] at e
            obtain ⟨v, hv, hr⟩ := rels_get hl ((getAt_eq _ _).trans e)
            refine ⟨v, ?_, hr⟩
            rw [Array.toList_extract, List.extract_eq_take_drop, List.getElem?_take_of_lt (by omega), List.getElem?_drop]
            exact hv
theorem field_ok {T : List Val} {t : TypeId} {y : Operand} {f : Nat} {cs : List Val} {fd : Field} (ho : o.op = .field t y f) (ht : relT ρ T a) (h : Is lo base ρ G w) (hy : ev T y = .agg cs) (hf : fieldB P t f = some fd) (hx : partV P fd.type cs fd.offset = some x) :
    Done P lo base ρ G w a o x .none := by
  obtain ⟨l, he, hl⟩ := ev_agg ht hy
  obtain ⟨v, hr, hv⟩ := part_ok hl hx w
  unfold fieldB at hf
  cases hu : P.underlying t with
  | none => simp [hu] at hf
  | some d =>
    cases d <;> simp only [hu] at hf
    case struct fs =>
      refine .pure h (v := v) ?_ (relV_of_relD hv)
      simp [execOp, ho, Instr.field, run_underlying hu, hf, he, asAgg, hr]
    all_goals cases hf
theorem extract_ok {T : List Val} {y : Operand} {i : Nat} {vs : List Val} (ho : o.op = .extract y i) (ht : relT ρ T a) (h : Is lo base ρ G w) (hy : ev T y = .tup vs) (hx : getAt i vs = some x) : Done P lo base ρ G w a o x .none := by
  have := ev_rel ht y
  rw [hy] at this
  obtain ⟨l, he, hl⟩ := this
  obtain ⟨v, hv, hr⟩ := rels_cell hl i x hx
  refine .pure h (v := v) ?_ (relV_of_relD hr)
  simp [execOp, ho, Instr.extract, he, hv]
end
end Go.Proofs.YtponkdimnafppaaDoor.VM
