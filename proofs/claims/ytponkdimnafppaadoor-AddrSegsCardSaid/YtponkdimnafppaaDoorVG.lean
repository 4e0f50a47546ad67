/- A plain machine for the program's functions: indexes, slices, conversions and what is put behind slices. -/
import Derived.Test.YtponkdimnafppaaDoorVF
namespace Go.Proofs.YtponkdimnafppaaDoor.VM
open Go
set_option linter.unusedVariables false
set_option linter.unusedSimpArgs false
section
variable {P : Program} {lo base : Nat} {ρ : Ren} {G : Mem?} {w : World} {a : Act} {o : Oper} {x : Val}
theorem info_size {e : TypeId} {n : Nat} (h : sizeB P e = some n) : ∃ i, P.info? e = some i ∧ i.size = n := by
  unfold sizeB at h
  cases hi : P.info? e with
  | none => simp [hi] at h
  | some i => simp [hi] at h; exact ⟨i, rfl, h⟩
theorem indexSl_ok {T : List Val} {t e : TypeId} {y z : Operand} {b : Base} {off len esz : Nat} {k : IntKind} {i : Int} (ho : o.op = .indexAddr t y z) (ht : relT ρ T a) (h : Is lo base ρ G w) (hy : ev T y = .sl b off len esz) (hz : ev T z = .int k i) (hu : P.underlying t = some (.slice e))
    (hi : 0 ≤ i ∧ i < len ∧ sizeB P e = some esz) : Done P lo base ρ G w a o (.ptr b (off + i.toNat * esz)) .none := by
  obtain ⟨c, ad, cap, hc, he, hl, hroom, had⟩ := ev_sl ht hy
  obtain ⟨h0, h1, hs⟩ := hi
  have : ad = ⟨c.blk, c.off + off, none⟩ := had.resolve_right (by omega)
  subst this
  refine .pure h (v := .pointer (some ⟨c.blk, c.off + (off + i.toNat * esz), none⟩)) ?_ ⟨c, hc, rfl⟩
  simp [execOp, ho, Instr.indexAt, ev_int ht hz, he, asIntOf, run_underlying hu, h0, h1, sizeB_run hs, addr_add, Nat.add_assoc]
theorem indexArr_ok {T : List Val} {t e : TypeId} {y z : Operand} {b : Base} {off n esz : Nat} {k : IntKind} {i : Int} (ho : o.op = .indexAddr t y z) (ht : relT ρ T a) (h : Is lo base ρ G w) (hy : ev T y = .ptr b off) (hz : ev T z = .int k i) (hu : P.underlying t = some (.array n e))
    (hs : sizeB P e = some esz) (hi : 0 ≤ i ∧ i < n) : Done P lo base ρ G w a o (.ptr b (off + i.toNat * esz)) .none := by
  obtain ⟨c, hc, he⟩ := ev_ptr ht hy
  obtain ⟨h0, h1⟩ := hi
  refine .pure h (v := .pointer (some ⟨c.blk, c.off + (off + i.toNat * esz), none⟩)) ?_ ⟨c, hc, rfl⟩
  simp [execOp, ho, Instr.indexAt, ev_int ht hz, he, asIntOf, run_underlying hu, h0, h1, Instr.sureAddr, sizeB_run hs, addr_add, Nat.add_assoc]
theorem indexStr_ok {T : List Val} {t : TypeId} {y z : Operand} {s : ByteArray} {k : IntKind} {i : Int} (ho : o.op = .index t y z) (ht : relT ρ T a) (h : Is lo base ρ G w) (hy : ev T y = .str s) (hz : ev T z = .int k i) (hu : P.underlying t = some .string)
    (hi : 0 ≤ i ∧ i < s.size) : Done P lo base ρ G w a o (.int .u8 ((s.data.toList.getD i.toNat 0).toNat)) .none := by
  obtain ⟨h0, h1⟩ := hi
  have hlt : i.toNat < s.size := by omega
  refine .pure h (v := .int .u8 ((s.data.toList.getD i.toNat 0).toNat)) ?_ rfl
  have hg : s[i.toNat]? = some (s.data.toList.getD i.toNat 0) := by
    have : i.toNat < s.data.size := hlt
    rw [getElem?_pos s i.toNat hlt, show s[i.toNat] = s.data[i.toNat] from rfl]
    rw [List.getD_eq_getElem?_getD, Array.getElem?_toList, Array.getElem?_eq_getElem this]
    rfl
  simp [execOp, ho, Instr.index, ev_int ht hz, ev_str ht hy, asIntOf, run_underlying hu, h0, hg]
theorem indexAgg_ok {T : List Val} {t e : TypeId} {y z : Operand} {cs : List Val} {n esz : Nat} {k : IntKind} {i : Int} (ho : o.op = .index t y z) (ht : relT ρ T a) (h : Is lo base ρ G w) (hy : ev T y = .agg cs) (hz : ev T z = .int k i) (hu : P.underlying t = some (.array n e))
    (hs : sizeB P e = some esz) (hi : 0 ≤ i ∧ i < n) (hx : partV P e cs (i.toNat * esz) = some x) : Done P lo base ρ G w a o x .none := by
  obtain ⟨l, he, hl⟩ := ev_agg ht hy
  obtain ⟨v, hr, hv⟩ := part_ok hl hx w
  obtain ⟨h0, h1⟩ := hi
  refine .pure h (v := v) ?_ (relV_of_relD hv)
  simp [execOp, ho, Instr.index, ev_int ht hz, he, asIntOf, run_underlying hu, h0, h1, sizeB_run hs, hr]
theorem len_ok {T : List Val} {c : Call} {t : TypeId} {ts : List TypeId} {y : Operand} {b : Base} {off len esz : Nat} (ho : o.op = .call c) (hc : c.callee = .builtin .len) (ht : relT ρ T a) (h : Is lo base ρ G w) (ha : c.args.toList = [y]) (hy : ev T y = .sl b off len esz) (hts : c.argTypes.toList = t :: ts) {e : TypeId} (hu : P.underlying t = some (.slice e)) :
    Done P lo base ρ G w a o (.int .i64 len) .none := by
  obtain ⟨k, ad, cap, hk, he, hl, hroom, had⟩ := ev_sl ht hy
  refine .pure h (v := .int .i64 len) ?_ rfl
  have h1 : c.args.map a.eval = #[a.eval y] := by apply Array.ext'; simp [ha]
  have h2 : c.argTypes[0]? = some t := by rw [← Array.getElem?_toList, hts]; rfl
  simp [execOp, ho, resolve, hc, invoke, builtin, h1, he, Builtin.len_, h2, run_underlying hu, goInt]
theorem lenNil_ok {T : List Val} {c : Call} {t : TypeId} {ts : List TypeId} {y : Operand} (ho : o.op = .call c) (hc : c.callee = .builtin .len) (ht : relT ρ T a) (h : Is lo base ρ G w) (ha : c.args.toList = [y]) (hy : ev T y = .nils) (hts : c.argTypes.toList = t :: ts) {e : TypeId} (hu : P.underlying t = some (.slice e)) :
    Done P lo base ρ G w a o (.int .i64 0) .none := by
  have he : a.eval y = .slice none 0 0 := by have := ev_rel ht y; rw [hy] at this; exact this
  refine .pure h (v := .int .i64 0) ?_ rfl
  have h1 : c.args.map a.eval = #[a.eval y] := by apply Array.ext'; simp [ha]
  have h2 : c.argTypes[0]? = some t := by rw [← Array.getElem?_toList, hts]; rfl
  simp [execOp, ho, resolve, hc, invoke, builtin, h1, he, Builtin.len_, h2, run_underlying hu, goInt]
theorem lenStr_ok {T : List Val} {c : Call} {t : TypeId} {ts : List TypeId} {y : Operand} {s : ByteArray} (ho : o.op = .call c) (hc : c.callee = .builtin .len) (ht : relT ρ T a) (h : Is lo base ρ G w) (ha : c.args.toList = [y]) (hy : ev T y = .str s) (hts : c.argTypes.toList = t :: ts) (hu : P.underlying t = some .string) :
    Done P lo base ρ G w a o (.int .i64 s.size) .none := by
  have he : a.eval y = .string s := by have := ev_rel ht y; rw [hy] at this; exact this
  refine .pure h (v := .int .i64 s.size) ?_ rfl
  have h1 : c.args.map a.eval = #[a.eval y] := by apply Array.ext'; simp [ha]
  have h2 : c.argTypes[0]? = some t := by rw [← Array.getElem?_toList, hts]; rfl
  simp [execOp, ho, resolve, hc, invoke, builtin, h1, he, Builtin.len_, h2, run_underlying hu, goInt]
theorem min_ok {T : List Val} {c : Call} {p q : Operand} {k k' : IntKind} {x y : Int} (ho : o.op = .call c) (hc : c.callee = .builtin .min) (ht : relT ρ T a) (h : Is lo base ρ G w) (ha : c.args.toList = [p, q]) (hp : ev T p = .int k x) (hq : ev T q = .int k' y) :
    Done P lo base ρ G w a o (.int k (if y < x then y else x)) .none := by
  refine .pure h (v := .int k (if y < x then y else x)) ?_ rfl
  have h1 : c.args.map a.eval = #[a.eval p, a.eval q] := by apply Array.ext'; simp [ha]
  simp [execOp, ho, resolve, hc, invoke, builtin, h1, ev_int ht hp, ev_int ht hq, Builtin.min_, Builtin.min2]
theorem max_ok {T : List Val} {c : Call} {p q : Operand} {k k' : IntKind} {x y : Int} (ho : o.op = .call c) (hc : c.callee = .builtin .max) (ht : relT ρ T a) (h : Is lo base ρ G w) (ha : c.args.toList = [p, q]) (hp : ev T p = .int k x) (hq : ev T q = .int k' y) :
    Done P lo base ρ G w a o (.int k (if y > x then y else x)) .none := by
  refine .pure h (v := .int k (if y > x then y else x)) ?_ rfl
  have h1 : c.args.map a.eval = #[a.eval p, a.eval q] := by apply Array.ext'; simp [ha]
  simp [execOp, ho, resolve, hc, invoke, builtin, h1, ev_int ht hp, ev_int ht hq, Builtin.max_, Builtin.max2]
theorem two_args {T : List Val} {c : Call} {x y : Val} (h : mapT T c.args = [x, y]) : ∃ p q, c.args.toList = [p, q] ∧ ev T p = x ∧ ev T q = y := by
  unfold mapT at h
  match hl : c.args.toList with
  | [] => rw [hl] at h; cases h
  | [p] => rw [hl] at h; simp at h
  | [p, q] => rw [hl] at h; simp at h; exact ⟨p, q, rfl, h.1, h.2⟩
  | _ :: _ :: _ :: _ => rw [hl] at h; simp at h
theorem sliceBound_ok {y : Value} {k : IntKind} {i : Int} {n : Nat} {code : BoundsCode} (hy : y = .int k i) (h0 : 0 ≤ i) (h1 : i ≤ n) (w : World) : (Instr.sliceBound y n code).run P w = .ok i.toNat w := by
  subst hy
  simp [Instr.sliceBound, asIntOf, h0, h1]
theorem optInt_spec {T : List Val} (ht : relT ρ T a) {d n : Int} {y : Option Operand} (h : optInt T d y = some n) : (y = none ∧ n = d) ∨ ∃ z k, y = some z ∧ a.eval z = .int k n := by
  cases y with
  | none => simp only [optInt, Option.some.injEq] at h; exact .inl ⟨rfl, h.symm⟩
  | some z =>
    simp only [optInt] at h
    cases hz : ev T z with
    | int k m => simp only [hz, intV, Option.some.injEq] at h; subst h; exact .inr ⟨z, k, rfl, ev_int ht hz⟩
    | _ => simp [hz, intV] at h
theorem sliceBounds_ok {T : List Val} (ht : relT ρ T a) {g : Bool} {len cap : Nat} {l h : Option Operand} {i j : Int} (hh : optInt T len h = some j) (hl : optInt T 0 l = some i) (h0 : 0 ≤ i) (h1 : i ≤ j) (h2 : j ≤ len) (h3 : len ≤ cap) (w : World) :
    (Instr.sliceBounds g len cap (l.map a.eval) (h.map a.eval) none).run P w = .ok (i.toNat, j.toNat, cap) w := by
  have hH : ∀ (f : Nat → World → Result (Nat × Nat × Nat)), (f j.toNat w = .ok (i.toNat, j.toNat, cap) w) → True := fun _ _ => trivial
  rcases optInt_spec ht hh with ⟨rfl, rfl⟩ | ⟨z, k, rfl, hz⟩ <;> rcases optInt_spec ht hl with ⟨rfl, rfl⟩ | ⟨z', k', rfl, hz'⟩
  · simp [Instr.sliceBounds]
  · simp [Instr.sliceBounds, sliceBound_ok hz' h0 h1]
  · simp [Instr.sliceBounds, sliceBound_ok (n := cap) hz (by omega) (by omega)]
  · simp [Instr.sliceBounds, sliceBound_ok (n := cap) hz (by omega) (by omega), sliceBound_ok (n := j.toNat) hz' h0 (by omega)]
theorem slice_ok {T : List Val} {t : TypeId} {y : Operand} {l hi : Option Operand} (ho : o.op = .slice t y l hi none) (ht : relT ρ T a) (h : Is lo base ρ G w) (hx : sliceV P T t (ev T y) l hi = some x) : Done P lo base ρ G w a o x .none := by
  unfold sliceV at hx
  split at hx
  · rename_i s hu hy
    cases hh : optInt T s.size hi with
    | none => simp [hh] at hx
    | some j =>
      cases hl : optInt T 0 l with
      | none => simp [hh, hl] at hx
      | some i =>
        simp only [hh, hl, Option.bind_some] at hx
        split at hx
        · rename_i hc
          obtain ⟨h0, h1, h2⟩ := hc
          simp only [Option.some.injEq] at hx
          subst hx
          refine .pure h (v := .string (s.extract i.toNat j.toNat)) ?_ rfl
          simp [execOp, ho, Instr.sliceAt, run_underlying hu, Instr.slice, ev_str ht hy, sliceBounds_ok (P := P) (g := false) ht hh hl h0 h1 h2 (Nat.le_refl _)]
        · cases hx
  · rename_i e b off len esz hu hy
    obtain ⟨c, ad, cap, hc, he, hlc, hroom, had⟩ := ev_sl ht hy
    cases hh : optInt T len hi with
    | none => simp [hh] at hx
    | some j =>
      cases hl : optInt T 0 l with
      | none => simp [hh, hl] at hx
      | some i =>
        simp only [hh, hl, Option.bind_some] at hx
        split at hx
        · rename_i hcond
          obtain ⟨h0, h1, h2, hs⟩ := hcond
          simp only [Option.some.injEq] at hx
          subst hx
          have hb := sliceBounds_ok (P := P) (g := true) ht hh hl h0 h1 h2 hlc w
          have hrun : (execOp a.eval o).run P w = .ok (.value (.slice (if cap = i.toNat then some ad else (some ad).map (·.add (i.toNat * esz))) (j.toNat - i.toNat) (cap - i.toNat))) w := by
            simp only [execOp, ho, Instr.sliceAt, Instr.slice, he, Option.map_none, Sem.run_bind, run_underlying hu, Result.andThen_ok, hb, sizeB_run hs]
            rfl
          have hsub : (j - i).toNat = j.toNat - i.toNat := by omega
          by_cases hcap : cap = i.toNat
          · rw [if_pos hcap] at hrun
            have hle : cap * esz ≤ cap * esz := Nat.le_refl _
            refine .pure h hrun ⟨c, ad, _, hc, by rw [hsub], by omega, ?_, .inr (by omega)⟩
            subst hcap
            simp only [Nat.sub_self, Nat.zero_mul, Nat.add_zero]; exact hroom
          · rw [if_neg hcap] at hrun
            have : ad = ⟨c.blk, c.off + off, none⟩ := had.resolve_right (by omega)
            subst this
            refine .pure h hrun ⟨c, ⟨c.blk, c.off + (off + i.toNat * esz), none⟩, cap - i.toNat, hc, by simp [addr_add, hsub, Nat.add_assoc], by omega, ?_, .inl rfl⟩
            have : off + i.toNat * esz + (cap - i.toNat) * esz = off + cap * esz := by rw [Nat.add_assoc, ← Nat.add_mul, Nat.add_sub_cancel' (by omega)]
            omega
        · cases hx
  · rename_i e hu hy
    have he : a.eval y = .slice none 0 0 := by have := ev_rel ht y; rw [hy] at this; exact this
    cases hh : optInt T 0 hi with
    | none => simp [hh] at hx
    | some j =>
      cases hl : optInt T 0 l with
      | none => simp [hh, hl] at hx
      | some i =>
        simp only [hh, hl, Option.bind_some] at hx
        split at hx
        · rename_i hcond
          obtain ⟨rfl, rfl, hs⟩ := hcond
          obtain ⟨n, hs⟩ := Option.isSome_iff_exists.1 hs
          simp only [Option.some.injEq] at hx
          subst hx
          have hb := sliceBounds_ok (P := P) (g := true) (len := 0) (cap := 0) ht hh hl (Int.le_refl _) (Int.le_refl _) (Int.le_refl _) (Nat.le_refl _) w
          refine .pure h (v := .slice none 0 0) ?_ rfl
          have hb2 := hb
          simp only [Int.toNat_zero] at hb2
          simp [execOp, ho, Instr.sliceAt, Instr.slice, he, run_underlying hu, hb2, sizeB_run hs]
        · cases hx
  · cases hx
theorem elemB_spec {t e : TypeId} (h : elemB P t = some e) : P.underlying t = some (.slice e) := by
  unfold elemB at h
  cases hd : P.underlying t with
  | none => simp [hd] at h
  | some d => cases d <;> simp [hd] at h; subst h; rfl
theorem make_ok {T : List Val} {M : Mem} {t : TypeId} {y z : Operand} {d : D} (ho : o.op = .makeSlice t y z) (ht : relT ρ T a) (h : Is lo base ρ G w) (hx : makeV P M t (ev T y) (ev T z) = some (x, d)) (hb : ∀ b ∈ newsOf d, ρ b = none) :
    Done P lo base ρ G w a o x d := by
  unfold makeV at hx
  split at hx
  · rename_i k l k' c e hy hz he
    have hu := elemB_spec he
    split at hx
    · rename_i i z hi hzb
      split at hx
      · rename_i hcond
        obtain ⟨h0, h1, h2, h3, h4, h5⟩ := hcond
        cases hn : newV false (repeatV l.toNat z) M with
        | none => simp [hn] at hx
        | some b =>
          simp only [hn, Option.map_some, Option.some.injEq, slTo, Prod.mk.injEq] at hx
          obtain ⟨rfl, rfl⟩ := hx
          obtain ⟨_, hsh, _⟩ := newV_spec hn
          obtain ⟨i2, zv, hi2, hzi, hr⟩ := zero_rel (ρ := ρ) hzb
          rw [hi] at hi2
          cases hi2
          have hsz : zv.cells.size = i.size := by have := rels_length hr; simp at this; omega
          have hlist := made_list zv.cells c.toNat
          rw [hsz] at hlist
          have hlc : l.toNat ≤ c.toNat := by omega
          have hrun := run_make (P := P) w t e i zv hu hi hzi k k' l c h0 h1 h2 (by omega)
          have hrl : rels (cellRel ρ) (repeatV l.toNat z) (List.replicate l.toNat zv.cells.toList).flatten := repeat_rel hr _
          have hlen1 : (repeatV l.toNat z).length = l.toNat * i.size := by rw [rels_length hrl]; simp [hsz]
          refine .new (arr := madeCells zv.cells (c.toNat * i.size)) (ty := e) (fr := (0, 0)) (room := c.toNat * i.size) (w' := w.alloc (.cells (madeCells zv.cells (c.toNat * i.size)) e)) (v := .slice (some ⟨w.heap.size, 0, none⟩) l.toNat c.toNat)
            h (hb b (by simp [newsOf])) ?_ rfl rfl rfl rfl (by rw [size_madeCells]; exact Nat.le_refl _) (by rw [hlen1]; exact Nat.mul_le_mul_right _ hlc) (fun j y e => ?_) (noFr _) hsh fun σ hσ => ⟨_, _, c.toNat, hσ, rfl, hlc, by simp, .inl (by simp)⟩
          · simp only [execOp, ho, ev_int ht hy, ev_int ht hz, Sem.run_bind, hrun, Result.andThen_ok]
            rfl
          · obtain ⟨v, hv, hrv⟩ := rels_get hrl e
            refine ⟨v, ?_, hrv⟩
            rw [← Array.getElem?_toList, hlist, show c.toNat = l.toNat + (c.toNat - l.toNat) by omega, ← List.replicate_append_replicate, List.flatten_append, List.getElem?_append_left (List.getElem?_eq_some_iff.1 hv).1]
            exact hv
      · cases hx
    · cases hx
  · cases hx
theorem grown_le (w : World) (n c : Nat) (e : TypeId) : n ≤ grownCap w n c e := by
  unfold grownCap Question.cut
  simp only
  omega
theorem convStr_ok {T : List Val} {M : Mem} {s d e : TypeId} {y : Operand} {v : ByteArray} {b : Base} (ho : o.op = .convert s d y) (ht : relT ρ T a) (h : Is lo base ρ G w) (hy : ev T y = .str v) (hs : P.underlying s = some .string) (hd : P.underlying d = some (.slice e)) (he : P.underlying e = some (.int .u8))
    (hn : newV false (bytesV v) M = some b) (hb : ρ b = none) : Done P lo base ρ G w a o (.sl b 0 v.size 1) (.new none b (bytesV v)) := by
  obtain ⟨_, hsh, _⟩ := newV_spec hn
  have hrun := run_bytes_of_string (P := P) w s d e v hs hd he
  have hcap := grown_le w v.size 0 e
  have hlen : (bytesV v).length = v.size := by simp [bytesV]
  have hsize : (bytesRow v (grownCap w v.size 0 e)).size = grownCap w v.size 0 e := by
    have : v.data.size = v.size := rfl
    simp [bytesRow]; omega
  refine .new (arr := bytesRow v (grownCap w v.size 0 e)) (ty := e) (fr := ((bytesRow v (grownCap w v.size 0 e)).size, (bytesRow v (grownCap w v.size 0 e)).size + 1)) (room := grownCap w v.size 0 e)
    (w' := w.drew.alloc (.cells (bytesRow v (grownCap w v.size 0 e)) e ((bytesRow v (grownCap w v.size 0 e)).size, (bytesRow v (grownCap w v.size 0 e)).size + 1))) (v := .slice (some ⟨w.heap.size, 0, none⟩) v.size (grownCap w v.size 0 e))
    h hb ?_ rfl rfl rfl rfl (by omega) (by omega) (fun i z e => ?_) (fun i hi z => by have := z.1; omega) hsh fun σ hσ => ⟨_, _, grownCap w v.size 0 e, hσ, rfl, hcap, by simp, .inl (by simp)⟩
  · simp [execOp, ho, ev_str ht hy, hrun]
  · have hi : i < v.data.size := by
      rw [getAt_eq] at e
      have := (List.getElem?_eq_some_iff.1 e).1
      simpa [bytesV] using this
    have ez : z = .int .u8 (v.data[i].toNat : Nat) := by
      rw [getAt_eq] at e
      simp only [bytesV, List.getElem?_map, Array.getElem?_toList, Array.getElem?_eq_getElem hi, Option.map_some, Option.some.injEq] at e
      exact e.symm
    refine ⟨.int .u8 (v.data[i].toNat : Nat), ?_, by rw [ez]; rfl⟩
    unfold bytesRow
    rw [Array.getElem?_append_left (by simpa using hi), Array.getElem?_map, Array.getElem?_eq_getElem hi]
    rfl
theorem bytesOf_spec : ∀ {cs : List Val} {l : List UInt8}, bytesOf cs = some l → ∃ ns : List Int, cs = ns.map (Val.int .u8) ∧ l = ns.map fun n => UInt8.ofNat n.toNat
  | [], l, h => by simp only [bytesOf, Option.some.injEq] at h; subst h; exact ⟨[], rfl, rfl⟩
  | c :: cs, l, h => by
    unfold bytesOf at h
    split at h
    · rename_i he; cases he
    · rename_i n xs he
      cases he
      cases hb : bytesOf cs with
      | none => simp [hb] at h
      | some l' =>
        simp only [hb, Option.map_some, Option.some.injEq] at h
        obtain ⟨ns, rfl, rfl⟩ := bytesOf_spec hb
        exact ⟨n :: ns, rfl, by rw [← h]; rfl⟩
    · cases h
theorem foldl_push : ∀ (ns : List Int) (r : ByteArray), ns.foldl (fun r n => r.push (UInt8.ofNat n.toNat)) r = ⟨r.data ++ (ns.map fun n => UInt8.ofNat n.toNat).toArray⟩
  | [], r => by simp
  | n :: ns, r => by
    simp only [List.foldl_cons]
    rw [foldl_push ns]
    simp [ByteArray.push]
theorem cells_load {b : Base} {c : CB} {cs ys : List Val} {off n : Nat} (hat : At ρ lo base b c cs w) (hp : part? off n cs = some ys) : ∃ vs : List Value, rels (cellRel ρ) ys vs ∧ vs.length = n ∧ (∀ j v, vs[j]? = some v → w.cell? ((⟨c.blk, c.off + off, none⟩ : Addr).add j) = some v) := by
  obtain ⟨arr, ty, fr, h1, h2, h3, h4, h5⟩ := hat
  have hlen : ys.length = n := by rcases part_spec hp with z | z <;> simp_all
  refine ⟨(List.range n).map fun j => arr.getD (c.off + off + j) undef, rels_of_get (by simp [hlen]) fun i y e => ?_, by simp, fun j v e => ?_⟩
  · have hi : i < n := by have := (List.getElem?_eq_some_iff.1 e).1; omega
    rw [part_get hp i hi] at e
    obtain ⟨v, hv, hr⟩ := h4 (off + i) y ((getAt_eq _ _).trans e)
    rw [← Nat.add_assoc] at hv
    exact ⟨v, by simp [hi, hv], hr⟩
  · have hj : j < n := by have := (List.getElem?_eq_some_iff.1 e).1; simpa using this
    rw [addr_add, cell_of h1]
    have e2 := part_get hp j hj
    have : j < ys.length := by omega
    rw [List.getElem?_eq_getElem this] at e2
    obtain ⟨u, hu, hr⟩ := h4 (off + j) _ ((getAt_eq _ _).trans e2.symm)
    rw [← Nat.add_assoc] at hu
    simp [hj, hu] at e
    rw [hu, e]
theorem rels_u8 : ∀ {ns : List Int} {vs : List Value}, rels (cellRel ρ) (ns.map (Val.int .u8)) vs → vs = ns.map (Value.int .u8)
  | [], [], _ => rfl
  | n :: ns, v :: vs, h => by
    have h1 : v = .int .u8 n := h.1
    rw [h1, rels_u8 h.2]; rfl
  | [], _ :: _, h => h.elim
  | _ :: _, [], h => h.elim
theorem convBytes_ok {T : List Val} {M : Mem} {s d e : TypeId} {y : Operand} {b : Base} {off len : Nat} {cs ys : List Val} {l : List UInt8} (ho : o.op = .convert s d y) (ht : relT ρ T a) (h : Is lo base ρ G w) (hy : ev T y = .sl b off len 1) (hs : P.underlying s = some (.slice e)) (hd : P.underlying d = some .string) (he : P.underlying e = some (.int .u8))
    (hm : M.get b = some cs) (hg : (ρ b).isSome = true → G b = M.get b) (hp : part? off len cs = some ys) (hl : bytesOf ys = some l) : Done P lo base ρ G w a o (.str ⟨l.toArray⟩) (.rd b) := by
  obtain ⟨c, ad, cap, hc, hev, hlc, hroom, had⟩ := ev_sl ht hy
  obtain ⟨ns, rfl, rfl⟩ := bytesOf_spec hl
  obtain ⟨vs, hr, hvl, hcell⟩ := cells_load (h.at' b c cs hc ((hg (by simp [hc])).trans hm)) hp
  obtain rfl := rels_u8 hr
  have hload : (loadCells ad len).run P w = .ok (ns.map (Value.int .u8)).toArray w := by
    rcases had with rfl | h0
    · rw [← hvl]; exact run_loadCells_list w _ _ hcell
    · have hl0 : len = 0 := by omega
      subst hl0
      have : ns = [] := by simpa using hvl
      subst this
      simp [loadCells, loadCellsFrom]
  refine .rd h (v := .string (ns.foldl (fun r n => r.push (UInt8.ofNat n.toNat)) ByteArray.empty)) ?_ ?_
  · simp [execOp, ho, hev, run_convert_bytes_string w s d e (some ad) len cap hs he hd, run_bytesToString w ad len cap ns hload]
  · rw [foldl_push]
    show _ = _
    congr 1
    apply congrArg
    simp
end
end Go.Proofs.YtponkdimnafppaaDoor.VM
