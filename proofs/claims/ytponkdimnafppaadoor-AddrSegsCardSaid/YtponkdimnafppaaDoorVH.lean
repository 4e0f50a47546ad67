/- A plain machine for the program's functions: what is put behind a slice. -/
import Derived.Test.YtponkdimnafppaaDoorVG
namespace Go.Proofs.YtponkdimnafppaaDoor.VM
open Go
set_option linter.unusedVariables false
set_option linter.unusedSimpArgs false
section
variable {P : Program} {lo base : Nat} {ρ : Ren} {G : Mem?} {w : World} {a : Act} {o : Oper} {x : Val}
/-- What is put behind: its length, and its cells. -/
theorem src_ok {M : Mem} {esz n : Nat} {y : Val} {u : Value} {cs : List Val} (h : Is lo base ρ G w) (hr : relV ρ y u) (hg : ∀ b, readsOf y = some b → (ρ b).isSome = true → G b = M.get b) (hc : sliceCells M esz y = some cs) (hn : lenV y = some n) (hl : n * esz = cs.length) :
    (Builtin.lenOf u).run P w = .ok n w ∧ ∃ vs, rels (cellRel ρ) cs vs ∧ ∀ w', (∀ b : Nat, b < w.heap.size → w'.heap[b]? = w.heap[b]?) → (Builtin.firstCells esz n u).run P w' = .ok vs.toArray w' := by
  cases y with
  | sl b off len e =>
    obtain ⟨c, ad, cap, hc2, rfl, hlc, hroom, had⟩ := hr
    simp only [lenV, Option.some.injEq] at hn
    subst hn
    simp only [sliceCells] at hc
    by_cases he : e = esz
    · subst he
      rw [if_pos rfl] at hc
      cases hm : M.get b with
      | none => simp [hm] at hc
      | some l =>
        simp only [hm, Option.bind_some] at hc
        obtain ⟨vs, hv, hvl, hcell⟩ := cells_load (h.at' b c l hc2 ((hg b rfl (by simp [hc2])).trans hm)) hc
        refine ⟨rfl, vs, hv, fun w' hw => ?_⟩
        rcases had with rfl | h0
        · refine run_firstCells_some w' e len _ len cap vs hvl fun j v e => ?_
          rw [addr_add]
          have := hcell j v e
          rw [addr_add] at this
          rw [← this]
          exact World.cell?_of_block (hw c.blk (h.dom b c hc2))
        · have hl0 : len = 0 := by omega
          subst hl0
          have : vs = [] := by simpa using hvl
          subst this
          simp [Builtin.firstCells, loadCells, loadCellsFrom]
    · rw [if_neg he] at hc; cases hc
  | nils =>
    have : u = .slice none 0 0 := hr
    subst this
    simp only [lenV, Option.some.injEq] at hn
    subst hn
    simp only [sliceCells, Option.some.injEq] at hc
    subst hc
    exact ⟨rfl, [], trivial, fun w' _ => by simp [Builtin.firstCells]⟩
  | str s =>
    have : u = .string s := hr
    subst this
    simp only [lenV, Option.some.injEq] at hn
    subst hn
    simp only [sliceCells] at hc
    split at hc
    · rename_i he
      simp only [Option.some.injEq] at hc
      subst hc
      refine ⟨rfl, s.data.toList.map fun b => .int .u8 b.toNat, ?_, fun w' _ => ?_⟩
      · refine rels_of_get (by simp [bytesV]) fun i y e => ?_
        simp only [bytesV, List.getElem?_map, Option.map_eq_some_iff] at e
        obtain ⟨b, hb, rfl⟩ := e
        exact ⟨.int .u8 b.toNat, by simp [hb], rfl⟩
      · have : s.extract 0 s.size = s := by
          apply ByteArray.ext
          simp
        simp only [Builtin.firstCells, this, Sem.run_pure]
        congr 1
        apply Array.ext'
        simp
    · cases hc
  | _ => simp [sliceCells] at hc
theorem strOrSl_spec {u : TypeId} (h : strOrSl P u = true) : P.underlying u = some .string ∨ ∃ e, P.underlying u = some (.slice e) := by
  unfold strOrSl at h
  cases hd : P.underlying u with
  | none => simp [hd] at h
  | some d => cases d <;> simp [hd] at h ⊢
/-- append, where there is no room: a new row. -/
theorem append_grow (t u ty e : TypeId) (i : TypeInfo) (z : Value) (ht : P.underlying t = some (.slice e)) (hu : strOrSl P u = true) (hi : P.info? e = some i) (hz : i.zero = some z)
    (s y : Value) (ad : Option Addr) (sLen sCap n : Nat) (hs : s = .slice ad sLen sCap) (olds news : List Value) (hlen : (Builtin.lenOf y).run P w = .ok n w) (hnews : (Builtin.firstCells i.size n y).run P w.drew = .ok news.toArray w.drew) (holds : (Builtin.firstCells i.size sLen s).run P w.drew = .ok olds.toArray w.drew)
    (hg : sCap < sLen + n) (h63 : ((sLen + n : Nat) : Int) ≤ 9223372036854775807) (hfit : Builtin.nextslicecap (sLen + n) sCap * i.bytes ≤ 281474976710656) :
    (Builtin.append_ #[t, u] ty #[s, y]).run P w =
      .ok (.slice (some ⟨w.heap.size, 0, none⟩) (sLen + n) (grownCap w (sLen + n) sCap e))
        (w.drew.alloc (.cells (olds.toArray ++ news.toArray ++ Builtin.zeroCells z.cells (grownCap w (sLen + n) sCap e - (sLen + n))) e)) := by
  have hn : ¬ (sLen + n ≤ sCap) := by omega
  have h48' : ¬ (281474976710656 < Builtin.nextslicecap (sLen + n) sCap * i.bytes) := by omega
  subst hs
  have h63' : ¬ ((9223372036854775807 : Int) < (sLen : Int) + (n : Int) ∧ i.bytes = 0) := by omega
  rcases strOrSl_spec hu with hdu | ⟨e', hdu⟩ <;> simp [Builtin.append_, run_underlying ht, run_underlying hdu, sizeOf, typeInfo, zeroValue, hi, hz, hlen, hn, h63', h48', Question.forced, newRow, grownCap, hnews, holds] <;> (congr 2; apply Array.ext'; simp [List.append_assoc])
/-- append, where there is room. -/
theorem append_room (t u ty e : TypeId) (i : TypeInfo) (ht : P.underlying t = some (.slice e)) (hu : strOrSl P u = true) (hi : P.info? e = some i)
    (s y : Value) (g o sLen sCap n : Nat) (hs : s = .slice (some ⟨g, o, none⟩) sLen sCap) (news : List Value) (hlen : (Builtin.lenOf y).run P w = .ok n w) (hnews : (Builtin.firstCells i.size n y).run P w = .ok news.toArray w)
    (hg : sLen + n ≤ sCap) {w' : World} (hst : (storeCells ⟨g, o + sLen * i.size, none⟩ news).run P w = .ok () w') :
    (Builtin.append_ #[t, u] ty #[s, y]).run P w = .ok (.slice (some ⟨g, o, none⟩) (sLen + n) sCap) w' := by
  subst hs
  rcases strOrSl_spec hu with hdu | ⟨e', hdu⟩ <;> simp [Builtin.append_, run_underlying ht, run_underlying hdu, sizeOf, typeInfo, hi, hlen, hg, hnews, addr_add, hst]
theorem append_none (t u ty e : TypeId) (i : TypeInfo) (ht : P.underlying t = some (.slice e)) (hu : strOrSl P u = true) (hi : P.info? e = some i)
    (y : Value) (news : List Value) (hlen : (Builtin.lenOf y).run P w = .ok 0 w) (hnews : (Builtin.firstCells i.size 0 y).run P w = .ok news.toArray w) :
    (Builtin.append_ #[t, u] ty #[.slice none 0 0, y]).run P w = .ok (.slice none 0 0) w := by
  rcases strOrSl_spec hu with hdu | ⟨e', hdu⟩ <;> simp [Builtin.append_, run_underlying ht, run_underlying hdu, sizeOf, typeInfo, hi, hlen, hnews]
theorem append_ok {T : List Val} {M : Mem} {c : Call} {t u : TypeId} {ts : List TypeId} {s y : Operand} {d : D} (ho : o.op = .call c) (hc : c.callee = .builtin .append) (ha : c.args.toList = [s, y]) (hts : c.argTypes.toList = t :: u :: ts) (ht : relT ρ T a) (h : Is lo base ρ G w)
    (hx : appendV P lo M t u (ev T s) (ev T y) = some (x, d)) (hg : ∀ b ∈ rdsOf d, (ρ b).isSome = true → G b = M.get b) (hb : ∀ b ∈ newsOf d, ρ b = none) : Done P lo base ρ G w a o x d := by
  have h1 : c.args.map a.eval = #[a.eval s, a.eval y] := by apply Array.ext'; simp [ha]
  have hrunE : ∀ {v w'}, (Builtin.append_ #[t, u] o.type #[a.eval s, a.eval y]).run P w = .ok v w' → (execOp a.eval o).run P w = .ok (.value v) w' := by
    intro v w' hr
    have h2 : (Builtin.append_ c.argTypes o.type #[a.eval s, a.eval y]).run P w = .ok v w' := by
      rw [← hr]
      have e0 : c.argTypes[0]? = some t := by rw [← Array.getElem?_toList, hts]; rfl
      have e1 : c.argTypes[1]? = some u := by rw [← Array.getElem?_toList, hts]; rfl
      unfold Builtin.append_
      simp only [e0, e1]
      rfl
    simp [execOp, ho, resolve, hc, invoke, builtin, h1, h2]
  unfold appendV at hx
  simp only [Mem.top_eq] at hx
  cases he : elemB P t with
  | none => simp [he] at hx
  | some e =>
  cases hi : P.info? e with
  | none => simp [he, hi] at hx
  | some i =>
  cases hz : zeroB P e with
  | none => simp [he, hi, hz] at hx
  | some z =>
  cases hsc : sliceCells M i.size (ev T y) with
  | none => simp [he, hi, hz, hsc] at hx
  | some new =>
  cases hln : lenV (ev T y) with
  | none => simp [he, hi, hz, hsc, hln] at hx
  | some n =>
  simp only [he, hi, hz, hsc, hln, Option.bind_some] at hx
  have hu := elemB_spec he
  obtain ⟨i2, zv, hi2, hzi, hzr⟩ := zero_rel (ρ := ρ) hz
  rw [hi] at hi2
  cases hi2
  by_cases hcond : strOrSl P u = true ∧ 0 < i.size ∧ z.length = i.size ∧ (new.all shared) = true ∧ n * i.size = new.length
  · rw [if_pos hcond] at hx
    obtain ⟨hsu, h0, hzl, hsh, hnl⟩ := hcond
    have hzsz : zv.cells.size = i.size := by have := rels_length hzr; simp at this; omega
    cases hs : ev T s with
    | nils =>
      have hes : a.eval s = .slice none 0 0 := by have := ev_rel ht s; rw [hs] at this; exact this
      simp only [hs] at hx
      by_cases hbd : n * i.bytes ≤ 140737488351232 ∧ n ≤ 140737488351232
      · rw [if_pos hbd] at hx
        by_cases hn0 : n = 0
        · subst hn0
          rw [if_pos rfl] at hx
          simp only [Option.some.injEq, Prod.mk.injEq] at hx
          obtain ⟨rfl, rfl⟩ := hx
          have hnil : new = [] := by simpa using hnl.symm
          have hlen0 : (Builtin.lenOf (a.eval y)).run P w = .ok 0 w ∧ ∃ news : List Value, (Builtin.firstCells i.size 0 (a.eval y)).run P w = .ok news.toArray w := by
            have hr := ev_rel ht y
            cases hy : ev T y with
            | sl b off len e2 =>
              rw [hy] at hr hln
              obtain ⟨k, ad, cap, _, hev, _⟩ := hr
              simp only [lenV, Option.some.injEq] at hln
              subst hln
              rw [hev]
              exact ⟨rfl, [], by simp [Builtin.firstCells, loadCells, loadCellsFrom]⟩
            | nils => rw [hy] at hr; rw [show a.eval y = .slice none 0 0 from hr]; exact ⟨rfl, [], by simp [Builtin.firstCells]⟩
            | str v =>
              rw [hy] at hr hln
              simp only [lenV, Option.some.injEq] at hln
              rw [show a.eval y = .string v from hr]
              refine ⟨by simp [Builtin.lenOf, hln], _, by simp only [Builtin.firstCells]; exact congrArg (fun q => Result.ok q w) (Array.toArray_toList).symm⟩
            | _ => rw [hy] at hsc; simp [sliceCells] at hsc
          obtain ⟨hl0, news, hn0⟩ := hlen0
          exact .pure h (v := .slice none 0 0) (hrunE (by rw [hes]; exact append_none t u _ e i hu hsu hi _ news hl0 hn0)) rfl
        · rw [if_neg hn0] at hx
          cases hnv : newV false new M with
          | none => simp [hnv] at hx
          | some b =>
            simp only [hnv, Option.map_some, Option.some.injEq, slTo, Prod.mk.injEq] at hx
            obtain ⟨rfl, rfl⟩ := hx
            obtain ⟨_, hsh2, _⟩ := newV_spec hnv
            obtain ⟨hl, vs, hvs, hfc⟩ := src_ok (P := P) h (ev_rel ht y) (fun q hq => hg q (by simp [rdsOf, hq])) hsc hln hnl
            have hvl := rels_length hvs
            have hrun := append_grow (P := P) (w := w) t u o.type e i zv hu hsu hi hzi (a.eval s) (a.eval y) none 0 0 n hes [] vs hl (hfc w.drew fun _ _ => rfl) (by rw [hes]; simp [Builtin.firstCells]) (by omega) (by omega) (growslice_fits (by omega) (by rw [Nat.zero_add]; omega))
            have hgr := grownCap_ge w (0 + n) 0 e
            refine .new (arr := (([] : List Value).toArray ++ vs.toArray ++ Builtin.zeroCells zv.cells (grownCap w (0 + n) 0 e - (0 + n)))) (ty := e) (fr := (0, 0)) (room := grownCap w (0 + n) 0 e * i.size) h (hb b (by simp [newsOf])) (hrunE hrun) rfl rfl rfl rfl ?_ ?_ (fun j q eq => ?_) (noFr _) hsh2 fun σ hσ => ⟨_, ⟨w.heap.size, 0, none⟩, grownCap w (0 + n) 0 e, hσ, by simp, by omega, by simp, .inl (by simp)⟩
            · simp only [List.nil_append, Array.size_append, size_zeroCells, hzsz]
              simp only [Nat.zero_add] at *
              simp
              rw [← hvl, ← hnl, ← Nat.add_mul, Nat.add_sub_cancel' hgr]
              exact Nat.le_refl _
            · rw [← hnl]; exact Nat.mul_le_mul_right _ (by omega)
            · obtain ⟨v, hv, hr⟩ := rels_get hvs eq
              refine ⟨v, ?_, hr⟩
              have hj : j < vs.length := (List.getElem?_eq_some_iff.1 hv).1
              simp [hj, hv]
              rw [Array.getElem?_append_left (by simpa using hj)]
              simpa using hv
      · rw [if_neg hbd] at hx; cases hx
    | sl b off len esz =>
      simp only [hs] at hx
      obtain ⟨c', ad, cap, hc', hes, hlc, hroom, had⟩ := ev_sl ht hs
      by_cases hbd : esz = i.size ∧ mayWrite lo b = true ∧ (len + n) * i.bytes ≤ 140737488351232 ∧ len + n ≤ 140737488351232
      · rw [if_pos hbd] at hx
        obtain ⟨rfl, hmw, hb1, hb2⟩ := hbd
        cases b with
        | lo k => cases hx
        | hp k =>
          cases hm : M.get (.hp k) with
          | none => simp [hm] at hx
          | some cs =>
            simp only [hm, Option.bind_some] at hx
            by_cases htail : off + len * i.size = cs.length
            · rw [if_pos htail] at hx
              simp only [Option.some.injEq, Prod.mk.injEq] at hx
              obtain ⟨rfl, rfl⟩ := hx
              have hG := (hg (.hp k) (by simp [rdsOf]) (by simp [hc'])).trans hm
              have hb' : ρ (.hp M.hp.length) = none := hb _ (by simp [newsOf])
              obtain ⟨hl, vs, hvs, hfc⟩ := src_ok (P := P) h (ev_rel ht y) (fun q hq => hg q (by simp [rdsOf, hq])) hsc hln hnl
              have hvl := rels_length hvs
              have hwr := mayWrite_wr hmw
              have hkl : k < M.hp.length := by
                simp only [Mem.get] at hm
                cases hq : M.hp[k]? with
                | none => simp [hq] at hm
                | some _ => exact (List.getElem?_eq_some_iff.1 hq).1
              have hshc : (dropN off cs ++ new).all shared = true := by
                have q1 := h.sh k c' cs hc' hG
                rw [List.all_append, hsh, Bool.and_true, dropN_eq]
                rw [List.all_eq_true] at q1 ⊢
                exact fun q hq => q1 q (List.mem_of_mem_drop hq)
              have hdl : (dropN off cs).length = len * i.size := by rw [dropN_eq]; simp; omega
              have hat := h.at' _ _ _ hc' hG
              by_cases hfit : len + n ≤ cap
              · obtain ⟨arr, ty, fr, g1, g2, g3, g4, g5⟩ := hat
                obtain ⟨gb, groom, gfr⟩ := g5 hwr
                have hmul : (len + n) * i.size ≤ cap * i.size := Nat.mul_le_mul_right _ hfit
                have hadd : (len + n) * i.size = len * i.size + n * i.size := Nat.add_mul _ _ _
                have hone : ∀ u ∈ vs, u.oneCell' = true := by
                  intro q hq
                  obtain ⟨j, hj, e⟩ := List.getElem_of_mem hq
                  have hjn : j < new.length := by omega
                  obtain ⟨v, hv, hr⟩ := rels_get hvs ((getAt_eq j new).trans (List.getElem?_eq_getElem hjn))
                  rw [List.getElem?_eq_getElem hj, e] at hv
                  cases hv
                  exact cellRel_one hr
                have main : ∃ arr', Put (c'.off + off + len * i.size) vs arr arr' ∧ (execOp a.eval o).run P w = .ok (.value (.slice (some ad) (len + n) cap)) (w.setRow c'.blk arr') := by
                  rcases had with rfl | hcap0
                  · obtain ⟨arr', hp, hst⟩ := store_run (P := P) (g := c'.blk) (o := c'.off + off + len * i.size) vs 0 arr w g1 gfr (by omega) hone
                    exact ⟨arr', by simpa using hp, hrunE (append_room (P := P) (w := w) t u o.type e i hu hsu hi _ _ c'.blk (c'.off + off) len cap n hes vs hl (hfc w fun _ _ => rfl) hfit hst)⟩
                  · have hn0 : n = 0 := by omega
                    have hl0 : len = 0 := by omega
                    subst hn0; subst hl0; subst hcap0
                    have hv0 : vs = [] := by have : vs.length = 0 := by omega
                                             exact List.length_eq_zero_iff.1 this
                    subst hv0
                    refine ⟨arr, ⟨rfl, fun q => by rw [if_neg (by simp)]⟩, ?_⟩
                    rw [setRow_self w _ arr ty fr g1]
                    have := append_room (P := P) (w := w) (w' := w) t u o.type e i hu hsu hi (a.eval s) (a.eval y) ad.block ad.off 0 0 0
                    refine hrunE ?_
                    rw [hes]
                    rcases strOrSl_spec hsu with hdu | ⟨e', hdu⟩ <;> simp [Builtin.append_, run_underlying hu, run_underlying hdu, sizeOf, typeInfo, hi, hl, hfc w, storeCells]
                obtain ⟨arr', hp, hrun⟩ := main
                refine ⟨_, _, _, ρ.put (.hp M.hp.length) ⟨c'.blk, c'.off + off, c'.room - off⟩, hrun, .inl rfl, ?_, put_le _ hb', fun q hq => put_ne _ _ (fun z => hq (by simp [newsOf, z])), ?_, Kept.setRow _ _ _ ⟨.hp k, c', hc', by simp [wrsOf], rfl⟩, fun q c2 hq e => by
                  simp only [newsOf, List.mem_singleton] at hq; subst hq; rw [put_same] at e; cases e; exact .inr ⟨.hp k, c', by simp [wrsOf], hc', rfl⟩⟩
                · exact ⟨_, ad, cap, put_same _ _ _, rfl, hfit, by simp only [Nat.zero_add]; omega, by simpa using had⟩
                · refine h.goOn hc' hb' hG hwr (fun _ => (by show lo ≤ M.hp.length; have : lo ≤ k := hwr; omega)) (Nat.not_lt.2 hwr) (by show ¬ M.hp.length < lo; have : lo ≤ k := hwr; omega) g1 hp.1 (by omega) (by simp only [List.length_append]; omega) (fun j q eq => ?_) (fun _ _ => hshc)
                  rw [hp.2 (c'.off + off + j)]
                  rw [getAt_eq] at eq
                  by_cases hj : j < len * i.size
                  · rw [if_neg (by omega)]
                    rw [List.getElem?_append_left (by omega), dropN_eq, List.getElem?_drop] at eq
                    have := g4 (off + j) q ((getAt_eq _ _).trans eq)
                    rwa [← Nat.add_assoc] at this
                  · rw [List.getElem?_append_right (by omega), hdl] at eq
                    have hjl := (List.getElem?_eq_some_iff.1 eq).1
                    rw [if_pos (by omega), show c'.off + off + j - (c'.off + off + len * i.size) = j - len * i.size by omega]
                    exact rels_get hvs ((getAt_eq _ _).trans eq)
              · have hold : ∃ olds, rels (cellRel ρ) (dropN off cs) olds ∧ (Builtin.firstCells i.size len (a.eval s)).run P w.drew = .ok olds.toArray w.drew := by
                  have hpart : part? off (len * i.size) cs = some (dropN off cs) := by
                    have tk : ∀ (l : List Val), takeN l.length l = some l := by
                      intro l
                      induction l with
                      | nil => rfl
                      | cons q l ih => simp [takeN, ih]
                    unfold part?
                    rw [← hdl]
                    exact tk _
                  obtain ⟨olds, ho1, ho2, ho3⟩ := cells_load hat hpart
                  refine ⟨olds, ho1, ?_⟩
                  rw [hes]
                  rcases had with rfl | hcap0
                  · exact run_firstCells_some w.drew i.size len _ len cap olds ho2 fun j v e => by simpa using ho3 j v e
                  · have hl0 : len = 0 := by omega
                    subst hl0
                    have : olds = [] := by simpa using ho2
                    subst this
                    simp [Builtin.firstCells, loadCells, loadCellsFrom]
                obtain ⟨olds, ho1, ho2⟩ := hold
                have hol := rels_length ho1
                have hvl2 := hvl
                have hrun := append_grow (P := P) (w := w) t u o.type e i zv hu hsu hi hzi (a.eval s) (a.eval y) (some ad) len cap n hes olds vs hl (hfc w.drew fun _ _ => rfl) ho2 (by omega) (by omega) (growslice_fits (by omega) (by omega))
                have hgr := grownCap_ge w (len + n) cap e
                have hadd : (len + n) * i.size = len * i.size + n * i.size := Nat.add_mul _ _ _
                have hgm : (len + n) * i.size ≤ grownCap w (len + n) cap e * i.size := Nat.mul_le_mul_right _ hgr
                refine ⟨_, _, _, ρ.put (.hp M.hp.length) ⟨w.heap.size, 0, grownCap w (len + n) cap e * i.size⟩, hrunE hrun, .inl rfl, ?_, put_le _ hb', fun q hq => put_ne _ _ (fun z => hq (by simp [newsOf, z])), ?_, Kept.push _ rfl rfl rfl rfl, fun q c2 hq e => by
                  simp only [newsOf, List.mem_singleton] at hq; subst hq; rw [put_same] at e; cases e; exact .inl (Nat.le_refl _)⟩
                · exact ⟨_, ⟨w.heap.size, 0, none⟩, grownCap w (len + n) cap e, put_same _ _ _, rfl, hgr, by simp, .inl (by simp)⟩
                · refine h.goOnNew (w' := w.drew.alloc (.cells (olds.toArray ++ vs.toArray ++ Builtin.zeroCells zv.cells (grownCap w (len + n) cap e - (len + n))) e)) (arr := olds.toArray ++ vs.toArray ++ Builtin.zeroCells zv.cells (grownCap w (len + n) cap e - (len + n))) (ty := e) (fr := (0, 0)) (fun z => by cases z; omega) hb' ?_ ?_ (fun j q eq => ?_) (noFr _) rfl (fun _ _ => hshc)
                  · simp only [Array.size_append, size_zeroCells, hzsz, List.size_toArray]
                    rw [← hvl, ← hnl, ← hol, hdl, ← hadd, ← Nat.add_mul, Nat.add_sub_cancel' hgr]
                    exact Nat.le_refl _
                  · simp only [List.length_append]; omega
                  · have hrr : rels (cellRel ρ) (dropN off cs ++ new) (olds ++ vs) := by
                      refine rels_of_get (by simp only [List.length_append]; omega) fun j q e => ?_
                      by_cases hj : j < (dropN off cs).length
                      · rw [List.getElem?_append_left hj] at e
                        rw [List.getElem?_append_left (by omega)]
                        exact rels_get ho1 ((getAt_eq _ _).trans e)
                      · rw [List.getElem?_append_right (by omega)] at e
                        rw [List.getElem?_append_right (by omega), ← hol]
                        exact rels_get hvs ((getAt_eq _ _).trans e)
                    obtain ⟨v, hv, hr⟩ := rels_get hrr eq
                    refine ⟨v, ?_, hr⟩
                    have hj : j < (olds ++ vs).length := (List.getElem?_eq_some_iff.1 hv).1
                    rw [Array.getElem?_append_left (by simpa using hj)]
                    rw [← Array.getElem?_toList]
                    simpa using hv
            · rw [if_neg htail] at hx; cases hx
      · rw [if_neg hbd] at hx; cases hx
    | _ => simp [hs] at hx
  · rw [if_neg hcond] at hx; cases hx
end
end Go.Proofs.YtponkdimnafppaaDoor.VM
