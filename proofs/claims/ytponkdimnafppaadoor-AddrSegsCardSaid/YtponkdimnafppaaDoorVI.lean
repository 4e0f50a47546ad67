/- A plain machine for the program's functions: numbers, and what is alike. -/
import Derived.Test.YtponkdimnafppaaDoorVH
namespace Go.Proofs.YtponkdimnafppaaDoor.VM
open Go
set_option linter.unusedVariables false
set_option linter.unusedSimpArgs false
section
variable {P : Program} {lo base : Nat} {ρ : Ren} {G : Mem?} {w : World} {a : Act} {o : Oper} {x : Val}
theorem eqGuard_ok (op : BinOp) (t : TypeId) (y z : Operand) {u v : Value} (h1 : ¬ (u = .nilIface ∧ v = .nilIface)) (h2 : (∃ p q, u = .agg p ∧ v = .agg q) → P.eqGuardType P.depth t = false) : (eqGuard op t y z u v).run P w = .ok () w := by
  cases op <;> first
    | rfl
    | (unfold eqGuard
       simp only [Bool.not_true, Bool.false_eq_true, if_false]
       split
       · exact absurd ⟨rfl, rfl⟩ h1
       · have := h2 ⟨_, _, rfl, rfl⟩
         simp [this]
       · rfl)
theorem genBin_ok {T : List Val} {op : BinOp} {t u : TypeId} {y z : Operand} (ho : o.op = .binOp op t y z u) (ht : relT ρ T a) (h : Is lo base ρ G w) (hx : genBin P op t (ev T y) (ev T z) = some x) : Done P lo base ρ G w a o x .none := by
  unfold genBin at hx
  cases hy : plain (ev T y) with
  | none => simp [hy] at hx
  | some p =>
  cases hz : plain (ev T z) with
  | none => simp [hy, hz] at hx
  | some q =>
  simp only [hy, hz] at hx
  have e1 := plain_rel hy (ev_rel ht y)
  have e2 := plain_rel hz (ev_rel ht z)
  split at hx
  · cases hx
  · cases hx
  · cases hx
  · rename_i n1 n2 n3
    cases hd : det P (binOp op t p q) with
    | none => simp [hd] at hx
    | some r =>
      simp only [hd, Option.bind_some] at hx
      refine .pure h (v := r) ?_ (ofV_rel hx)
      have hg : (eqGuard op t y z p q).run P w = .ok () w := eqGuard_ok op t y z (fun z => n3 z.1 z.2) (fun ⟨a, b, z1, z2⟩ => absurd z1 (n1 a))
      simp [execOp, ho, e1, e2, hg, det_run _ _ hd w]
end
def eqElems (d : Nat) (e : TypeId) (n : Nat) (xs ys : Array Value) : List Nat → Sem Bool
  | [] => pure true
  | i :: is => do
    let a ← part e xs (i * n)
    let b ← part e ys (i * n)
    let r ← Op.equalIn d e a b
    if (!r) = true then pure false else eqElems d e n xs ys is
theorem run_equalIn_array {P : Program} (w : World) (d len n : Nat) (t e : TypeId) (xs ys : Array Value) (ht : P.underlying t = some (.array len e)) (hs : ∀ w, (sizeOf e).run P w = .ok n w) :
    (Op.equalIn (d + 1) t (.agg xs) (.agg ys)).run P w = (eqElems d e n xs ys (List.range len)).run P w := by
  simp only [Op.equalIn, Sem.run_bind, run_underlying ht, Result.andThen_ok, hs]
  rw [Std.Legacy.Range.forIn_eq_forIn_range']
  simp only [Std.Legacy.Range.size, Nat.sub_zero, Nat.add_sub_cancel, Nat.div_one]
  rw [← List.range_eq_range']
  generalize List.range len = l
  induction l generalizing w with
  | nil => simp [eqElems]
  | cons i is ih =>
    simp only [List.forIn_cons, eqElems, Sem.run_bind, Sem.run_ite]
    generalize (part e xs (i * n)).run P w = r1
    cases r1 with
    | ok a w1 =>
      simp only [Result.andThen_ok]
      generalize (part e ys (i * n)).run P w1 = r2
      cases r2 with
      | ok b w2 =>
        simp only [Result.andThen_ok]
        generalize (Op.equalIn d e a b).run P w2 = r3
        cases r3 with
        | ok r w3 =>
          cases r
          · simp only [Result.andThen_ok, Bool.not_false, if_true, Sem.run_pure]
          · simp only [Result.andThen_ok, Bool.not_true, Bool.false_eq_true, if_false, Sem.run_pure]
            exact ih w3
        | halt x w3 => simp [Result.andThen]
      | halt x w2 => simp [Result.andThen]
    | halt x w1 => simp [Result.andThen]
section
variable {P : Program} {lo base : Nat} {ρ : Ren} {G : Mem?} {w : World} {a : Act} {o : Oper} {x : Val}
theorem eqStr_eq (a b : ByteArray) : eqStr a b = (a.toList == b.toList) := by
  rw [ByteArray.toList_eq, ByteArray.toList_eq]
  exact eqBytes_eq _ _
theorem eqT_ok : ∀ (d k : Nat) (t : TypeId) (x y : Val) (u v : Value) (r : Bool), eqT P d t x y = some r → relD ρ x u → relD ρ y v → (Op.equalIn (d + k) t u v).run P w = .ok r w := by
  intro d
  induction d with
  | zero => intro k t x y u v r h; simp [eqT] at h
  | succ d ih =>
    intro k t x y u v r h hx hy
    rw [show d + 1 + k = (d + k) + 1 by omega]
    unfold eqT at h
    split at h
    · rename_i p q hu
      simp only [relD, cellRel] at hx hy
      subst hx; subst hy
      simp only [Option.some.injEq] at h; subst h
      simp [Op.equalIn, run_underlying hu]
    · rename_i k1 k2 p k3 q hu
      simp only [relD, cellRel] at hx hy
      subst hx; subst hy
      split at h
      · rename_i hk; subst hk
        simp only [Option.some.injEq] at h; subst h
        simp [Op.equalIn, run_underlying hu]
      · cases h
    · rename_i p q hu
      simp only [relD, cellRel] at hx hy
      subst hx; subst hy
      simp only [Option.some.injEq] at h; subst h
      rw [eqStr_eq]
      exact run_equalIn_string w (d + k) t p q hu
    · rename_i fs xs ys hu
      obtain ⟨us, rfl, hus⟩ := hx
      obtain ⟨vs, rfl, hvs⟩ := hy
      split at h
      · cases h
      · rename_i hst
        have hf : P.fieldsOf t = fs := by simp [Program.fieldsOf, hu]
        rw [run_equalIn_struct w (d + k) t us vs (by rw [hf]; exact hu) (by simpa using hst), hf]
        clear hf hu
        generalize fs.toList = l at h
        induction l generalizing r with
        | nil => simp only [List.foldr_nil, Option.some.injEq] at h; subst h; simp [Op.eqFields]
        | cons f l ihl =>
          simp only [List.foldr_cons] at h
          simp only [Op.eqFields]
          by_cases hn : f.name ≠ "_"
          · rw [if_pos hn] at h ⊢
            cases h1 : partV P f.type xs f.offset with
            | none => simp [h1] at h
            | some p =>
            cases h2 : partV P f.type ys f.offset with
            | none => simp [h1, h2] at h
            | some q =>
            cases h3 : eqT P d f.type p q with
            | none => simp [h1, h2, h3] at h
            | some e =>
            simp only [h1, h2, h3, Option.bind_some, Option.map_eq_some_iff] at h
            obtain ⟨r', hr', rfl⟩ := h
            obtain ⟨pv, hp1, hp2⟩ := part_ok hus h1 w
            obtain ⟨qv, hq1, hq2⟩ := part_ok hvs h2 w
            have he := ih k f.type p q pv qv e h3 hp2 hq2
            simp only [Sem.run_bind, hp1, hq1, he, Result.andThen_ok]
            cases e
            · simp
            · simpa using ihl r' hr'
          · rw [if_neg hn] at h ⊢
            exact ihl r h
    · rename_i n e xs ys hu
      obtain ⟨us, rfl, hus⟩ := hx
      obtain ⟨vs, rfl, hvs⟩ := hy
      cases hs : sizeB P e with
      | none => simp [hs] at h
      | some s =>
        simp only [hs, Option.bind_some] at h
        rw [run_equalIn_array w (d + k) n s t e us vs hu (fun w => sizeB_run hs w)]
        generalize List.range n = l at h
        induction l generalizing r with
        | nil => simp only [List.foldr_nil, Option.some.injEq] at h; subst h; simp [eqElems]
        | cons f l ihl =>
          simp only [List.foldr_cons] at h
          simp only [eqElems]
          cases h1 : partV P e xs (f * s) with
          | none => simp [h1] at h
          | some p =>
          cases h2 : partV P e ys (f * s) with
          | none => simp [h1, h2] at h
          | some q =>
          cases h3 : eqT P d e p q with
          | none => simp [h1, h2, h3] at h
          | some g =>
          simp only [h1, h2, h3, Option.bind_some, Option.map_eq_some_iff] at h
          obtain ⟨r', hr', rfl⟩ := h
          obtain ⟨pv, hp1, hp2⟩ := part_ok hus h1 w
          obtain ⟨qv, hq1, hq2⟩ := part_ok hvs h2 w
          have he := ih k e p q pv qv g h3 hp2 hq2
          simp only [Sem.run_bind, hp1, hq1, he, Result.andThen_ok]
          cases g
          · simp
          · simpa using ihl r' hr'
    · cases h
theorem eqAgg_ok {t : TypeId} {p q : List Val} {u v : Value} {r : Bool} (h : eqT P 40 t (.agg p) (.agg q) = some r) (hx : relV ρ (.agg p) u) (hy : relV ρ (.agg q) v) : (Op.equal t u v).run P w = .ok r w :=
  eqT_ok 40 9960 t _ _ u v r h hx hy
theorem bin_run {op : BinOp} {t u : TypeId} {y z : Operand} {v : Value} (ho : o.op = .binOp op t y z u) (hg : (eqGuard op t y z (a.eval y) (a.eval z)).run P w = .ok () w) (h : (binOp op t (a.eval y) (a.eval z)).run P w = .ok v w) : (execOp a.eval o).run P w = .ok (.value v) w := by
  simp [execOp, ho, hg, h]
theorem equalIn_sn (d : Nat) {t e : TypeId} {ad : Addr} {l c : Nat} (hu : P.underlying t = some (.slice e)) : (Op.equalIn (d + 1) t (.slice (some ad) l c) (.slice none 0 0)).run P w = .ok false w := by
  simp [Op.equalIn, run_underlying hu]
theorem equal_sn {t e : TypeId} {ad : Addr} {l c : Nat} (hu : P.underlying t = some (.slice e)) : (Op.equal t (.slice (some ad) l c) (.slice none 0 0)).run P w = .ok false w := equalIn_sn 9999 hu
theorem equalIn_ns (d : Nat) {t e : TypeId} {ad : Addr} {l c : Nat} (hu : P.underlying t = some (.slice e)) : (Op.equalIn (d + 1) t (.slice none 0 0) (.slice (some ad) l c)).run P w = .ok false w := by
  simp [Op.equalIn, run_underlying hu]
theorem equal_ns {t e : TypeId} {ad : Addr} {l c : Nat} (hu : P.underlying t = some (.slice e)) : (Op.equal t (.slice none 0 0) (.slice (some ad) l c)).run P w = .ok false w := equalIn_ns 9999 hu
theorem equalIn_pn (d : Nat) {t e : TypeId} {ad : Addr} (hu : P.underlying t = some (.pointer e)) : (Op.equalIn (d + 1) t (.pointer (some ad)) (.pointer none)).run P w = .ok false w := by
  simp [Op.equalIn, run_underlying hu]
theorem equal_pn {t e : TypeId} {ad : Addr} (hu : P.underlying t = some (.pointer e)) : (Op.equal t (.pointer (some ad)) (.pointer none)).run P w = .ok false w := equalIn_pn 9999 hu
theorem equalIn_np (d : Nat) {t e : TypeId} {ad : Addr} (hu : P.underlying t = some (.pointer e)) : (Op.equalIn (d + 1) t (.pointer none) (.pointer (some ad))).run P w = .ok false w := by
  simp [Op.equalIn, run_underlying hu]
theorem equal_np {t e : TypeId} {ad : Addr} (hu : P.underlying t = some (.pointer e)) : (Op.equal t (.pointer none) (.pointer (some ad))).run P w = .ok false w := equalIn_np 9999 hu
theorem ev_nils {T : List Val} (ht : relT ρ T a) {y : Operand} (e : ev T y = .nils) : a.eval y = .slice none 0 0 := by
  have := ev_rel ht y
  rw [e] at this
  exact this
theorem ev_nilp {T : List Val} (ht : relT ρ T a) {y : Operand} (e : ev T y = .nilp) : a.eval y = .pointer none := by
  have := ev_rel ht y
  rw [e] at this
  exact this
theorem bin_ok {T : List Val} {op : BinOp} {t u : TypeId} {y z : Operand} (ho : o.op = .binOp op t y z u) (ht : relT ρ T a) (h : Is lo base ρ G w) (hx : absBin P op t (ev T y) (ev T z) = some x) : Done P lo base ρ G w a o x .none := by
  have noG : ∀ (s : Value) (r : Value), a.eval y = s → a.eval z = r → (∀ q, s ≠ .agg q) → s ≠ .nilIface → (eqGuard op t y z (a.eval y) (a.eval z)).run P w = .ok () w := by
    intro s r h1 h2 h3 h4
    exact eqGuard_ok op t y z (fun q => h4 (h1 ▸ q.1)) (fun ⟨p, q, z1, z2⟩ => absurd (h1 ▸ z1) (h3 p))
  unfold absBin at hx
  simp only [guardB_eq] at hx
  split at hx
  · rename_i k p k' q hy hz
    split at hx
    · rename_i hc
      obtain ⟨rfl, hq⟩ := hc
      simp only [Option.some.injEq] at hx; subst hx
      have e1 := ev_int ht hy; have e2 := ev_int ht hz
      exact .pure h (v := .int k (k.wrap (p.tdiv q))) (bin_run ho (noG _ _ e1 e2 (by simp) (by simp)) (by simp [e1, e2, binOp, Op.intDiv, hq])) rfl
    · cases hx
  · rename_i k p k' q hy hz
    split at hx
    · rename_i hc
      obtain ⟨rfl, hq⟩ := hc
      simp only [Option.some.injEq] at hx; subst hx
      have e1 := ev_int ht hy; have e2 := ev_int ht hz
      exact .pure h (v := .int k (p.tmod q)) (bin_run ho (noG _ _ e1 e2 (by simp) (by simp)) (by simp [e1, e2, binOp, Op.intDiv, hq])) rfl
    · cases hx
  · rename_i k p k' q hy hz
    split at hx
    · cases hx
    · rename_i hc
      simp only [Option.some.injEq] at hx; subst hx
      have e1 := ev_int ht hy; have e2 := ev_int ht hz
      exact .pure h (v := .int k (k.wrap (p * 2 ^ (min q.toNat k.bits)))) (bin_run ho (noG _ _ e1 e2 (by simp) (by simp)) (by simp only [e1, e2, binOp, Op.shift]; rw [if_neg hc]; rfl)) rfl
  · rename_i k p k' q hy hz
    split at hx
    · cases hx
    · rename_i hc
      simp only [Option.some.injEq] at hx; subst hx
      have e1 := ev_int ht hy; have e2 := ev_int ht hz
      exact .pure h (v := .int k (p.fdiv (2 ^ (min q.toNat k.bits)))) (bin_run ho (noG _ _ e1 e2 (by simp) (by simp)) (by simp only [e1, e2, binOp, Op.shift]; rw [if_neg hc]; rfl)) rfl
  · rename_i p q hy hz
    split at hx
    · rename_i hc
      simp only [Option.some.injEq] at hx; subst hx
      have e1 := ev_str ht hy; have e2 := ev_str ht hz
      exact .pure h (v := .string (p ++ q)) (bin_run ho (noG _ _ e1 e2 (by simp) (by simp)) (by
        simp only [e1, e2, binOp, Op.stringOp]
        rw [if_neg (by have : IntKind.i64.max = 9223372036854775807 := rfl; omega)]
        rfl)) rfl
    · cases hx
  · rename_i p q hy hz
    simp only [Option.some.injEq] at hx; subst hx
    have e1 := ev_str ht hy; have e2 := ev_str ht hz
    exact .pure h (v := .bool (eqStr p q)) (bin_run ho (noG _ _ e1 e2 (by simp) (by simp)) (by rw [e1, e2, binOp_string_eql, eqStr_eq]; rfl)) rfl
  · rename_i p q hy hz
    simp only [Option.some.injEq] at hx; subst hx
    have e1 := ev_str ht hy; have e2 := ev_str ht hz
    exact .pure h (v := .bool !(eqStr p q)) (bin_run ho (noG _ _ e1 e2 (by simp) (by simp)) (by rw [e1, e2, binOp_string_neq, eqStr_eq]; rfl)) rfl
  · rename_i p q hy hz
    split at hx
    · cases hx
    · rename_i hc
      rw [Option.map_eq_some_iff] at hx
      obtain ⟨r, hr, rfl⟩ := hx
      have e1 := ev_rel ht y; have e2 := ev_rel ht z
      rw [hy] at e1; rw [hz] at e2
      have he := eqAgg_ok (w := w) hr e1 e2
      obtain ⟨l1, q1, _⟩ := e1; obtain ⟨l2, q2, _⟩ := e2
      refine .pure h (v := .bool r) (bin_run ho (eqGuard_ok _ t y z (fun q => by rw [q1] at q; cases q.1) (fun _ => by simpa using hc)) ?_) rfl
      rw [q1, q2] at he ⊢
      simp [binOp, he]
  · rename_i p q hy hz
    split at hx
    · cases hx
    · rename_i hc
      rw [Option.map_eq_some_iff] at hx
      obtain ⟨r, hr, rfl⟩ := hx
      have e1 := ev_rel ht y; have e2 := ev_rel ht z
      rw [hy] at e1; rw [hz] at e2
      have he := eqAgg_ok (w := w) hr e1 e2
      obtain ⟨l1, q1, _⟩ := e1; obtain ⟨l2, q2, _⟩ := e2
      refine .pure h (v := .bool !r) (bin_run ho (eqGuard_ok _ t y z (fun q => by rw [q1] at q; cases q.1) (fun _ => by simpa using hc)) ?_) rfl
      rw [q1, q2] at he ⊢
      simp [binOp, he]
  · rename_i b off len esz hy hz
    split at hx
    · rename_i e hu
      simp only [Option.some.injEq] at hx; subst hx
      obtain ⟨c, ad, cap, _, e1, _⟩ := ev_sl ht hy
      have e2 := ev_nils ht hz
      exact .pure h (v := .bool false) (bin_run ho (noG _ _ e1 e2 (by simp) (by simp)) (by rw [e1, e2]; simp [binOp, equal_sn (w := w) hu])) rfl
    · cases hx
  · rename_i b off len esz hy hz
    split at hx
    · rename_i e hu
      simp only [Option.some.injEq] at hx; subst hx
      have e1 := ev_nils ht hy
      obtain ⟨c, ad, cap, _, e2, _⟩ := ev_sl ht hz
      exact .pure h (v := .bool false) (bin_run ho (noG _ _ e1 e2 (by simp) (by simp)) (by rw [e1, e2]; simp [binOp, equal_ns (w := w) hu])) rfl
    · cases hx
  · rename_i b off len esz hy hz
    split at hx
    · rename_i e hu
      simp only [Option.some.injEq] at hx; subst hx
      obtain ⟨c, ad, cap, _, e1, _⟩ := ev_sl ht hy
      have e2 := ev_nils ht hz
      exact .pure h (v := .bool true) (bin_run ho (noG _ _ e1 e2 (by simp) (by simp)) (by rw [e1, e2]; simp [binOp, equal_sn (w := w) hu])) rfl
    · cases hx
  · rename_i b off len esz hy hz
    split at hx
    · rename_i e hu
      simp only [Option.some.injEq] at hx; subst hx
      have e1 := ev_nils ht hy
      obtain ⟨c, ad, cap, _, e2, _⟩ := ev_sl ht hz
      exact .pure h (v := .bool true) (bin_run ho (noG _ _ e1 e2 (by simp) (by simp)) (by rw [e1, e2]; simp [binOp, equal_ns (w := w) hu])) rfl
    · cases hx
  · rename_i b off hy hz
    split at hx
    · rename_i e hu
      simp only [Option.some.injEq] at hx; subst hx
      obtain ⟨c, _, e1⟩ := ev_ptr ht hy
      have e2 := ev_nilp ht hz
      exact .pure h (v := .bool false) (bin_run ho (noG _ _ e1 e2 (by simp) (by simp)) (by rw [e1, e2]; simp [binOp, equal_pn (w := w) hu])) rfl
    · cases hx
  · rename_i b off hy hz
    split at hx
    · rename_i e hu
      simp only [Option.some.injEq] at hx; subst hx
      have e1 := ev_nilp ht hy
      obtain ⟨c, _, e2⟩ := ev_ptr ht hz
      exact .pure h (v := .bool false) (bin_run ho (noG _ _ e1 e2 (by simp) (by simp)) (by rw [e1, e2]; simp [binOp, equal_np (w := w) hu])) rfl
    · cases hx
  · rename_i b off hy hz
    split at hx
    · rename_i e hu
      simp only [Option.some.injEq] at hx; subst hx
      obtain ⟨c, _, e1⟩ := ev_ptr ht hy
      have e2 := ev_nilp ht hz
      exact .pure h (v := .bool true) (bin_run ho (noG _ _ e1 e2 (by simp) (by simp)) (by rw [e1, e2]; simp [binOp, equal_pn (w := w) hu])) rfl
    · cases hx
  · rename_i b off hy hz
    split at hx
    · rename_i e hu
      simp only [Option.some.injEq] at hx; subst hx
      have e1 := ev_nilp ht hy
      obtain ⟨c, _, e2⟩ := ev_ptr ht hz
      exact .pure h (v := .bool true) (bin_run ho (noG _ _ e1 e2 (by simp) (by simp)) (by rw [e1, e2]; simp [binOp, equal_np (w := w) hu])) rfl
    · cases hx
  · exact genBin_ok ho ht h hx
end
end Go.Proofs.YtponkdimnafppaaDoor.VM
