/- A plain machine for the program's functions: what it tells of a call is so. -/
import Derived.Test.YtponkdimnafppaaDoorVO
import Derived.Below
namespace Go.Proofs.YtponkdimnafppaaDoor.VM
open Go
set_option linter.unusedVariables false
set_option linter.unusedSimpArgs false
def Out.exit' : Out → Exit
  | .normal => .normal
  | .exit id => .exit id
  | .ret => .ret
section
variable {P : Program} {lo base : Nat} {call : CallF} {locs : List Nat} {H0 : List Blk} {ρ0 : Ren} {w0 : World} {fuel : Nat}
theorem Sim.mask {s : St} {ρ : Ren} {a : Act} {w : World} (h : Sim lo base H0 ρ0 w0 s ρ a w) (keep : List Nat) : Sim lo base H0 ρ0 w0 ⟨maskFrom keep 0 s.T, s.M⟩ ρ a w :=
  { h with
    t := ⟨(maskFrom_length _ _ _).trans h.t.1, (fun t y e => by
      rw [maskFrom_get] at e
      split at e
      · exact h.t.2.1 t y e
      · split at e
        · cases e; trivial
        · cases e), h.t.2.2⟩ }
/-- Code comes to what the plain machine tells. -/
theorem code_ok (hm : P.follows .mixedOrders = true) (hok : CallOk P base call) (hmono : CallMono call) : ∀ (c : IC), c.lex = true → ∀ (s : St) (o : Out) (s' : St), run P lo call locs fuel c s = some (o, s') → ∀ (ρ : Ren) (a : Act) (w : World), Sim lo base H0 ρ0 w0 s ρ a w →
    ∀ Q : Exit → Act → World → Prop, (∀ ρ' a' w', Sim lo base H0 ρ0 w0 s' ρ' a' w' → Q o.exit' a' w') → c.code.wp P Q a w := by
  intro c
  induction c with
  | skip =>
    intro hlx s o s' h ρ a w hS Q hQ
    simp only [run, Option.some.injEq, Prod.mk.injEq] at h
    obtain ⟨rfl, rfl⟩ := h
    exact wp_skip (hQ ρ a w hS)
  | region q id ops draw =>
    intro hlx s o s' h ρ a w hS Q hQ
    simp only [run, Option.map_eq_some_iff, Prod.mk.injEq] at h
    obtain ⟨s2, hr, rfl, rfl⟩ := h
    cases draw
    · unfold runRegion at hr
      simp only [Bool.false_eq_true, if_false, Option.map_eq_some_iff] at hr
      obtain ⟨⟨l, s3⟩, hro, rfl⟩ := hr
      have := ops_ok (Q := Q) hok hmono ops.toList 0 [] l s s3 ρ a w (by simp) hro hS hQ
      refine wp_region ?_
      rw [List.range_eq_range']
      simpa using this
    · exact region_draw hm hlx hok hmono hS hr hQ
  | seq x y ihx ihy =>
    intro hlx s o s' h ρ a w hS Q hQ
    simp only [IC.lex, Bool.and_eq_true] at hlx
    replace ihx := ihx hlx.1
    replace ihy := ihy hlx.2
    simp only [run] at h
    cases hx : run P lo call locs fuel x s with
    | none => simp [hx] at h
    | some r =>
      obtain ⟨o1, s1⟩ := r
      cases o1 with
      | normal =>
        simp only [hx] at h
        exact wp_seq (ihx s .normal s1 hx ρ a w hS _ fun ρ' a' w' hS' => ihy s1 o s' h ρ' a' w' hS' Q hQ)
      | exit id =>
        simp only [hx, Option.some.injEq, Prod.mk.injEq] at h
        obtain ⟨rfl, rfl⟩ := h
        exact wp_seq (ihx s _ s1 hx ρ a w hS _ hQ)
      | ret =>
        simp only [hx, Option.some.injEq, Prod.mk.injEq] at h
        obtain ⟨rfl, rfl⟩ := h
        exact wp_seq (ihx s _ s1 hx ρ a w hS _ hQ)
  | join keep x y ihx ihy =>
    intro hlx s o s' h ρ a w hS Q hQ
    simp only [IC.lex, Bool.and_eq_true] at hlx
    replace ihx := ihx hlx.1
    replace ihy := ihy hlx.2
    simp only [run] at h
    cases hx : run P lo call locs fuel x s with
    | none => simp [hx] at h
    | some r =>
      obtain ⟨o1, s1⟩ := r
      cases o1 with
      | normal =>
        simp only [hx] at h
        exact wp_seq (ihx s .normal s1 hx ρ a w hS _ fun ρ' a' w' hS' => ihy _ o s' h ρ' a' w' (hS'.mask keep) Q hQ)
      | exit id =>
        simp only [hx, Option.some.injEq, Prod.mk.injEq] at h
        obtain ⟨rfl, rfl⟩ := h
        exact wp_seq (ihx s _ s1 hx ρ a w hS _ hQ)
      | ret =>
        simp only [hx, Option.some.injEq, Prod.mk.injEq] at h
        obtain ⟨rfl, rfl⟩ := h
        exact wp_seq (ihx s _ s1 hx ρ a w hS _ hQ)
  | cond c x y ihx ihy =>
    intro hlx s o s' h ρ a w hS Q hQ
    simp only [IC.lex, Bool.and_eq_true] at hlx
    replace ihx := ihx hlx.1
    replace ihy := ihy hlx.2
    simp only [run] at h
    split at h
    · rename_i t hc
      refine wp_cond (ev_bool hS.t hc) ?_
      cases t
      · simp only [Bool.false_eq_true, if_false] at h ⊢
        exact ihy s o s' h ρ a w hS Q hQ
      · simp only [if_true] at h ⊢
        exact ihx s o s' h ρ a w hS Q hQ
    · cases h
  | block id x ihx =>
    intro hlx s o s' h ρ a w hS Q hQ
    replace ihx := ihx hlx
    simp only [run] at h
    cases hx : run P lo call locs fuel x s with
    | none => simp [hx] at h
    | some r =>
      obtain ⟨o1, s1⟩ := r
      cases o1 with
      | normal =>
        simp only [hx, Option.some.injEq, Prod.mk.injEq] at h
        obtain ⟨rfl, rfl⟩ := h
        exact wp_block (ihx s _ s1 hx ρ a w hS _ hQ)
      | exit j =>
        simp only [hx] at h
        refine wp_block (ihx s _ s1 hx ρ a w hS _ fun ρ' a' w' hS' => ?_)
        simp only [Out.exit', Exit.inBlock]
        by_cases e : j = id
        · rw [if_pos e] at h ⊢
          simp only [Option.some.injEq, Prod.mk.injEq] at h
          obtain ⟨rfl, rfl⟩ := h
          exact hQ ρ' a' w' hS'
        · rw [if_neg e] at h ⊢
          simp only [Option.some.injEq, Prod.mk.injEq] at h
          obtain ⟨rfl, rfl⟩ := h
          exact hQ ρ' a' w' hS'
      | ret =>
        simp only [hx, Option.some.injEq, Prod.mk.injEq] at h
        obtain ⟨rfl, rfl⟩ := h
        exact wp_block (ihx s _ s1 hx ρ a w hS _ hQ)
  | loop keep x ihx =>
    intro hlx s o s' h ρ a w hS Q hQ
    replace ihx := ihx hlx
    simp only [run] at h
    refine wp_loop_rounds fuel ?_
    have key : ∀ (n : Nat) (s : St) (ρ : Ren) (a : Act) (w : World), runLoop (run P lo call locs fuel x) keep n s = some (o, s') → Sim lo base H0 ρ0 w0 s ρ a w → Code.rounds P x.code Q n a w := by
      intro n
      induction n with
      | zero => intro s ρ a w h; simp [runLoop] at h
      | succ n ihn =>
        intro s ρ a w h hS
        simp only [runLoop] at h
        rw [rounds_succ]
        cases hx : run P lo call locs fuel x ⟨maskFrom keep 0 s.T, s.M⟩ with
        | none => simp [hx] at h
        | some r =>
          obtain ⟨o1, s1⟩ := r
          cases o1 with
          | normal =>
            simp only [hx] at h
            exact ihx _ _ s1 hx ρ a w (hS.mask keep) _ fun ρ' a' w' hS' => ihn s1 ρ' a' w' h hS'
          | exit id =>
            simp only [hx, Option.some.injEq, Prod.mk.injEq] at h
            obtain ⟨rfl, rfl⟩ := h
            exact ihx _ _ s1 hx ρ a w (hS.mask keep) _ hQ
          | ret =>
            simp only [hx, Option.some.injEq, Prod.mk.injEq] at h
            obtain ⟨rfl, rfl⟩ := h
            exact ihx _ _ s1 hx ρ a w (hS.mask keep) _ hQ
    exact key fuel s ρ a w h hS
  | exit id =>
    intro hlx s o s' h ρ a w hS Q hQ
    simp only [run, Option.some.injEq, Prod.mk.injEq] at h
    obtain ⟨rfl, rfl⟩ := h
    exact wp_exit (hQ ρ a w hS)
  | ret =>
    intro hlx s o s' h ρ a w hS Q hQ
    simp only [run, Option.some.injEq, Prod.mk.injEq] at h
    obtain ⟨rfl, rfl⟩ := h
    exact wp_ret (hQ ρ a w hS)
/-- What code leaves of the memory that all share. -/
def Grew (lo : Nat) (s s' : St) : Prop := lo ≤ s.M.hp.length → s.M.hp.length ≤ s'.M.hp.length ∧ ∀ k, k < lo → s'.M.hp[k]? = s.M.hp[k]?
theorem Grew.refl (lo : Nat) (s : St) : Grew lo s s := fun _ => ⟨Nat.le_refl _, fun _ _ => rfl⟩
theorem Grew.trans {a b c : St} (h : Grew lo a b) (k : Grew lo b c) : Grew lo a c := fun z =>
  let h1 := h z
  let k1 := k (Nat.le_trans z h1.1)
  ⟨Nat.le_trans h1.1 k1.1, fun j hj => (k1.2 j hj).trans (h1.2 j hj)⟩
theorem ops_grew (hmono : CallMono call) {quiet : Bool} {ops : Array Oper} : ∀ (os : List Oper) (i : Nat) (l l' : List (Nat × D)) (s s' : St), runOps P lo quiet call locs ops os i l s = some (l', s') → Grew lo s s'
  | [], i, l, l', s, s', h => by
    simp only [runOps, Option.some.injEq, Prod.mk.injEq] at h
    obtain ⟨rfl, rfl⟩ := h
    exact Grew.refl _ _
  | o :: os, i, l, l', s, s', h => by
    simp only [runOps] at h
    cases hw : wantV ops s.T o with
    | none => simp [hw] at h
    | some b =>
      simp only [hw] at h
      cases b
      · simp only [Bool.false_eq_true, if_false] at h
        have := ops_grew hmono os (i + 1) l l' _ s' h
        exact this
      · simp only [if_true] at h
        cases hst : stepV P lo quiet call locs s.T s.M o with
        | none => simp [hst] at h
        | some xd =>
          obtain ⟨x, d⟩ := xd
          simp only [hst] at h
          have h1 : Grew lo s ⟨putT o x s.T, s.M.app d⟩ := fun z =>
            have hg := app_grows z (step_shape hmono hst)
            ⟨hg.2.1, hg.2.2.1⟩
          exact h1.trans (ops_grew hmono os (i + 1) _ l' _ s' h)
theorem code_grew (hmono : CallMono call) : ∀ (c : IC) (s : St) (o : Out) (s' : St), run P lo call locs fuel c s = some (o, s') → Grew lo s s' := by
  intro c
  induction c with
  | skip => intro s o s' h; simp only [run, Option.some.injEq, Prod.mk.injEq] at h; obtain ⟨rfl, rfl⟩ := h; exact Grew.refl _ _
  | exit id => intro s o s' h; simp only [run, Option.some.injEq, Prod.mk.injEq] at h; obtain ⟨rfl, rfl⟩ := h; exact Grew.refl _ _
  | ret => intro s o s' h; simp only [run, Option.some.injEq, Prod.mk.injEq] at h; obtain ⟨rfl, rfl⟩ := h; exact Grew.refl _ _
  | region q id ops draw =>
    intro s o s' h
    simp only [run, Option.map_eq_some_iff, Prod.mk.injEq] at h
    obtain ⟨s2, hr, rfl, rfl⟩ := h
    unfold runRegion at hr
    split at hr
    · split at hr
      · rename_i l s3 hro
        split at hr
        · cases hr; exact ops_grew hmono _ _ _ _ _ _ hro
        · cases hr
      · cases hr
    · simp only [Option.map_eq_some_iff] at hr
      obtain ⟨⟨l, s3⟩, hro, rfl⟩ := hr
      exact ops_grew hmono _ _ _ _ _ _ hro
  | seq x y ihx ihy =>
    intro s o s' h
    simp only [run] at h
    cases hx : run P lo call locs fuel x s with
    | none => simp [hx] at h
    | some r =>
      obtain ⟨o1, s1⟩ := r
      cases o1 with
      | normal => simp only [hx] at h; exact (ihx _ _ _ hx).trans (ihy _ _ _ h)
      | exit id => simp only [hx, Option.some.injEq, Prod.mk.injEq] at h; obtain ⟨rfl, rfl⟩ := h; exact ihx _ _ _ hx
      | ret => simp only [hx, Option.some.injEq, Prod.mk.injEq] at h; obtain ⟨rfl, rfl⟩ := h; exact ihx _ _ _ hx
  | join keep x y ihx ihy =>
    intro s o s' h
    simp only [run] at h
    cases hx : run P lo call locs fuel x s with
    | none => simp [hx] at h
    | some r =>
      obtain ⟨o1, s1⟩ := r
      cases o1 with
      | normal => simp only [hx] at h; have h2 : Grew lo s1 s' := ihy ⟨maskFrom keep 0 s1.T, s1.M⟩ _ _ h; exact (ihx _ _ _ hx).trans h2
      | exit id => simp only [hx, Option.some.injEq, Prod.mk.injEq] at h; obtain ⟨rfl, rfl⟩ := h; exact ihx _ _ _ hx
      | ret => simp only [hx, Option.some.injEq, Prod.mk.injEq] at h; obtain ⟨rfl, rfl⟩ := h; exact ihx _ _ _ hx
  | cond c x y ihx ihy =>
    intro s o s' h
    simp only [run] at h
    split at h
    · split at h
      · exact ihx _ _ _ h
      · exact ihy _ _ _ h
    · cases h
  | block id x ihx =>
    intro s o s' h
    simp only [run] at h
    cases hx : run P lo call locs fuel x s with
    | none => simp [hx] at h
    | some r =>
      obtain ⟨o1, s1⟩ := r
      cases o1 with
      | normal => simp only [hx, Option.some.injEq, Prod.mk.injEq] at h; obtain ⟨rfl, rfl⟩ := h; exact ihx _ _ _ hx
      | exit j =>
        simp only [hx] at h
        split at h <;> (simp only [Option.some.injEq, Prod.mk.injEq] at h; obtain ⟨rfl, rfl⟩ := h; exact ihx _ _ _ hx)
      | ret => simp only [hx, Option.some.injEq, Prod.mk.injEq] at h; obtain ⟨rfl, rfl⟩ := h; exact ihx _ _ _ hx
  | loop keep x ihx =>
    intro s o s' h
    simp only [run] at h
    have key : ∀ (n : Nat) (s : St), runLoop (run P lo call locs fuel x) keep n s = some (o, s') → Grew lo s s' := by
      intro n
      induction n with
      | zero => intro s h; simp [runLoop] at h
      | succ n ihn =>
        intro s h
        simp only [runLoop] at h
        cases hx : run P lo call locs fuel x ⟨maskFrom keep 0 s.T, s.M⟩ with
        | none => simp [hx] at h
        | some r =>
          obtain ⟨o1, s1⟩ := r
          have h0 := ihx _ _ _ hx
          have h0 : Grew lo s s1 := h0
          cases o1 with
          | normal => simp only [hx] at h; exact h0.trans (ihn s1 h)
          | exit id => simp only [hx, Option.some.injEq, Prod.mk.injEq] at h; obtain ⟨rfl, rfl⟩ := h; exact h0
          | ret => simp only [hx, Option.some.injEq, Prod.mk.injEq] at h; obtain ⟨rfl, rfl⟩ := h; exact h0
    exact key fuel s h
/-- The annotated code is the program's. -/
def AnnOk (P : Program) (ann : FuncId → Option Ann) : Prop := ∀ f an, ann f = some an → ∃ fn, P.funcs[f]? = some fn ∧ fn.body = some an.code.code ∧ an.code.lex = true
theorem get_memH (H : List Blk) (b : Base) : (⟨[], H⟩ : Mem).get b = memH H b := by
  cases b with
  | lo k => rfl
  | hp k => rfl
abbrev resF (a : Act) : ResultVar → Sem Value
  | .tmp t => pure (a.tmps.getD t undef)
  | .cell b t => do loadVar t (← asAddr (a.tmps.getD b undef))
theorem res_one {s : St} {ρ : Ren} {a : Act} {w : World} (ht : relT ρ s.T a) (hi : Is lo base ρ s.M.get w) {rv : ResultVar} {x : Val} (hx : resV P s.T s.M rv = some x) : ∃ v, (resF a rv).run P w = .ok v w ∧ relV ρ x v := by
  cases rv with
  | tmp t => exact ⟨_, rfl, ht.2.1 t x hx⟩
  | cell b t =>
    simp only [resV] at hx
    split at hx
    · rename_i bb off hb
      obtain ⟨c, hc, hv⟩ := ht.2.1 b _ hb
      unfold readV at hx
      cases hm : s.M.get bb with
      | none => simp [hm] at hx
      | some cs =>
        simp only [hm, Option.bind_some] at hx
        obtain ⟨v, hr, hrel⟩ := read_ok (P := P) (hi.at' bb c cs hc hm) hx
        refine ⟨v, ?_, relV_of_relD hrel⟩
        simp only [resF, hv, asAddr, Sem.run_bind, Sem.run_pure, Result.andThen_ok, hr]
    · cases hx
theorem res_all {s : St} {ρ : Ren} {a : Act} {w : World} (ht : relT ρ s.T a) (hi : Is lo base ρ s.M.get w) : ∀ (l : List ResultVar) (vs : List Val), mapO (resV P s.T s.M) l = some vs → ∃ us, (l.mapM (resF a)).run P w = .ok us w ∧ rels (relV ρ) vs us
  | [], vs, h => by simp only [mapO, Option.some.injEq] at h; subst h; exact ⟨[], rfl, trivial⟩
  | rv :: l, vs, h => by
    simp only [mapO] at h
    cases hx : resV P s.T s.M rv with
    | none => simp [hx] at h
    | some x =>
      cases hl : mapO (resV P s.T s.M) l with
      | none => simp [hx, hl] at h
      | some ys =>
        simp only [hx, hl, Option.bind_some, Option.map_some, Option.some.injEq] at h
        subst h
        obtain ⟨v, hv, hr⟩ := res_one ht hi hx
        obtain ⟨us, hus, hrs⟩ := res_all ht hi l ys hl
        exact ⟨v :: us, by simp only [List.mapM_cons, Sem.run_bind, hv, hus, Result.andThen_ok]; rfl, hr, hrs⟩
theorem relD_of_relV {ρ : Ren} {x : Val} {v : Value} (hs : sharedD x = true) (h : relV ρ x v) : relD ρ x v := by
  cases x with
  | tup vs => simp [sharedD, shared] at hs
  | undef => simp [sharedD, shared] at hs
  | _ => exact h
theorem results_ok {fn : Func} {s : St} {r : Val} {ρ : Ren} {a : Act} {w : World} (ht : relT ρ s.T a) (hi : Is lo base ρ s.M.get w) (h : resultsV P fn s = some r) (hs : sharedV r = true) : ∃ v, (results fn a.tmps).run P w = .ok v w ∧ relV ρ r v := by
  unfold resultsV at h
  cases hm : mapO (resV P s.T s.M) fn.results.toList with
  | none => simp [hm] at h
  | some vs =>
    simp only [hm, Option.map_some, Option.some.injEq] at h
    obtain ⟨us, hus, hrs⟩ := res_all ht hi _ _ hm
    have hrun : (results fn a.tmps).run P w = .ok (if h : us.toArray.size = 1 then us.toArray[0] else .tuple us.toArray) w := by
      have e : fn.results.mapM (resF a) = List.toArray <$> fn.results.toList.mapM (resF a) := Array.mapM_eq_mapM_toList
      show ((fn.results.mapM (resF a)) >>= fun vs => pure (if h : vs.size = 1 then vs[0] else .tuple vs)).run P w = _
      rw [e]
      simp only [Sem.run_bind, Sem.run_map, hus, Result.andThen_ok, Sem.run_pure]
    refine ⟨_, hrun, ?_⟩
    have hl := rels_length hrs
    match vs, us, hrs, h with
    | [], [], _, h => subst h; exact ⟨#[], rfl, trivial⟩
    | [x], [u], hr, h => subst h; simpa using hr.1
    | x :: y :: zs, u :: v :: ws, hr, h =>
      subst h
      rw [dif_neg (by simp)]
      refine ⟨_, rfl, ?_⟩
      have hall : (x :: y :: zs).all sharedD = true := hs
      exact rels_sh (fun x v => relD_of_relV) hall hr
theorem callV_ok (hm : P.follows .mixedOrders = true) {ann : FuncId → Option Ann} (hann : AnnOk P ann) (k : Nat) (hok : CallOk P base call) (hmono : CallMono call) : CallOk P base (callV P ann k call) ∧ CallMono (callV P ann k call) := by
  have spec : ∀ {lo f args H r H'}, callV P ann k call lo f args H = some (r, H') → ∃ an fn s o, ann f = some an ∧ P.funcs[f]? = some fn ∧ run P lo call an.locs k an.code ⟨enterT fn args, ⟨[], H⟩⟩ = some (o, s) ∧ (o = .normal ∨ o = .ret) ∧ resultsV P fn s = some r ∧ sharedV r = true ∧ H' = s.M.hp := by
    intro lo f args H r H' h
    unfold callV at h
    split at h
    · rename_i an fn h1 h2
      have fin : ∀ (s : St), ((resultsV P fn s).bind fun v => if sharedV v = true then some (v, s.M.hp) else none) = some (r, H') → resultsV P fn s = some r ∧ sharedV r = true ∧ H' = s.M.hp := by
        intro s e
        simp only [Option.bind_eq_some_iff] at e
        obtain ⟨v, hv, e⟩ := e
        split at e
        · rename_i hs
          simp only [Option.some.injEq, Prod.mk.injEq] at e
          obtain ⟨rfl, rfl⟩ := e
          exact ⟨hv, hs, rfl⟩
        · cases e
      split at h
      · rename_i s hr
        exact ⟨an, fn, s, _, h1, h2, hr, .inl rfl, fin s h⟩
      · rename_i s hr
        exact ⟨an, fn, s, _, h1, h2, hr, .inr rfl, fin s h⟩
      · cases h
    · cases h
  refine ⟨fun lo f args H r H' h hlo ρ w avs hi hd hrel _ hgl => ?_, fun lo f args H r H' h => ?_⟩
  · obtain ⟨an, fn, s, o, h1, h2, hr, ho, hres, hsh, rfl⟩ := spec h
    obtain ⟨fn', h2', hb, hlx⟩ := hann f an h1
    rw [h2] at h2'
    cases h2'
    refine calls_of_wp h2 hb ?_
    have hT : relT ρ (enterT fn args) { tmps := avs.toArray ++ Array.replicate (fn.ntmps - avs.toArray.size) undef, defers := [] } := by
      have hl := rels_length hrel
      refine ⟨by simp [enterT, hl], fun t y e => ?_, hgl⟩
      rw [getAt_eq] at e
      unfold enterT at e
      by_cases ht : t < args.length
      · rw [List.getElem?_append_left ht] at e
        obtain ⟨v, hv, hr⟩ := rels_get hrel ((getAt_eq _ _).trans e)
        have : t < avs.length := by omega
        have hv2 : (avs.toArray ++ Array.replicate (fn.ntmps - avs.toArray.size) undef)[t]? = some v := by
          rw [Array.getElem?_append_left (by simpa using this)]
          simpa using hv
        simp only [Array.getD_eq_getD_getElem?, hv2, Option.getD_some]
        exact hr
      · rw [List.getElem?_append_right (by omega)] at e
        have he := (List.getElem?_eq_some_iff.1 e)
        obtain ⟨hlt, he⟩ := he
        rw [List.getElem_replicate] at he
        subst he
        have hv2 : (avs.toArray ++ Array.replicate (fn.ntmps - avs.toArray.size) undef)[t]? = some undef := by
          simp at hlt
          rw [Array.getElem?_append_right (by simp; omega)]
          rw [Array.getElem?_replicate]
          simp
          omega
        simp only [Array.getD_eq_getD_getElem?, hv2, Option.getD_some]
        exact ⟨#[], rfl, trivial⟩
    have hS : Sim lo base H ρ w ⟨enterT fn args, ⟨[], H⟩⟩ ρ { tmps := avs.toArray ++ Array.replicate (fn.ntmps - avs.toArray.size) undef, defers := [] } w := by
      refine ⟨hT, hi.congr (fun b _ _ => get_memH H b) rfl, fun b c e => ?_, hlo, Ren.le_refl ρ, fun _ _ => rfl, Nat.le_refl _, Kept.refl _ _, fun b c e hw => ?_, rfl⟩
      · obtain ⟨j, rfl, hj⟩ := hd b c e
        exact hj
      · obtain ⟨j, rfl, hj⟩ := hd b c e
        exact .inr ⟨j, c, hw, e, rfl⟩
    refine code_ok hm hok hmono an.code hlx _ o s hr ρ _ w hS _ fun ρ' a' w' hS' => ?_
    obtain ⟨v, hv, hrv⟩ := results_ok (P := P) hS'.t hS'.is hres hsh
    have hC : Called lo base ρ H w r s.M.hp v ρ'.heap w' := by
      have hir : Is lo base ρ'.heap (memH s.M.hp) w' := by
        refine ⟨fun b c cs e g => ?_, fun b b' c c' e e' g g' ne wb => ?_, fun b c e => hS'.is.dom b c (heap_le _ _ _ e), hS'.is.base, fun j c cs e g => hS'.is.sh j c cs e g, fun b b' c c' e e' ne wb fb => hS'.is.injF _ _ _ _ (heap_le _ _ _ e) (heap_le _ _ _ e') ne wb fb⟩
        · cases b with
          | lo j => cases e
          | hp j => exact At_sh (hS'.is.sh j c cs e g) id (hS'.is.at' _ _ _ e g)
        · cases b with
          | lo j => cases e
          | hp j => cases b' with
            | lo j' => cases e'
            | hp j' => exact hS'.is.inj _ _ _ _ e e' g g' ne wb
      refine ⟨relV_sh hsh hrv, fun b c e => ?_, fun j hj => hS'.old j hj, fun b c e => ?_, hir, hS'.kept, fun j c hj e => ?_⟩
      · obtain ⟨j, rfl, hj⟩ := hd b c e
        exact hS'.le _ _ e
      · cases b with
        | lo j => cases e
        | hp j => exact ⟨j, rfl, hS'.dom _ _ e⟩
      · exact hS'.fam (.hp j) c e (Nat.le_trans hlo hj)
    rcases ho with rfl | rfl
    · exact ⟨hS'.defers, v, hv, v, ρ'.heap, rfl, hC⟩
    · exact ⟨hS'.defers, v, hv, v, ρ'.heap, rfl, hC⟩
  · obtain ⟨an, fn, s, o, h1, h2, hr, ho, hres, hsh, rfl⟩ := spec h
    have hg := code_grew hmono an.code _ o s hr
    exact ⟨hsh, fun hlo => hg hlo⟩
theorem E_ok (hm : P.follows .mixedOrders = true) {ann : FuncId → Option Ann} (hann : AnnOk P ann) : ∀ k, CallOk P base (E P ann k) ∧ CallMono (E P ann k)
  | 0 => ⟨fun lo f args H r H' h => by simp [E] at h, fun lo f args H r H' h => by simp [E] at h⟩
  | k + 1 => callV_ok hm hann k (E_ok hm hann k).1 (E_ok hm hann k).2
end
end Go.Proofs.YtponkdimnafppaaDoor.VM
