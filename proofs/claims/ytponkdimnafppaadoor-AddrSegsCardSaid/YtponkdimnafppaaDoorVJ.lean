/- A plain machine for the program's functions: every step is the model's. -/
import Derived.Test.YtponkdimnafppaaDoorVI
namespace Go.Proofs.YtponkdimnafppaaDoor.VM
open Go
set_option linter.unusedVariables false
set_option linter.unusedSimpArgs false
def memH (H : List Blk) : Mem? := fun b => match b with
  | .lo _ => none
  | .hp k => liveAt H k
def newsIn (d : D) (b : Base) : Prop := match d with
  | .call _ n H => ∃ k, b = .hp k ∧ n ≤ k ∧ k < H.length
  | d => b ∈ newsOf d
def writesIn (lo : Nat) (d : D) (b : Base) : Prop := match d with
  | .call p _ _ => ∃ k, b = .hp k ∧ p ≤ k
  | d => b ∈ wrsOf d
/-- What holds behind a step. -/
structure After (lo base : Nat) (ρ : Ren) (G : Mem?) (w : World) (x : Val) (d : D) (ρ' : Ren) (v : Value) (w' : World) : Prop where
  val : relV ρ' x v
  le : ρ.le ρ'
  old : ∀ b, ¬ newsIn d b → ρ' b = ρ b
  is : Is lo base ρ' (appG d G) w'
  kept : Kept (img ρ (writesIn lo d)) w w'
  fam : ∀ b c, newsIn d b → ρ' b = some c → w.heap.size ≤ c.blk ∨ ∃ b0 c0, writesIn lo d b0 ∧ ρ b0 = some c0 ∧ c0.blk = c.blk
/-- What holds behind a call. -/
structure Called (lo base : Nat) (ρ : Ren) (H : List Blk) (w : World) (r : Val) (H' : List Blk) (v : Value) (ρ' : Ren) (w' : World) : Prop where
  val : relV ρ' r v
  le : ρ.le ρ'
  old : ∀ k, k < H.length → ρ' (.hp k) = ρ (.hp k)
  hp : ∀ b c, ρ' b = some c → ∃ k, b = .hp k ∧ k < H'.length
  is : Is lo base ρ' (memH H') w'
  kept : Kept (img ρ (fun b => ∃ k, b = .hp k ∧ lo ≤ k)) w w'
  fam : ∀ k c, H.length ≤ k → ρ' (.hp k) = some c → w.heap.size ≤ c.blk ∨ ∃ j c0, lo ≤ j ∧ ρ (.hp j) = some c0 ∧ c0.blk = c.blk
abbrev CallF := Nat → FuncId → List Val → List Blk → Option (Val × List Blk)
def CallOk (P : Program) (base : Nat) (call : CallF) : Prop :=
  ∀ lo f args H r H', call lo f args H = some (r, H') → lo ≤ H.length → ∀ (ρ : Ren) w avs, Is lo base ρ (memH H) w → (∀ b c, ρ b = some c → ∃ k, b = .hp k ∧ k < H.length) → rels (relV ρ) args avs → sharedV r = true → GlobOk ρ →
    Calls P f avs.toArray w fun e w' => ∃ v ρ', e = .returned v ∧ Called lo base ρ H w r H' v ρ' w'
def CallMono (call : CallF) : Prop := ∀ lo f args H r H', call lo f args H = some (r, H') → sharedV r = true ∧ (lo ≤ H.length → H.length ≤ H'.length ∧ ∀ k, k < lo → H'[k]? = H[k]?)
section
variable {P : Program} {lo base : Nat} {ρ : Ren} {G : Mem?} {w : World} {a : Act} {o : Oper} {x : Val}
theorem Done.wp {d : D} (h : Done P lo base ρ G w a o x d) (hd : ∀ q n H, d ≠ .call q n H) {K : Act → World → Prop} {Q : Exit → Act → World → Prop} (hK : ∀ ρ' v w', After lo base ρ G w x d ρ' v w' → K (a.put o.dst v) w') : o.wp P a w K Q := by
  obtain ⟨n, v, w', ρ', hr, hn, hv, hle, hold, his, hkept, hfam⟩ := h
  have hA : After lo base ρ G w x d ρ' v w' := by
    cases d with
    | call q n H => exact absurd rfl (hd q n H)
    | _ => exact ⟨hv, hle, hold, his, hkept, hfam⟩
  have := hK ρ' v w' hA
  unfold Oper.wp
  rw [hr]
  rcases hn with rfl | ⟨rfl, rfl⟩
  · exact this
  · exact this
/-- Only what all share. -/
def Ren.heap (ρ : Ren) : Ren := fun b => match b with
  | .lo _ => none
  | .hp k => ρ (.hp k)
theorem heap_le (ρ : Ren) : ρ.heap.le ρ := fun b c e => by cases b with | lo k => cases e | hp k => exact e
theorem cellRel_sh {x : Val} {v : Value} (h : shared x = true) (r : cellRel ρ x v) : cellRel ρ.heap x v := by
  cases x with
  | ptr b off => cases b with
    | lo k => simp [shared] at h
    | hp k => exact r
  | sl b off len esz => cases b with
    | lo k => simp [shared] at h
    | hp k => exact r
  | _ => exact r
theorem rels_sh {R S : Val → Value → Prop} {f : Val → Bool} (H : ∀ x v, f x = true → R x v → S x v) : ∀ {xs : List Val} {vs : List Value}, xs.all f = true → rels R xs vs → rels S xs vs
  | [], [], _, _ => trivial
  | x :: xs, v :: vs, h, r => by
    simp only [List.all_cons, Bool.and_eq_true] at h
    exact ⟨H _ _ h.1 r.1, rels_sh H h.2 r.2⟩
  | [], _ :: _, _, r => r.elim
  | _ :: _, [], _, r => r.elim
theorem relD_sh {x : Val} {v : Value} (h : sharedD x = true) (r : relD ρ x v) : relD ρ.heap x v := by
  cases x with
  | agg cs => obtain ⟨l, e, hl⟩ := r; exact ⟨l, e, rels_sh (fun x v => cellRel_sh) h hl⟩
  | _ => simp only [relD] at r ⊢; exact cellRel_sh h r
theorem relV_sh {x : Val} {v : Value} (h : sharedV x = true) (r : relV ρ x v) : relV ρ.heap x v := by
  cases x with
  | tup cs => obtain ⟨l, e, hl⟩ := r; exact ⟨l, e, rels_sh (fun x v => relD_sh) h hl⟩
  | undef => trivial
  | _ => simp only [relV] at r ⊢; exact relD_sh h r
theorem At_sh {b : Base} {c : CB} {cs : List Val} (hs : cs.all shared = true) {lo' : Nat} (hw : wr lo' b → wr lo b) (h : At ρ lo base b c cs w) : At ρ.heap lo' base b c cs w := by
  obtain ⟨arr, ty, fr, h1, h2, h3, h4, h5⟩ := h
  refine ⟨arr, ty, fr, h1, h2, h3, fun i y e => ?_, fun z => h5 (hw z)⟩
  obtain ⟨v, hv, hr⟩ := h4 i y e
  rw [List.all_eq_true] at hs
  exact ⟨v, hv, cellRel_sh (hs y (by rw [getAt_eq] at e; exact List.mem_of_getElem? e)) hr⟩
theorem rels_mapT {T : List Val} (ht : relT ρ T a) (xs : List Operand) : rels (relV ρ) (xs.map (ev T)) (xs.map a.eval) := by
  induction xs with
  | nil => trivial
  | cons y ys ih => exact ⟨ev_rel ht y, ih⟩
theorem call_run {f : FuncId} {c : Call} (ho : o.op = .call c) (hc : c.callee = .value (.func f)) (hf : okFn P f = true) : (execOp a.eval o).run P w = .ok (.enter f (c.args.map a.eval)) w := by
  unfold okFn at hf
  cases hfn : P.funcs[f]? with
  | none => simp [hfn] at hf
  | some fn =>
    simp only [hfn, Bool.and_eq_true, bne_iff_ne, ne_eq] at hf
    have h2 : ¬ fn.body = none := fun z => by simp [z] at hf
    simp [execOp, ho, resolve, hc, Act.eval, Deferred.ofValue, invoke, callFunc, hfn, hf.1, h2]
theorem call_wp {call : CallF} (hok : CallOk P base call) (hmono : CallMono call) {T : List Val} {M : Mem} {f : FuncId} {c : Call} {quiet : Bool} {r : Val} {H' : List Blk} (ho : o.op = .call c) (hc : c.callee = .value (.func f)) (hf : okFn P f = true) (hsh : (mapT T c.args).all sharedV = true)
    (ht : relT ρ T a) (h : Is lo base ρ G w) (hlo : lo ≤ M.hp.length) (hG : ∀ k c, ρ (.hp k) = some c → k < M.hp.length ∧ G (.hp k) = M.get (.hp k))
    (hcall : call (if quiet = true then M.hp.length else lo) f (mapT T c.args) M.hp = some (r, H')) {K : Act → World → Prop} {Q : Exit → Act → World → Prop}
    (hK : ∀ ρ' v w', After lo base ρ G w r (.call (if quiet = true then M.hp.length else lo) M.hp.length H') ρ' v w' → K (a.put o.dst v) w') : o.wp P a w K Q := by
  have hlo2 : (if quiet = true then M.hp.length else lo) ≤ M.hp.length := by split <;> omega
  obtain ⟨hrs, hpq⟩ := hmono _ _ _ _ _ _ hcall
  obtain ⟨hlen, hpre⟩ := hpq hlo2
  have hwr : ∀ k c, ρ (.hp k) = some c → wr (if quiet = true then M.hp.length else lo) (.hp k) → quiet = false ∧ wr lo (.hp k) := by
    intro k c e z
    have := (hG k c e).1
    cases quiet
    · exact ⟨rfl, z⟩
    · exact absurd (show M.hp.length ≤ k from z) (by omega)
  have his : Is (if quiet = true then M.hp.length else lo) base ρ.heap (memH M.hp) w := by
    refine ⟨fun b k cs e g => ?_, fun b b' k k' e e' g g' ne wb => ?_, fun b k e => h.dom b k (heap_le ρ b k e), h.base, fun k c cs e g => ?_, fun b b' k k' e e' ne wb fb => ?_⟩
    · cases b with
      | lo j => cases e
      | hp j =>
        have hg : G (.hp j) = some cs := (hG j k e).2.trans g
        exact At_sh (h.sh j k cs e hg) (fun z => (hwr j k e z).2) (h.at' _ _ _ e hg)
    · cases b with
      | lo j => cases e
      | hp j =>
        cases b' with
        | lo j' => cases e'
        | hp j' =>
          have h1 : (G (.hp j)).isSome = true := by rw [(hG j k e).2]; exact g
          have h2 : (G (.hp j')).isSome = true := by rw [(hG j' k' e').2]; exact g'
          exact h.inj _ _ _ _ e e' h1 h2 ne (hwr j k e wb).2
    · exact h.sh k c cs e ((hG k c e).2.trans g)
    · cases b with
      | lo j => cases e
      | hp j =>
        obtain ⟨hq, hw⟩ := hwr j k e wb
        subst hq
        exact h.injF _ _ _ _ (heap_le ρ _ _ e) (heap_le ρ _ _ e') ne hw fb
  have hcs := hok _ f _ _ _ _ hcall hlo2 ρ.heap w ((c.args.toList).map a.eval) his (fun b k e => by
    cases b with
    | lo j => cases e
    | hp j => exact ⟨j, rfl, (hG j k e).1⟩) (rels_sh (fun x v => relV_sh) hsh (rels_mapT ht _)) hrs (ht.2.2.to fun _ => rfl)
  unfold Oper.wp
  rw [call_run ho hc hf, Oper.upon_enter]
  have hargs : ((c.args.toList).map a.eval).toArray = c.args.map a.eval := by apply Array.ext'; simp
  rw [hargs] at hcs
  refine hcs.mono ?_
  rintro e w' ⟨v, ρ', rfl, hC⟩
  refine hK (fun b => match b with | .lo j => ρ (.lo j) | .hp k => ρ' (.hp k)) v w' ?_
  have hle1 : ρ.le (fun b => match b with | .lo j => ρ (.lo j) | .hp k => ρ' (.hp k)) := fun b k e => by
    cases b with
    | lo j => exact e
    | hp j => exact (hC.old j (hG j k e).1).trans e
  have hle2 : ρ'.le (fun b => match b with | .lo j => ρ (.lo j) | .hp k => ρ' (.hp k)) := fun b k e => by
    obtain ⟨j, rfl, _⟩ := hC.hp b k e
    exact e
  have hLH : ∀ j k c d, ρ (.lo j) = some c → ρ (.hp k) = some d → c.blk ≠ d.blk := by
    intro j k c d e f
    by_cases hk : k < lo
    · exact h.injF (.lo j) (.hp k) c d e f (by simp) trivial hk
    · exact fun z => h.injF (.hp k) (.lo j) d c f e (by simp) (Nat.not_lt.1 hk) trivial z.symm
  have hLN : ∀ j k c d, ρ (.lo j) = some c → ρ' (.hp k) = some d → c.blk ≠ d.blk := by
    intro j k c d e f
    by_cases hk : k < M.hp.length
    · exact hLH j k c d e ((hC.old k hk).symm.trans f)
    · rcases hC.fam k d (Nat.not_lt.1 hk) f with z | ⟨j0, c0, _, z, z2⟩
      · have := h.dom _ _ e; omega
      · rw [← z2]; exact hLH j j0 c c0 e z
  have hkA : ∀ k c, ρ (.hp k) = some c → (quiet = true ∨ k < lo) → w'.heap[c.blk]? = w.heap[c.blk]? := by
    intro k c e hq
    refine hC.kept.block _ (h.dom _ _ e) ?_
    rintro ⟨b, k', e', ⟨j, rfl, hj⟩, hb⟩
    obtain ⟨hq2, hw⟩ := hwr j k' e' hj
    rcases hq with hq | hq
    · rw [hq] at hq2; cases hq2
    · exact h.injF (.hp j) (.hp k) k' c e' e (fun z => by cases z; exact absurd (show lo ≤ k from hw) (by omega)) hw hq hb
  have hkL : ∀ j c, ρ (.lo j) = some c → w'.heap[c.blk]? = w.heap[c.blk]? := by
    intro j c e
    refine hC.kept.block _ (h.dom _ _ e) ?_
    rintro ⟨b, k', e', ⟨j', rfl, hj⟩, hb⟩
    exact hLH j j' c k' e e' hb.symm
  have hnew : ∀ k d, ρ' (.hp k) = some d → M.hp.length ≤ k → quiet = true → w.heap.size ≤ d.blk := by
    intro k d e hk hq
    rcases hC.fam k d hk e with z | ⟨j0, c0, hj, z, z2⟩
    · exact z
    · have := (hwr j0 c0 z hj).1
      rw [hq] at this; cases this
  have hif : ∀ k, appG (.call (if quiet = true then M.hp.length else lo) M.hp.length H') G (.hp k) = if ((quiet = true ∧ k < M.hp.length) ∨ (quiet = false ∧ k < lo)) ∨ H'.length ≤ k then G (.hp k) else liveAt H' k := by
    intro k
    simp only [appG]
    cases quiet <;> simp [Nat.ble_eq, Nat.blt_eq]
  have hold : ∀ k c, ρ' (.hp k) = some c → ((quiet = true ∧ k < M.hp.length) ∨ (quiet = false ∧ k < lo)) → ρ (.hp k) = some c ∧ (quiet = true ∨ k < lo) := by
    intro k c e z
    rcases z with ⟨z1, z2⟩ | ⟨z1, z2⟩
    · exact ⟨(hC.old k z2).symm.trans e, .inl z1⟩
    · exact ⟨(hC.old k (by omega)).symm.trans e, .inr z2⟩
  refine ⟨relV_mono hle2 _ _ hC.val, hle1, fun b hb => ?_, ⟨fun b k cs e g => ?_, fun b b' k k' e e' g g' ne wb => ?_, fun b k e => ?_, ?_, fun k c cs e g => ?_, fun b b' k k' e e' ne wb fb => ?_⟩, ?_, ?_⟩
  · cases b with
    | lo j => rfl
    | hp j =>
      show ρ' (.hp j) = ρ (.hp j)
      by_cases hj : j < M.hp.length
      · exact hC.old j hj
      · cases e1 : ρ' (.hp j) with
        | some k =>
          obtain ⟨j', z, hl⟩ := hC.hp _ _ e1
          cases z
          exact absurd ⟨j, rfl, Nat.not_lt.1 hj, hl⟩ hb
        | none =>
          cases e2 : ρ (.hp j) with
          | none => rfl
          | some k => exact absurd (hG j k e2).1 hj
  · cases b with
    | lo j =>
      have g2 : G (.lo j) = some cs := g
      exact At_mono hle1 (hkL j k e) (h.at' _ _ _ e g2)
    | hp j =>
      rw [hif] at g
      have e2 : ρ' (.hp j) = some k := e
      have hjl : j < H'.length := by obtain ⟨j', z, hl⟩ := hC.hp _ _ e2; cases z; exact hl
      by_cases hq : (quiet = true ∧ j < M.hp.length) ∨ (quiet = false ∧ j < lo)
      · rw [if_pos (.inl hq)] at g
        obtain ⟨e3, hq2⟩ := hold j k e2 hq
        exact At_mono hle1 (hkA j k e3 hq2) (h.at' _ _ _ e3 g)
      · rw [if_neg (fun z => z.elim hq (by omega))] at g
        obtain ⟨arr, ty, fr, h1, h2, h3, h4, h5⟩ := hC.is.at' _ _ _ e2 g
        refine ⟨arr, ty, fr, h1, h2, h3, fun i y ey => ?_, fun z => h5 ?_⟩
        · obtain ⟨v, hv, hr⟩ := h4 i y ey
          exact ⟨v, hv, cellRel_mono hle2 _ _ hr⟩
        · cases quiet
          · exact z
          · show M.hp.length ≤ j
            simp at hq
            exact hq
  · cases b with
    | lo j =>
      cases b' with
      | lo j' => exact h.injF _ _ _ _ e e' ne trivial trivial
      | hp j' => exact hLN j j' k k' e e'
    | hp j =>
      cases b' with
      | lo j' => exact fun z => hLN j' j k' k e' e z.symm
      | hp j' =>
        have e2 : ρ' (.hp j) = some k := e
        have e3 : ρ' (.hp j') = some k' := e'
        have hjl : j < H'.length := by obtain ⟨_, z, hl⟩ := hC.hp _ _ e2; cases z; exact hl
        have hjl' : j' < H'.length := by obtain ⟨_, z, hl⟩ := hC.hp _ _ e3; cases z; exact hl
        rw [hif] at g g'
        by_cases hq : quiet = true
        · by_cases hj : j < M.hp.length
          · have e4 := (hC.old j hj).symm.trans e2
            rw [if_pos (.inl (.inl ⟨hq, hj⟩))] at g
            by_cases hj' : j' < M.hp.length
            · rw [if_pos (.inl (.inl ⟨hq, hj'⟩))] at g'
              exact h.inj _ _ _ _ e4 ((hC.old j' hj').symm.trans e3) g g' ne wb
            · have := hnew j' k' e3 (Nat.not_lt.1 hj') hq
              have := h.dom _ _ e4
              omega
          · by_cases hj' : j' < M.hp.length
            · have := hnew j k e2 (Nat.not_lt.1 hj) hq
              have := h.dom _ _ ((hC.old j' hj').symm.trans e3)
              omega
            · rw [if_neg (by simp [hq]; omega)] at g g'
              refine hC.is.inj _ _ _ _ e2 e3 g g' ne ?_
              rw [if_pos hq]
              exact Nat.not_lt.1 hj
        · have hq' : quiet = false := by simpa using hq
          have hwb : lo ≤ j := wb
          by_cases hj' : j' < lo
          · refine hC.is.injF _ _ _ _ e2 e3 ne ?_ ?_
            · rw [if_neg hq]; exact wb
            · rw [if_neg hq]; exact hj'
          · rw [if_neg (by simp [hq']; omega)] at g g'
            refine hC.is.inj _ _ _ _ e2 e3 g g' ne ?_
            rw [if_neg hq]
            exact wb
  · cases b with
    | lo j => exact Nat.lt_of_lt_of_le (h.dom _ _ e) hC.kept.size
    | hp j => exact hC.is.dom (.hp j) k e
  · exact hC.is.base
  · have e2 : ρ' (.hp k) = some c := e
    rw [hif] at g
    have hjl : k < H'.length := by obtain ⟨_, z, hl⟩ := hC.hp _ _ e2; cases z; exact hl
    by_cases hq : (quiet = true ∧ k < M.hp.length) ∨ (quiet = false ∧ k < lo)
    · rw [if_pos (.inl hq)] at g
      exact h.sh k c cs (hold k c e2 hq).1 g
    · rw [if_neg (fun z => z.elim hq (by omega))] at g
      exact hC.is.sh k c cs e2 g
  · cases b with
    | lo j =>
      cases b' with
      | lo j' => exact h.injF _ _ _ _ e e' ne trivial trivial
      | hp j' => exact hLN j j' k k' e e'
    | hp j =>
      cases b' with
      | lo j' => exact fun z => hLN j' j k' k e' e z.symm
      | hp j' =>
        have e2 : ρ' (.hp j) = some k := e
        have e3 : ρ' (.hp j') = some k' := e'
        have hfl : j' < lo := fb
        have e5 := (hC.old j' (by omega)).symm.trans e3
        by_cases hj : j < M.hp.length
        · exact h.injF _ _ _ _ ((hC.old j hj).symm.trans e2) e5 ne wb fb
        · by_cases hq : quiet = true
          · have := hnew j k e2 (Nat.not_lt.1 hj) hq
            have := h.dom _ _ e5
            omega
          · refine hC.is.injF _ _ _ _ e2 e3 ne ?_ ?_
            · rw [if_neg hq]; exact wb
            · rw [if_neg hq]; exact fb
  · refine hC.kept.mono ?_
    rintro c hc ⟨b, k, e, ⟨j, rfl, hj⟩, hb⟩
    exact ⟨.hp j, k, e, ⟨j, rfl, hj⟩, hb⟩
  · rintro b c ⟨k, rfl, hk, hk2⟩ e
    rcases hC.fam k c hk e with z | ⟨j0, c0, hj, z, z2⟩
    · exact .inl z
    · exact .inr ⟨.hp j0, c0, ⟨j0, rfl, hj⟩, z, z2⟩
end
end Go.Proofs.YtponkdimnafppaaDoor.VM
