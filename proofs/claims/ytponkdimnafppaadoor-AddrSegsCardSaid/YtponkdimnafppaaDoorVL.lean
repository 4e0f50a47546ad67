/- A plain machine for the program's functions: steps in the text's order. -/
import Derived.Test.YtponkdimnafppaaDoorVK
import Derived.LoopN
namespace Go.Proofs.YtponkdimnafppaaDoor.VM
open Go
set_option linter.unusedVariables false
set_option linter.unusedSimpArgs false
/-- What a step may tell of memory. -/
def Shape (lo : Nat) (M : Mem) : D → Prop
  | .none | .rd _ => True
  | .new _ b _ => b = .lo M.loc.length ∨ b = .hp M.hp.length
  | .wr b _ => (M.get b).isSome = true ∧ mayWrite lo b = true
  | .ap _ b b' _ => ∃ k, b = .hp k ∧ b' = .hp M.hp.length ∧ lo ≤ k ∧ (M.get b).isSome = true
  | .call p m H => m = M.hp.length ∧ (lo ≤ M.hp.length → lo ≤ p ∧ p ≤ M.hp.length ∧ M.hp.length ≤ H.length ∧ ∀ k, k < p → H[k]? = M.hp[k]?)
section
variable {P : Program} {lo : Nat} {o : Oper} {x : Val}
theorem newV_shape {l : Bool} {cs : List Val} {M : Mem} {f : Base → Val × D} {d : D} (h : (newV l cs M).map f = some (x, d)) (hf : ∀ b, ∃ r c, (f b).2 = .new r b c) : Shape lo M d := by
  obtain ⟨b, hb, e⟩ := newV_b h
  obtain ⟨r, c, h2⟩ := hf b
  rw [e] at h2
  simp only at h2
  subst h2
  have := (newV_spec hb).1
  cases l
  · exact .inr this
  · exact .inl this
theorem step_shape {call : CallF} (hmono : CallMono call) {locs : List Nat} {quiet : Bool} {T : List Val} {M : Mem} {d : D} (hs : stepV P lo quiet call locs T M o = some (x, d)) : Shape lo M d := by
  have mn : ∀ {α : Type} {y : Option α} {f : α → Val} {x : Val} {d : D}, (y.map fun v => (f v, D.none)) = some (x, d) → Shape lo M d := fun h => by rw [(map_none h).1]; trivial
  unfold stepV at hs
  cases hop : o.op with
  | move y => simp only [hop, Option.some.injEq, Prod.mk.injEq] at hs; rw [← hs.2]; trivial
  | assign y => simp only [hop, Option.some.injEq, Prod.mk.injEq] at hs; rw [← hs.2]; trivial
  | pick c y z =>
    simp only [hop] at hs
    split at hs
    · exact mn hs
    · cases hs
  | alloc t =>
    simp only [hop, Option.bind_eq_some_iff] at hs
    obtain ⟨cs, _, hs⟩ := hs
    exact newV_shape hs fun b => ⟨_, _, rfl⟩
  | box t y => simp only [hop] at hs; exact newV_shape hs fun b => ⟨_, _, rfl⟩
  | build t ps =>
    simp only [hop, Option.bind_eq_some_iff] at hs
    obtain ⟨_, _, _, _, hs⟩ := hs
    exact mn hs
  | buildSlice t n ps =>
    simp only [hop, Option.bind_eq_some_iff] at hs
    obtain ⟨_, _, _, _, _, _, hs⟩ := hs
    split at hs
    · simp only [Option.bind_eq_some_iff] at hs
      obtain ⟨_, _, hs⟩ := hs
      exact newV_shape hs fun b => ⟨_, _, rfl⟩
    · cases hs
  | load t y =>
    simp only [hop] at hs
    split at hs
    · simp only [Option.map_eq_some_iff, Prod.mk.injEq] at hs
      obtain ⟨_, _, _, rfl⟩ := hs
      trivial
    · cases hs
  | store t y z =>
    simp only [hop] at hs
    split at hs
    · simp only [Option.map_eq_some_iff, Prod.mk.injEq] at hs
      obtain ⟨d', hw, _, rfl⟩ := hs
      unfold writeV at hw
      split at hw
      · rename_i hc
        simp only [Option.bind_eq_some_iff, Option.map_eq_some_iff] at hw
        obtain ⟨cs, hm, _, _, rfl⟩ := hw
        exact ⟨by simp [hm], hc.1⟩
      · cases hw
    · cases hs
  | nilCheck y =>
    simp only [hop] at hs
    split at hs
    · simp only [Option.some.injEq, Prod.mk.injEq] at hs; rw [← hs.2]; trivial
    · cases hs
  | binOp op t y z u => simp only [hop] at hs; exact mn hs
  | unOp op t y => simp only [hop] at hs; exact mn hs
  | convert s e y =>
    simp only [hop] at hs
    unfold convV at hs
    split at hs
    · split at hs
      · exact newV_shape hs fun b => ⟨_, _, rfl⟩
      · cases hs
    · split at hs
      · split at hs
        · simp only [Option.bind_eq_some_iff, Option.map_eq_some_iff, Prod.mk.injEq] at hs
          obtain ⟨_, _, _, _, _, _, _, rfl⟩ := hs
          trivial
        · cases hs
      · cases hs
    · exact mn hs
  | makeSlice t l c =>
    simp only [hop] at hs
    unfold makeV at hs
    split at hs
    · split at hs
      · split at hs
        · exact newV_shape hs fun b => ⟨_, _, rfl⟩
        · cases hs
      · cases hs
    · cases hs
  | slice t y l hi m =>
    cases m with
    | some m => simp [hop] at hs
    | none => simp only [hop] at hs; exact mn hs
  | fieldAddr s y f =>
    simp only [hop] at hs
    split at hs
    · split at hs
      · simp only [Option.some.injEq, Prod.mk.injEq] at hs; rw [← hs.2]; trivial
      · cases hs
    · cases hs
  | field t y f =>
    simp only [hop] at hs
    split at hs
    · exact mn hs
    · cases hs
  | indexAddr t y z =>
    simp only [hop] at hs
    split at hs
    · split at hs
      · simp only [Option.some.injEq, Prod.mk.injEq] at hs; rw [← hs.2]; trivial
      · cases hs
    · simp only [Option.bind_eq_some_iff] at hs
      obtain ⟨_, _, hs⟩ := hs
      split at hs
      · simp only [Option.some.injEq, Prod.mk.injEq] at hs; rw [← hs.2]; trivial
      · cases hs
    · cases hs
  | index t y z =>
    simp only [hop] at hs
    split at hs
    · split at hs
      · simp only [Option.some.injEq, Prod.mk.injEq] at hs; rw [← hs.2]; trivial
      · cases hs
    · simp only [Option.bind_eq_some_iff] at hs
      obtain ⟨_, _, hs⟩ := hs
      split at hs
      · exact mn hs
      · cases hs
    · cases hs
  | extract y i =>
    simp only [hop] at hs
    split at hs
    · exact mn hs
    · cases hs
  | call c =>
    simp only [hop] at hs
    split at hs
    · split at hs
      · simp only [Option.map_eq_some_iff, Prod.mk.injEq] at hs
        obtain ⟨r, hr, _, rfl⟩ := hs
        have h1 := (hmono _ _ _ _ _ _ hr).2
        refine ⟨rfl, fun z => ?_⟩
        cases quiet
        · exact ⟨Nat.le_refl _, z, h1 z⟩
        · exact ⟨z, Nat.le_refl _, h1 (Nat.le_refl _)⟩
      · cases hs
    · split at hs
      · unfold appendV at hs
        simp only [Mem.top_eq] at hs
        simp only [Option.bind_eq_some_iff] at hs
        obtain ⟨_, _, _, _, _, _, _, _, _, _, hs⟩ := hs
        split at hs
        · split at hs
          · split at hs
            · split at hs
              · simp only [Option.some.injEq, Prod.mk.injEq] at hs; rw [← hs.2]; trivial
              · exact newV_shape hs fun b => ⟨_, _, rfl⟩
            · cases hs
          · split at hs
            · rename_i hc
              split at hs
              · simp only [Option.bind_eq_some_iff] at hs
                obtain ⟨cs, hm, hs⟩ := hs
                split at hs
                · simp only [Option.some.injEq, Prod.mk.injEq] at hs
                  obtain ⟨_, rfl⟩ := hs
                  exact ⟨_, rfl, rfl, Nat.le_of_ble_eq_true hc.2.1, by simp [hm]⟩
                · cases hs
              · cases hs
            · cases hs
          · cases hs
        · cases hs
      · cases hs
    · split at hs
      · split at hs
        · simp only [Option.some.injEq, Prod.mk.injEq] at hs; rw [← hs.2]; trivial
        · cases hs
      · split at hs
        · simp only [Option.some.injEq, Prod.mk.injEq] at hs; rw [← hs.2]; trivial
        · cases hs
      · split at hs
        · simp only [Option.some.injEq, Prod.mk.injEq] at hs; rw [← hs.2]; trivial
        · cases hs
      · exact mn hs
    · split at hs
      · simp only [Option.some.injEq, Prod.mk.injEq] at hs; rw [← hs.2]; trivial
      · exact mn hs
    · split at hs
      · simp only [Option.some.injEq, Prod.mk.injEq] at hs; rw [← hs.2]; trivial
      · exact mn hs
    · cases hs
  | _ => simp [hop] at hs
/-! ### memory and what is told of it -/
theorem get_lo (M : Mem) (k : Nat) : M.get (.lo k) = M.loc[k]? := rfl
theorem get_hp (M : Mem) (k : Nat) : M.get (.hp k) = liveAt M.hp k := rfl
theorem live_append (H : List Blk) (b : Blk) (k : Nat) (hk : k ≠ H.length) : liveAt (H ++ [b]) k = liveAt H k := by
  unfold liveAt
  congr 1
  by_cases h : k < H.length
  · rw [List.getElem?_append_left h]
  · rw [List.getElem?_eq_none (by simp; omega), List.getElem?_eq_none (by omega)]
theorem app_get {M : Mem} {d : D} (hlow : lo ≤ M.hp.length) (h : Shape lo M d) (b : Base) : (M.app d).get b = appG d M.get b := by
  cases d with
  | none => rfl
  | rd _ => rfl
  | new r b' cs =>
    simp only [appG]
    rcases h with rfl | rfl
    · cases b with
      | lo k =>
        simp only [Mem.app, get_lo]
        by_cases hk : k = M.loc.length
        · subst hk; rw [upd_same]; simp
        · rw [upd_ne _ _ (by simpa using hk), get_lo]
          by_cases h : k < M.loc.length
          · rw [List.getElem?_append_left h]
          · rw [List.getElem?_eq_none (by simp; omega), List.getElem?_eq_none (by omega)]
      | hp k => rw [upd_ne _ _ (by simp)]; rfl
    · cases b with
      | lo k => rw [upd_ne _ _ (by simp)]; rfl
      | hp k =>
        simp only [Mem.app, get_hp]
        by_cases hk : k = M.hp.length
        · subst hk; rw [upd_same]; simp [liveAt]
        · rw [upd_ne _ _ (by simpa using hk), get_hp, live_append _ _ _ hk]
  | wr b' cs =>
    simp only [appG, Mem.app]
    cases b' with
    | lo j =>
      have hj : j < M.loc.length := by
        have := h.1
        rw [get_lo] at this
        rcases Nat.lt_or_ge j M.loc.length with z | z
        · exact z
        · rw [List.getElem?_eq_none z] at this; cases this
      cases b with
      | lo k =>
        by_cases hk : k = j
        · subst hk; rw [upd_same]; simp [Mem.set, get_lo, hj]
        · rw [upd_ne _ _ (by simpa using hk)]
          simp only [Mem.set, get_lo]
          rw [List.getElem?_set_ne (fun z => hk z.symm)]
      | hp k => rw [upd_ne _ _ (by simp)]; rfl
    | hp j =>
      have hj : j < M.hp.length := by
        have := h.1
        rw [get_hp] at this
        unfold liveAt at this
        rcases Nat.lt_or_ge j M.hp.length with z | z
        · exact z
        · rw [List.getElem?_eq_none z] at this; cases this
      cases b with
      | lo k => rw [upd_ne _ _ (by simp)]; rfl
      | hp k =>
        by_cases hk : k = j
        · subst hk; rw [upd_same]; simp [Mem.set, get_hp, liveAt, hj]
        · rw [upd_ne _ _ (by simpa using hk)]
          simp only [Mem.set, get_hp, liveAt]
          rw [List.getElem?_set_ne (fun z => hk z.symm)]
  | ap r b1 b2 cs =>
    obtain ⟨j, rfl, rfl, hlo, hm⟩ := h
    have hj : j < M.hp.length := by
      rw [get_hp] at hm
      unfold liveAt at hm
      rcases Nat.lt_or_ge j M.hp.length with z | z
      · exact z
      · rw [List.getElem?_eq_none z] at hm; cases hm
    simp only [appG, Mem.app]
    cases b with
    | lo k => rw [upd_ne _ _ (by simp), upd_ne _ _ (by simp)]; rfl
    | hp k =>
      simp only [get_hp]
      by_cases hk : k = M.hp.length
      · subst hk; rw [upd_same]; simp [liveAt]
      · rw [upd_ne _ _ (by simpa using hk), live_append _ _ _ (by simpa using hk)]
        by_cases hk2 : k = j
        · subst hk2; rw [upd_same]; simp [liveAt, hj]
        · rw [upd_ne _ _ (by simpa using hk2), get_hp]
          unfold liveAt
          rw [List.getElem?_set_ne (fun z => hk2 z.symm)]
  | call q n H =>
    obtain ⟨rfl, hlo⟩ := h
    obtain ⟨_, hpm, hl, hp⟩ := hlo hlow
    cases b with
    | lo k => rfl
    | hp k =>
      simp only [appG, Mem.app, get_hp]
      split
      · rename_i hc
        simp only [Bool.or_eq_true, Nat.blt_eq, Nat.ble_eq] at hc
        rcases hc with hc | hc
        · unfold liveAt
          rw [hp k hc]
        · unfold liveAt
          rw [List.getElem?_eq_none hc, List.getElem?_eq_none (by omega)]
      · rfl
theorem app_grows {M : Mem} {d : D} (hlow : lo ≤ M.hp.length) (h : Shape lo M d) : M.loc.length ≤ (M.app d).loc.length ∧ M.hp.length ≤ (M.app d).hp.length ∧ (∀ k, k < lo → (M.app d).hp[k]? = M.hp[k]?) ∧ ∀ b, newsIn d b → inR (M.app d) b ∧ ¬ inR M b := by
  cases d with
  | none => exact ⟨Nat.le_refl _, Nat.le_refl _, fun _ _ => rfl, fun b hb => by simp [newsIn, newsOf] at hb⟩
  | rd _ => exact ⟨Nat.le_refl _, Nat.le_refl _, fun _ _ => rfl, fun b hb => by simp [newsIn, newsOf] at hb⟩
  | new r b' cs =>
    rcases h with rfl | rfl
    · refine ⟨by simp [Mem.app], Nat.le_refl _, fun _ _ => rfl, fun b hb => ?_⟩
      simp only [newsIn, newsOf, List.mem_singleton] at hb
      subst hb
      simp [inR, Mem.app]
    · refine ⟨Nat.le_refl _, by simp [Mem.app], fun k hk => ?_, fun b hb => ?_⟩
      · simp only [Mem.app]; rw [List.getElem?_append_left (by omega)]
      · simp only [newsIn, newsOf, List.mem_singleton] at hb
        subst hb
        simp [inR, Mem.app]
  | wr b' cs =>
    refine ⟨?_, ?_, fun k hk => ?_, fun b hb => by simp [newsIn, newsOf] at hb⟩
    · cases b' <;> simp [Mem.app, Mem.set]
    · cases b' <;> simp [Mem.app, Mem.set]
    · cases b' with
      | lo j => rfl
      | hp j =>
        have hj : lo ≤ j := Nat.le_of_ble_eq_true h.2
        simp only [Mem.app, Mem.set]
        rw [List.getElem?_set_ne (by omega)]
  | ap r b1 b2 cs =>
    obtain ⟨j, rfl, rfl, hlo, hm⟩ := h
    refine ⟨Nat.le_refl _, by simp [Mem.app], fun k hk => ?_, fun b hb => ?_⟩
    · simp only [Mem.app]
      rw [List.getElem?_append_left (by simp; omega), List.getElem?_set_ne (by omega)]
    · simp only [newsIn, newsOf, List.mem_singleton] at hb
      subst hb
      simp [inR, Mem.app]
  | call p m H =>
    obtain ⟨rfl, hlo⟩ := h
    obtain ⟨hlp, hpm, hl, hp⟩ := hlo hlow
    refine ⟨Nat.le_refl _, hl, fun k hk => hp k (by omega), fun b hb => ?_⟩
    obtain ⟨k, rfl, h1, h2⟩ := hb
    exact ⟨h2, Nat.not_lt.2 h1⟩
end
/-- A plain state stands for a state of the model, in a call that began in a world w0. -/
structure Sim (lo base : Nat) (H0 : List Blk) (ρ0 : Ren) (w0 : World) (s : St) (ρ : Ren) (a : Act) (w : World) : Prop where
  t : relT ρ s.T a
  is : Is lo base ρ s.M.get w
  dom : ∀ b c, ρ b = some c → inR s.M b
  low : lo ≤ s.M.hp.length
  le : ρ0.le ρ
  old : ∀ k, k < H0.length → ρ (.hp k) = ρ0 (.hp k)
  grow : H0.length ≤ s.M.hp.length
  kept : Kept (img ρ0 (fun b => ∃ k, b = .hp k ∧ lo ≤ k)) w0 w
  fam : ∀ b c, ρ b = some c → wr lo b → w0.heap.size ≤ c.blk ∨ ∃ k c0, lo ≤ k ∧ ρ0 (.hp k) = some c0 ∧ c0.blk = c.blk
  defers : a.defers = []
section
variable {P : Program} {lo base : Nat} {H0 : List Blk} {ρ0 ρ : Ren} {w0 w : World} {a : Act} {s : St} {o : Oper} {x : Val}
theorem put_defers (a : Act) (d : Option Tmp) (v : Value) : (a.put d v).defers = a.defers := by cases d <;> rfl
theorem Sim.skip (h : Sim lo base H0 ρ0 w0 s ρ a w) : Sim lo base H0 ρ0 w0 ⟨putT o (.tup []) s.T, s.M⟩ ρ (a.put o.dst undef) w :=
  { h with t := relT_put h.t (show relV ρ (.tup []) undef from ⟨#[], rfl, trivial⟩), defers := (put_defers _ _ _).trans h.defers }
theorem Sim.step (h : Sim lo base H0 ρ0 w0 s ρ a w) {d : D} (hsh : Shape lo s.M d) {ρ' : Ren} {v : Value} {w' : World} (hA : After lo base ρ s.M.get w x d ρ' v w') : Sim lo base H0 ρ0 w0 ⟨putT o x s.T, s.M.app d⟩ ρ' (a.put o.dst v) w' := by
  obtain ⟨g1, g2, g3, g4⟩ := app_grows h.low hsh
  have wof : ∀ b c, writesIn lo d b → ρ b = some c → wr lo b := by
    intro b c hb e
    cases d with
    | none => simp [writesIn, wrsOf] at hb
    | rd _ => simp [writesIn, wrsOf] at hb
    | new _ _ _ => simp [writesIn, wrsOf] at hb
    | wr b' cs => simp only [writesIn, wrsOf, List.mem_singleton] at hb; subst hb; exact mayWrite_wr hsh.2
    | ap r b1 b2 cs =>
      obtain ⟨k, rfl, rfl, h1, h2⟩ := hsh
      simp only [writesIn, wrsOf, List.mem_singleton] at hb; subst hb; exact h1
    | call p m H => obtain ⟨k, rfl, hk⟩ := hb; exact Nat.le_trans (hsh.2 h.low).1 hk
  refine ⟨relT_put (relT_mono hA.le h.t) hA.val, hA.is.congr (fun b _ _ => app_get h.low hsh b) rfl, fun b c e => ?_, Nat.le_trans h.low g2, Ren.le_trans h.le hA.le, fun k hk => ?_, Nat.le_trans h.grow g2, ?_, fun b c e hw => ?_, (put_defers _ _ _).trans h.defers⟩
  · by_cases hn : newsIn d b
    · exact (g4 b hn).1
    · rw [hA.old b hn] at e
      have := h.dom b c e
      cases b with
      | lo k => exact Nat.lt_of_lt_of_le this g1
      | hp k => exact Nat.lt_of_lt_of_le this g2
  · rw [hA.old (.hp k) (fun hn => (g4 (.hp k) hn).2 (show k < s.M.hp.length from Nat.lt_of_lt_of_le hk h.grow))]
    exact h.old k hk
  · refine h.kept.trans hA.kept ?_
    rintro c hc ⟨b, k, e, hb, rfl⟩
    rcases h.fam b k e (wof b k hb e) with z | ⟨j, c0, h1, h2, h3⟩
    · omega
    · exact ⟨.hp j, c0, h2, ⟨j, rfl, h1⟩, h3⟩
  · by_cases hn : newsIn d b
    · rcases hA.fam b c hn e with z | ⟨b0, c0, h1, h2, h3⟩
      · exact .inl (Nat.le_trans h.kept.size z)
      · rcases h.fam b0 c0 h2 (wof b0 c0 h1 h2) with z | ⟨j, c1, h4, h5, h6⟩
        · exact .inl (h3 ▸ z)
        · exact .inr ⟨j, c1, h4, h5, h6.trans h3⟩
    · rw [hA.old b hn] at e
      exact h.fam b c e hw
theorem Sim.fresh (h : Sim lo base H0 ρ0 w0 s ρ a w) {d : D} (hsh : Shape lo s.M d) (b : Base) (hb : b ∈ newsOf d) : ρ b = none := by
  cases e : ρ b with
  | none => rfl
  | some c =>
    have : newsIn d b := by cases d <;> first | exact hb | (simp [newsOf] at hb)
    exact absurd (h.dom b c e) ((app_grows h.low hsh).2.2.2 b this).2
theorem wanted_ok {ops : Array Oper} {T : List Val} {b : Bool} (ht : relT ρ T a) (h : wantV ops T o = some b) : Region.wanted o (yielded ops a.tmps) = b := by
  unfold wantV at h
  unfold Region.wanted
  cases hg : o.guard with
  | none => simp [hg] at h ⊢; exact h
  | some gw =>
    obtain ⟨j, want⟩ := gw
    simp only [hg] at h ⊢
    unfold yielded
    cases hd : (ops[j]?).bind (·.dst) with
    | none => simp only [hd, Option.some.injEq] at h; subst h; rfl
    | some d =>
      simp only [hd, Option.bind_some] at h ⊢
      cases hx : getAt d T with
      | none => simp [hx] at h
      | some y =>
        have hr := ht.2.1 d y hx
        cases y with
        | bool q =>
          simp only [hx, Option.some.injEq] at h
          have e : a.tmps.getD d undef = .bool q := hr
          cases ht2 : a.tmps[d]? with
          | none => simp [ht2, undef] at e
          | some z =>
            simp [ht2] at e
            subst e
            rw [← h]
            cases q <;> cases want <;> rfl
        | tup vs =>
          simp only [hx, Option.some.injEq] at h
          subst h
          obtain ⟨l, e, _⟩ := hr
          cases ht2 : a.tmps[d]? with
          | none => rfl
          | some z =>
            simp [ht2] at e
            subst e
            rfl
        | _ => simp [hx] at h
/-- A region whose operations go in the text's order. -/
theorem ops_ok {call : CallF} (hok : CallOk P base call) (hmono : CallMono call) {locs : List Nat} {quiet : Bool} {ops : Array Oper} {Q : Exit → Act → World → Prop} :
    ∀ (os : List Oper) (i : Nat) (l l' : List (Nat × D)) (s s' : St) (ρ : Ren) (a : Act) (w : World), os = ops.toList.drop i → runOps P lo quiet call locs ops os i l s = some (l', s') → Sim lo base H0 ρ0 w0 s ρ a w →
      (∀ ρ' a' w', Sim lo base H0 ρ0 w0 s' ρ' a' w' → Q .normal a' w') → wpOps P ops Q (List.range' i os.length) a w
  | [], i, l, l', s, s', ρ, a, w, _, h, hS, hQ => by
    simp only [runOps, Option.some.injEq, Prod.mk.injEq] at h
    obtain ⟨rfl, rfl⟩ := h
    exact hQ ρ a w hS
  | o :: os, i, l, l', s, s', ρ, a, w, ho, h, hS, hQ => by
    have hoi : ops[i]? = some o := by
      have := congrArg (fun q => q[0]?) ho
      simpa using this.symm
    have hos : os = ops.toList.drop (i + 1) := by
      have := congrArg List.tail ho
      simpa [List.tail_drop] using this
    rw [List.length_cons, List.range'_succ]
    simp only [wpOps, hoi]
    simp only [runOps] at h
    cases hw : wantV ops s.T o with
    | none => simp [hw] at h
    | some b =>
      rw [wanted_ok hS.t hw]
      simp only [hw] at h
      cases b
      · simp only [Bool.false_eq_true, if_false] at h ⊢
        exact ops_ok hok hmono os (i + 1) l l' _ s' ρ _ w hos h hS.skip hQ
      · simp only [if_true] at h ⊢
        cases hst : stepV P lo quiet call locs s.T s.M o with
        | none => simp [hst] at h
        | some xd =>
          obtain ⟨x, d⟩ := xd
          simp only [hst] at h
          have hsh := step_shape hmono hst
          exact .inl (step_wp hok hmono hst hS.t hS.is (fun _ _ _ => rfl) (hS.fresh hsh) (fun _ _ _ _ => ⟨hS.low, fun k c e => ⟨hS.dom _ _ e, rfl⟩⟩) fun ρ' v w' hA =>
            ops_ok hok hmono os (i + 1) _ l' _ s' ρ' _ w' hos h (hS.step hsh hA) hQ)
end
end Go.Proofs.YtponkdimnafppaaDoor.VM
