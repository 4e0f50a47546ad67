/- A plain machine for the program's functions: one step, whatever it is. -/
import Derived.Test.YtponkdimnafppaaDoorVJ
namespace Go.Proofs.YtponkdimnafppaaDoor.VM
open Go
set_option linter.unusedVariables false
set_option linter.unusedSimpArgs false
section
variable {P : Program} {lo base : Nat} {ρ : Ren} {G : Mem?} {w : World} {a : Act} {o : Oper} {x : Val}
theorem newV_b {l : Bool} {cs : List Val} {M : Mem} {f : Base → Val × D} {x : Val} {d : D} (h : (newV l cs M).map f = some (x, d)) : ∃ b, newV l cs M = some b ∧ f b = (x, d) := by
  cases hn : newV l cs M with
  | none => simp [hn] at h
  | some b => simp only [hn, Option.map_some, Option.some.injEq] at h; exact ⟨b, rfl, h⟩
theorem map_none {α : Type} {y : Option α} {f : α → Val} {x : Val} {d : D} (h : (y.map fun v => (f v, D.none)) = some (x, d)) : d = .none ∧ ∃ v, y = some v ∧ f v = x := by
  cases y with
  | none => cases h
  | some v => simp only [Option.map_some, Option.some.injEq, Prod.mk.injEq] at h; exact ⟨h.2.symm, v, rfl, h.1⟩
/-- All but the calls of the program's functions. -/
theorem step_done {call : CallF} {locs : List Nat} {quiet : Bool} {T : List Val} {M : Mem} {d : D} (hs : stepV P lo quiet call locs T M o = some (x, d)) (hnc : ∀ c f, o.op = .call c → c.callee ≠ .value (.func f)) (ht : relT ρ T a) (h : Is lo base ρ G w)
    (hrd : ∀ b ∈ rdsOf d, (ρ b).isSome = true → G b = M.get b) (hnew : ∀ b ∈ newsOf d, ρ b = none) : Done P lo base ρ G w a o x d ∧ ∀ q n H, d ≠ .call q n H := by
  have gen : ∀ {x d}, ((genStep P T o).map fun v => (v, D.none)) = some (x, d) → (∀ cs b, o.op ≠ .select cs b) → Done P lo base ρ G w a o x d ∧ ∀ q n H, d ≠ .call q n H := by
    intro x d e hsel
    obtain ⟨rfl, v, hv, rfl⟩ := map_none e
    exact ⟨gen_ok ht h hsel hv, fun _ _ _ z => by cases z⟩
  unfold stepV at hs
  cases hop : o.op with
  | move y =>
    simp only [hop, Option.some.injEq, Prod.mk.injEq] at hs
    obtain ⟨rfl, rfl⟩ := hs
    exact ⟨move_ok (.inl hop) ht h, fun _ _ _ z => by cases z⟩
  | assign y =>
    simp only [hop, Option.some.injEq, Prod.mk.injEq] at hs
    obtain ⟨rfl, rfl⟩ := hs
    exact ⟨move_ok (.inr hop) ht h, fun _ _ _ z => by cases z⟩
  | pick c y z =>
    simp only [hop] at hs
    split at hs
    · rename_i t hc
      obtain ⟨rfl, v, hv, rfl⟩ := map_none hs
      exact ⟨pick_ok hop ht h hc hv, fun _ _ _ z => by cases z⟩
    · cases hs
  | alloc t =>
    simp only [hop] at hs
    cases hz : zeroB P t with
    | none => simp [hz] at hs
    | some cs =>
      simp only [hz, Option.bind_some] at hs
      obtain ⟨b, hb, e⟩ := newV_b hs
      simp only [ptrTo, Prod.mk.injEq] at e
      obtain ⟨rfl, rfl⟩ := e
      exact ⟨alloc_ok hop ht h hz hb (hnew b (by simp [newsOf])), fun _ _ _ z => by cases z⟩
  | box t y =>
    simp only [hop] at hs
    obtain ⟨b, hb, e⟩ := newV_b hs
    simp only [ptrTo, Prod.mk.injEq] at e
    obtain ⟨rfl, rfl⟩ := e
    exact ⟨box_ok hop ht h hb (hnew b (by simp [newsOf])), fun _ _ _ z => by cases z⟩
  | build t ps =>
    simp only [hop] at hs
    cases hz : zeroB P t with
    | none => simp [hz] at hs
    | some z =>
      cases hp : placeV P t with
      | none => simp [hz, hp] at hs
      | some pl =>
        simp only [hz, hp, Option.bind_some] at hs
        obtain ⟨rfl, cs, hv, rfl⟩ := map_none hs
        exact ⟨build_ok hop ht h hz hp hv, fun _ _ _ z => by cases z⟩
  | buildSlice t n ps =>
    simp only [hop] at hs
    cases he : elemB P t with
    | none => simp [he] at hs
    | some e =>
      cases hsz : sizeB P e with
      | none => simp [he, hsz] at hs
      | some s =>
        cases hz : zeroB P e with
        | none => simp [he, hsz, hz] at hs
        | some z =>
          simp only [he, hsz, hz, Option.bind_some] at hs
          split at hs
          · rename_i hc
            cases hf : fillV (fun i => some (i * s, s)) (repeatV n z) (partsV T ps) with
            | none => simp [hf] at hs
            | some cs =>
              simp only [hf, Option.bind_some] at hs
              obtain ⟨b, hb, e⟩ := newV_b hs
              simp only [slTo, Prod.mk.injEq] at e
              obtain ⟨rfl, rfl⟩ := e
              exact ⟨buildSlice_ok hop ht h he hsz hz hc hf hb (hnew b (by simp [newsOf])), fun _ _ _ z => by cases z⟩
          · cases hs
  | load t y =>
    simp only [hop] at hs
    split at hs
    · rename_i b off hy
      cases hr : readV P M t b off with
      | none => simp [hr] at hs
      | some v =>
        simp only [hr, Option.map_some, Option.some.injEq, Prod.mk.injEq] at hs
        obtain ⟨rfl, rfl⟩ := hs
        exact ⟨load_ok hop ht h hy (hrd b (by simp [rdsOf])) hr, fun _ _ _ z => by cases z⟩
    · cases hs
  | store t y z =>
    simp only [hop] at hs
    split at hs
    · rename_i b off hy
      cases hr : writeV P lo M t b off (ev T z) with
      | none => simp [hr] at hs
      | some v =>
        simp only [hr, Option.map_some, Option.some.injEq, Prod.mk.injEq] at hs
        obtain ⟨rfl, rfl⟩ := hs
        have hd : ∃ cs, v = .wr b cs := by
          unfold writeV at hr
          split at hr
          · cases hm : M.get b with
            | none => simp [hm] at hr
            | some cs =>
              simp only [hm, Option.bind_some, Option.map_eq_some_iff] at hr
              obtain ⟨cs', _, e⟩ := hr
              exact ⟨cs', e.symm⟩
          · cases hr
        obtain ⟨cs, rfl⟩ := hd
        exact ⟨store_ok hop ht h hy (hrd b (by simp [rdsOf])) hr, fun _ _ _ z => by cases z⟩
    · cases hs
  | nilCheck y =>
    simp only [hop] at hs
    split at hs
    · rename_i b off hy
      simp only [Option.some.injEq, Prod.mk.injEq] at hs
      obtain ⟨rfl, rfl⟩ := hs
      exact ⟨nilCheck_ok hop ht h hy, fun _ _ _ z => by cases z⟩
    · cases hs
  | binOp op t y z u =>
    simp only [hop] at hs
    obtain ⟨rfl, v, hv, rfl⟩ := map_none hs
    exact ⟨bin_ok hop ht h hv, fun _ _ _ z => by cases z⟩
  | unOp op t y =>
    simp only [hop] at hs
    exact gen hs (by simp [hop])
  | convert s e y =>
    simp only [hop] at hs
    unfold convV at hs
    split at hs
    · rename_i v el hy h1 h2
      split at hs
      · rename_i h3 h4
        obtain ⟨b, hb, e⟩ := newV_b hs
        simp only [slTo, Prod.mk.injEq] at e
        obtain ⟨rfl, rfl⟩ := e
        exact ⟨convStr_ok hop ht h hy h1 h2 h3 hb (hnew b (by simp [newsOf])), fun _ _ _ z => by cases z⟩
      · cases hs
    · rename_i b off len esz el hy h1 h2
      split at hs
      · rename_i h3
        split at hs
        · rename_i h4
          subst h4
          cases hm : M.get b with
          | none => simp [hm] at hs
          | some cs =>
            cases hp : part? off len cs with
            | none => simp [hm, hp] at hs
            | some ys =>
              cases hl : bytesOf ys with
              | none => simp [hm, hp, hl] at hs
              | some l =>
                simp only [hm, hp, hl, Option.bind_some, Option.map_some, Option.some.injEq, Prod.mk.injEq] at hs
                obtain ⟨rfl, rfl⟩ := hs
                exact ⟨convBytes_ok hop ht h hy h1 h2 h3 hm (hrd b (by simp [rdsOf])) hp hl, fun _ _ _ z => by cases z⟩
        · cases hs
      · cases hs
    · exact gen hs (by simp [hop])
  | makeSlice t l c =>
    simp only [hop] at hs
    refine ⟨make_ok hop ht h hs hnew, ?_⟩
    unfold makeV at hs
    split at hs
    · split at hs
      · split at hs
        · obtain ⟨b, hb, e⟩ := newV_b hs
          simp only [slTo, Prod.mk.injEq] at e
          obtain ⟨rfl, rfl⟩ := e
          exact fun _ _ _ z => by cases z
        · cases hs
      · cases hs
    · cases hs
  | slice t y l hi m =>
    cases m with
    | some m => simp [hop] at hs
    | none =>
      simp only [hop] at hs
      obtain ⟨rfl, v, hv, rfl⟩ := map_none hs
      exact ⟨slice_ok hop ht h hv, fun _ _ _ z => by cases z⟩
  | fieldAddr s y f =>
    simp only [hop] at hs
    split at hs
    · rename_i b off fd hy hf
      split at hs
      · rename_i n hsz
        simp only [Option.some.injEq, Prod.mk.injEq] at hs
        obtain ⟨rfl, rfl⟩ := hs
        exact ⟨fieldAddr_ok hop ht h hy hf hsz, fun _ _ _ z => by cases z⟩
      · cases hs
    · cases hs
  | field t y f =>
    simp only [hop] at hs
    split at hs
    · rename_i cs fd hy hf
      obtain ⟨rfl, v, hv, rfl⟩ := map_none hs
      exact ⟨field_ok hop ht h hy hf hv, fun _ _ _ z => by cases z⟩
    · cases hs
  | indexAddr t y z =>
    simp only [hop] at hs
    split at hs
    · rename_i b off len esz k i e hy hz hu
      split at hs
      · rename_i hc
        simp only [Option.some.injEq, Prod.mk.injEq] at hs
        obtain ⟨rfl, rfl⟩ := hs
        exact ⟨indexSl_ok hop ht h hy hz hu hc, fun _ _ _ z => by cases z⟩
      · cases hs
    · rename_i b off k i n e hy hz hu
      cases hsz : sizeB P e with
      | none => simp [hsz] at hs
      | some esz =>
        simp only [hsz, Option.bind_some] at hs
        split at hs
        · rename_i hc
          simp only [Option.some.injEq, Prod.mk.injEq] at hs
          obtain ⟨rfl, rfl⟩ := hs
          exact ⟨indexArr_ok hop ht h hy hz hu hsz hc, fun _ _ _ z => by cases z⟩
        · cases hs
    · cases hs
  | index t y z =>
    simp only [hop] at hs
    split at hs
    · rename_i s k i hy hz hu
      split at hs
      · rename_i hc
        simp only [Option.some.injEq, Prod.mk.injEq] at hs
        obtain ⟨rfl, rfl⟩ := hs
        exact ⟨indexStr_ok hop ht h hy hz hu hc, fun _ _ _ z => by cases z⟩
      · cases hs
    · rename_i cs k i n e hy hz hu
      cases hsz : sizeB P e with
      | none => simp [hsz] at hs
      | some esz =>
        simp only [hsz, Option.bind_some] at hs
        split at hs
        · rename_i hc
          obtain ⟨rfl, v, hv, rfl⟩ := map_none hs
          exact ⟨indexAgg_ok hop ht h hy hz hu hsz hc hv, fun _ _ _ z => by cases z⟩
        · cases hs
    · cases hs
  | extract y i =>
    simp only [hop] at hs
    split at hs
    · rename_i vs hy
      obtain ⟨rfl, v, hv, rfl⟩ := map_none hs
      exact ⟨extract_ok hop ht h hy hv, fun _ _ _ z => by cases z⟩
    · cases hs
  | call c =>
    simp only [hop] at hs
    split at hs
    · rename_i f hc
      exact absurd hc (hnc c f hop)
    · rename_i hc
      split at hs
      · rename_i s y t u ts ha hts
        have ha2 : ∃ p q, c.args.toList = [p, q] ∧ ev T p = s ∧ ev T q = y := by
          unfold mapT at ha
          cases hl : c.args.toList with
          | nil => rw [hl] at ha; cases ha
          | cons p l =>
            cases l with
            | nil => rw [hl] at ha; cases ha
            | cons q l =>
              cases l with
              | nil => rw [hl] at ha; simp at ha; exact ⟨p, q, rfl, ha.1, ha.2⟩
              | cons => rw [hl] at ha; simp at ha
        obtain ⟨p, q, ha3, rfl, rfl⟩ := ha2
        refine ⟨append_ok hop hc ha3 hts ht h hs hrd hnew, ?_⟩
        intro b1 n1 H1 z
        subst z
        have := append_ok (P := P) hop hc ha3 hts ht h hs hrd hnew
        unfold appendV at hs
        simp only [Option.bind_eq_some_iff] at hs
        obtain ⟨_, _, _, _, _, _, _, _, _, _, hs⟩ := hs
        split at hs
        · split at hs
          · split at hs
            · split at hs
              · cases hs
              · obtain ⟨b, hb, e⟩ := newV_b hs
                simp [slTo] at e
            · cases hs
          · split at hs
            · split at hs
              · simp only [Option.bind_eq_some_iff] at hs
                obtain ⟨_, _, hs⟩ := hs
                split at hs
                · cases hs
                · cases hs
              · cases hs
            · cases hs
          · cases hs
        · cases hs
      · cases hs
    · rename_i hc
      split at hs
      · rename_i b off len esz t ts ha hts
        split at hs
        · rename_i e hu
          simp only [Option.some.injEq, Prod.mk.injEq] at hs
          obtain ⟨rfl, rfl⟩ := hs
          have ha2 : ∃ p, c.args.toList = [p] ∧ ev T p = .sl b off len esz := by
            unfold mapT at ha
            cases hl : c.args.toList with
            | nil => rw [hl] at ha; cases ha
            | cons p l =>
              cases l with
              | nil => rw [hl] at ha; simp at ha; exact ⟨p, rfl, ha⟩
              | cons => rw [hl] at ha; simp at ha
          obtain ⟨p, ha3, hy⟩ := ha2
          exact ⟨len_ok hop hc ht h ha3 hy hts hu, fun _ _ _ z => by cases z⟩
        · cases hs
      · rename_i t ts ha hts
        split at hs
        · rename_i e hu
          simp only [Option.some.injEq, Prod.mk.injEq] at hs
          obtain ⟨rfl, rfl⟩ := hs
          have ha2 : ∃ p, c.args.toList = [p] ∧ ev T p = .nils := by
            unfold mapT at ha
            cases hl : c.args.toList with
            | nil => rw [hl] at ha; cases ha
            | cons p l =>
              cases l with
              | nil => rw [hl] at ha; simp at ha; exact ⟨p, rfl, ha⟩
              | cons => rw [hl] at ha; simp at ha
          obtain ⟨p, ha3, hy⟩ := ha2
          exact ⟨lenNil_ok hop hc ht h ha3 hy hts hu, fun _ _ _ z => by cases z⟩
        · cases hs
      · rename_i s t ts ha hts
        split at hs
        · rename_i hu
          simp only [Option.some.injEq, Prod.mk.injEq] at hs
          obtain ⟨rfl, rfl⟩ := hs
          have ha2 : ∃ p, c.args.toList = [p] ∧ ev T p = .str s := by
            unfold mapT at ha
            cases hl : c.args.toList with
            | nil => rw [hl] at ha; cases ha
            | cons p l =>
              cases l with
              | nil => rw [hl] at ha; simp at ha; exact ⟨p, rfl, ha⟩
              | cons => rw [hl] at ha; simp at ha
          obtain ⟨p, ha3, hy⟩ := ha2
          exact ⟨lenStr_ok hop hc ht h ha3 hy hts hu, fun _ _ _ z => by cases z⟩
        · cases hs
      · exact gen hs (by simp [hop])
    · rename_i hc
      split at hs
      · rename_i k x' k' y' ha
        simp only [Option.some.injEq, Prod.mk.injEq] at hs
        obtain ⟨rfl, rfl⟩ := hs
        obtain ⟨p, q, ha2, hp, hq⟩ := two_args ha
        exact ⟨min_ok hop hc ht h ha2 hp hq, fun _ _ _ z => by cases z⟩
      · exact gen hs (by simp [hop])
    · rename_i hc
      split at hs
      · rename_i k x' k' y' ha
        simp only [Option.some.injEq, Prod.mk.injEq] at hs
        obtain ⟨rfl, rfl⟩ := hs
        obtain ⟨p, q, ha2, hp, hq⟩ := two_args ha
        exact ⟨max_ok hop hc ht h ha2 hp hq, fun _ _ _ z => by cases z⟩
      · exact gen hs (by simp [hop])
    · cases hs
  | _ => simp [hop] at hs
theorem step_wp {call : CallF} (hok : CallOk P base call) (hmono : CallMono call) {locs : List Nat} {quiet : Bool} {T : List Val} {M : Mem} {d : D} (hs : stepV P lo quiet call locs T M o = some (x, d)) (ht : relT ρ T a) (h : Is lo base ρ G w)
    (hrd : ∀ b ∈ rdsOf d, (ρ b).isSome = true → G b = M.get b) (hnew : ∀ b ∈ newsOf d, ρ b = none)
    (hcl : ∀ q n H, d = .call q n H → lo ≤ M.hp.length ∧ ∀ k c, ρ (.hp k) = some c → k < M.hp.length ∧ G (.hp k) = M.get (.hp k)) {K : Act → World → Prop} {Q : Exit → Act → World → Prop}
    (hK : ∀ ρ' v w', After lo base ρ G w x d ρ' v w' → K (a.put o.dst v) w') : o.wp P a w K Q := by
  by_cases hc : ∃ c f, o.op = .call c ∧ c.callee = .value (.func f)
  · obtain ⟨c, f, hop, hcal⟩ := hc
    unfold stepV at hs
    simp only [hop, hcal] at hs
    split at hs
    · rename_i hcond
      cases hr : call (if quiet = true then M.hp.length else lo) f (mapT T c.args) M.hp with
      | none => simp [hr] at hs
      | some r =>
        simp only [hr, Option.map_some, Option.some.injEq, Prod.mk.injEq] at hs
        obtain ⟨rfl, rfl⟩ := hs
        obtain ⟨h1, h2⟩ := hcl _ _ _ rfl
        exact call_wp hok hmono hop hcal hcond.1 hcond.2 ht h h1 h2 hr hK
    · cases hs
  · obtain ⟨hd, hn⟩ := step_done hs (fun c f h1 h2 => hc ⟨c, f, h1, h2⟩) ht h hrd hnew
    exact hd.wp hn hK
end
end Go.Proofs.YtponkdimnafppaaDoor.VM
