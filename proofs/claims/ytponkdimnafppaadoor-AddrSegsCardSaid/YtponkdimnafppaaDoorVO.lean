/- A plain machine for the program's functions: a region in any order comes to what it comes to in the text's. -/
import Derived.Test.YtponkdimnafppaaDoorVN
namespace Go.Proofs.YtponkdimnafppaaDoor.VM
open Go
set_option linter.unusedVariables false
set_option linter.unusedSimpArgs false
def effT (ops : Array Oper) (X : Nat → Val) (len t i : Nat) (v : Option Val) : Option Val := if (ops[i]?).bind (·.dst) = some t ∧ t < len then some (X i) else v
section
variable {P : Program} {lo base : Nat} {quiet : Bool} {call : CallF} {locs : List Nat} {ops : Array Oper} {S : Nat → St} {X : Nat → Val} {Dl : Nat → D} {n : Nat}
theorem tr_shape (hT : Trace P lo quiet call locs ops S X Dl 0 n) (hmono : CallMono call) {j : Nat} (hj : j < n) : Shape lo (S j).M (Dl j) := by
  obtain ⟨o, b, h1, h2, h3, h4⟩ := hT.step j (Nat.zero_le _) hj
  cases b
  · simp at h4; rw [h4.2]; trivial
  · exact step_shape hmono h4
theorem tr_len (hT : Trace P lo quiet call locs ops S X Dl 0 n) : ∀ j, j ≤ n → (S j).T.length = (S 0).T.length
  | 0, _ => rfl
  | j + 1, hj => by
    obtain ⟨o, b, h1, h2, h3, h4⟩ := hT.step j (Nat.zero_le _) (by omega)
    rw [h3]
    simp only [putT]
    rw [← tr_len hT j (by omega)]
    cases o.dst with
    | none => rfl
    | some d => exact setT_length _ _ _
theorem tr_T (hT : Trace P lo quiet call locs ops S X Dl 0 n) (t : Nat) : ∀ j, j ≤ n → getAt t (S j).T = replay (effT ops X (S 0).T.length t) (fun _ => true) j (getAt t (S 0).T)
  | 0, _ => rfl
  | j + 1, hj => by
    obtain ⟨o, b, h1, h2, h3, h4⟩ := hT.step j (Nat.zero_le _) (by omega)
    simp only [replay, if_true]
    rw [← tr_T hT t j (by omega), h3]
    simp only [putT, effT, h1, Option.bind_some]
    cases hd : o.dst with
    | none => simp
    | some d =>
      simp only []
      rw [setT_get, tr_len hT j (by omega)]
      by_cases e : t = d
      · subst e; simp
      · rw [if_neg (fun z => e z.1), if_neg (fun z => e (by simpa using z.1.symm))]
theorem tr_low (hT : Trace P lo quiet call locs ops S X Dl 0 n) (hmono : CallMono call) (hlow : lo ≤ (S 0).M.hp.length) : ∀ j, j ≤ n → lo ≤ (S j).M.hp.length
  | 0, _ => hlow
  | j + 1, hj => by
    obtain ⟨o, b, h1, h2, h3, h4⟩ := hT.step j (Nat.zero_le _) (by omega)
    rw [h3]
    exact Nat.le_trans (tr_low hT hmono hlow j (by omega)) (app_grows (tr_low hT hmono hlow j (by omega)) (tr_shape hT hmono (by omega))).2.1
theorem tr_M (hT : Trace P lo quiet call locs ops S X Dl 0 n) (hmono : CallMono call) (hlow : lo ≤ (S 0).M.hp.length) (b : Base) : ∀ j, j ≤ n → (S j).M.get b = replay (fun i => eff (Dl i) b) (fun _ => true) j ((S 0).M.get b)
  | 0, _ => rfl
  | j + 1, hj => by
    obtain ⟨o, q, h1, h2, h3, h4⟩ := hT.step j (Nat.zero_le _) (by omega)
    simp only [replay, if_true]
    rw [← tr_M hT hmono hlow b j (by omega), h3]
    simp only []
    rw [app_get (tr_low hT hmono hlow j (by omega)) (tr_shape hT hmono (by omega)), eff_app]
theorem tr_range (hT : Trace P lo quiet call locs ops S X Dl 0 n) (hmono : CallMono call) (hlow : lo ≤ (S 0).M.hp.length) (b : Base) {i : Nat} (hb : inR (S i).M b) : ∀ j, i ≤ j → j ≤ n → inR (S j).M b
  | 0, h, _ => by have : i = 0 := by omega
                  subst this; exact hb
  | j + 1, h, hj => by
    by_cases e : i = j + 1
    · subst e; exact hb
    · have ih := tr_range hT hmono hlow b hb j (by omega) (by omega)
      obtain ⟨o, q, h1, h2, h3, h4⟩ := hT.step j (Nat.zero_le _) (by omega)
      obtain ⟨g1, g2, _⟩ := app_grows (tr_low hT hmono hlow j (by omega)) (tr_shape hT hmono (j := j) (by omega))
      rw [h3]
      cases b with
      | lo k => exact Nat.lt_of_lt_of_le ih g1
      | hp k => exact Nat.lt_of_lt_of_le ih g2
theorem tr_new (hT : Trace P lo quiet call locs ops S X Dl 0 n) (hmono : CallMono call) (hlow : lo ≤ (S 0).M.hp.length) {b : Base} {i : Nat} (hi : i < n) (hb : newsIn (Dl i) b) : inR (S (i + 1)).M b ∧ ¬ inR (S i).M b := by
  obtain ⟨o, q, h1, h2, h3, h4⟩ := hT.step i (Nat.zero_le _) hi
  have := (app_grows (tr_low hT hmono hlow i (by omega)) (tr_shape hT hmono hi)).2.2.2 b hb
  rw [h3]
  exact this
/-- What is so in the midst of a region. -/
structure Mid (lo base : Nat) (H0 : List Blk) (ρ0 : Ren) (w0 : World) (ops : Array Oper) (S : Nat → St) (X : Nat → Val) (Dl : Nat → D) (L : Array Bool) (ρ : Ren) (a : Act) (w : World) : Prop where
  len : (S 0).T.length = a.tmps.size
  t : ∀ t y, replay (effT ops X (S 0).T.length t) (fun i => L.getD i false) ops.size (getAt t (S 0).T) = some y → relV ρ y (a.tmps.getD t undef)
  is : Is lo base ρ (fun b => replay (fun i => eff (Dl i) b) (fun i => L.getD i false) ops.size ((S 0).M.get b)) w
  dom : ∀ b c, ρ b = some c → inR (S 0).M b ∨ ∃ i, i < ops.size ∧ L.getD i false = true ∧ newsIn (Dl i) b
  le : ρ0.le ρ
  gl : GlobOk ρ
  old : ∀ k, k < H0.length → ρ (.hp k) = ρ0 (.hp k)
  kept : Kept (img ρ0 (fun b => ∃ k, b = .hp k ∧ lo ≤ k)) w0 w
  fam : ∀ b c, ρ b = some c → wr lo b → w0.heap.size ≤ c.blk ∨ ∃ k c0, lo ≤ k ∧ ρ0 (.hp k) = some c0 ∧ c0.blk = c.blk
  defers : a.defers = []
variable {H0 : List Blk} {ρ0 : Ren} {w0 : World} {Q : Exit → Act → World → Prop}
structure Lex (ops : Array Oper) : Prop where
  edge : ∀ (j : Nat) (oj : Oper), ops[j]? = some oj → ∀ e ∈ oj.after, Region.binds .any e = true → e.on < j
  dst : ∀ (i j : Nat) (oi oj : Oper), i < j → ops[i]? = some oi → ops[j]? = some oj → ∀ d, oi.dst = some d → oj.dst ≠ some d
  apart : ∀ (i j : Nat) (oi oj : Oper), i < j → ops[i]? = some oi → ops[j]? = some oj → isAnc ops i j = true ∨ oi.apart ops oj = true
theorem lex_spec (h : lexOk ops = true) : Lex ops := by
  unfold lexOk at h
  rw [List.all_eq_true] at h
  refine ⟨fun j oj ho e he hb => ?_, fun i j oi oj hij hi hj d hd => ?_, fun i j oi oj hij hi hj => ?_⟩
  · have hj := (Array.getElem?_eq_some_iff.1 ho).1
    have := h j (by simpa using hj)
    simp only [ho, Bool.and_eq_true] at this
    have h1 := this.1.1.1
    rw [Array.all_eq_true_iff_forall_mem] at h1
    have := h1 e he
    rw [hb] at this
    simpa [Nat.blt_eq] using this
  · have hj2 := (Array.getElem?_eq_some_iff.1 hj).1
    have := h j (by simpa using hj2)
    simp only [hj, Bool.and_eq_true] at this
    have h1 := this.1.2
    rw [List.all_eq_true] at h1
    have := h1 i (by simpa using hij)
    simp only [hi, hd] at this
    intro z
    rw [z] at this
    simp at this
  · have hj2 := (Array.getElem?_eq_some_iff.1 hj).1
    have := h j (by simpa using hj2)
    simp only [hj, Bool.and_eq_true] at this
    have h1 := this.2
    rw [List.all_eq_true] at h1
    have := h1 i (by simpa using hij)
    simp only [hi] at this
    simpa using this
theorem opsAt {j : Nat} (hj : j < ops.size) : ∃ o, ops[j]? = some o := ⟨ops[j], by simp [hj]⟩
/-- The heart: whichever operation is next, all comes to the same. -/
theorem draw_any (hok : CallOk P base call) (hmono : CallMono call) (hlex : Lex ops) (hT : Trace P lo quiet call locs ops S X Dl 0 ops.size) (hlow : lo ≤ (S 0).M.hp.length) (hH0 : H0.length ≤ (S 0).M.hp.length)
    (hcomm : ∀ k j, k < j → j < ops.size → isAnc ops k j = true ∨ Comm (Dl k) (Dl j))
    (hQ : ∀ ρ' a' w', Sim lo base H0 ρ0 w0 (S ops.size) ρ' a' w' → Q .normal a' w') :
    ∀ (fuel : Nat) (L : Array Bool) (ρ : Ren) (a : Act) (w : World), L.size = ops.size → Closed ops L → cnt L ops.size ≤ fuel → Mid lo base H0 ρ0 w0 ops S X Dl L ρ a w → wpAny P .any ops Q fuel L a w := by
  have fin : ∀ (L : Array Bool) (ρ : Ren) (a : Act) (w : World), (∀ i, i < ops.size → L.getD i false = true) → Mid lo base H0 ρ0 w0 ops S X Dl L ρ a w → Q .normal a w := by
    intro L ρ a w hall hM
    have rc : ∀ {α : Type} (f : Nat → α → α) (v : α), replay f (fun i => L.getD i false) ops.size v = replay f (fun _ => true) ops.size v := fun f v => replay_congr _ _ fun i hi hne => absurd (hall i hi) hne
    refine hQ ρ a w ⟨⟨(tr_len hT _ (Nat.le_refl _)).trans hM.len, fun t y e => hM.t t y ?_, hM.gl⟩, hM.is.congr (fun b c e => ?_) rfl, fun b c e => ?_, tr_low hT hmono hlow _ (Nat.le_refl _), hM.le, hM.old, ?_, hM.kept, hM.fam, hM.defers⟩
    · rw [rc, ← tr_T hT t _ (Nat.le_refl _)]; exact e
    · rw [rc, ← tr_M hT hmono hlow b _ (Nat.le_refl _)]
    · rcases hM.dom b c e with z | ⟨i, hi, _, z⟩
      · exact tr_range hT hmono hlow b z _ (Nat.zero_le _) (Nat.le_refl _)
      · exact tr_range hT hmono hlow b (tr_new hT hmono hlow hi z).1 _ (by omega) (Nat.le_refl _)
    · have g : ∀ j, j ≤ ops.size → H0.length ≤ (S j).M.hp.length := by
        intro j
        induction j with
        | zero => intro _; exact hH0
        | succ j ih =>
          intro hj
          obtain ⟨o, q, h1, h2, h3, h4⟩ := hT.step j (Nat.zero_le _) (by omega)
          rw [h3]
          exact Nat.le_trans (ih (by omega)) (app_grows (tr_low hT hmono hlow j (by omega)) (tr_shape hT hmono (by omega))).2.1
      exact g _ (Nat.le_refl _)
  have noReady : ∀ (L : Array Bool), L.size = ops.size → Region.ready .any ops L = [] → ∀ i, i < ops.size → L.getD i false = true := by
    intro L hsz hr i
    induction i using Nat.strongRecOn with
    | _ i ih =>
      intro hi
      cases hL : L.getD i false with
      | true => rfl
      | false =>
        obtain ⟨o, ho⟩ := opsAt hi
        have : i ∈ Region.ready .any ops L := by
          rw [mem_ready]
          refine ⟨?_, o, ho, fun e he hb => ih e.on (hlex.edge i o ho e he hb) (Nat.lt_trans (hlex.edge i o ho e he hb) hi)⟩
          simp [hsz, hi] at hL ⊢
          exact hL
        rw [hr] at this
        cases this
  intro fuel
  induction fuel with
  | zero =>
    intro L ρ a w hsz hcl hcnt hM
    have hall := cnt_zero ops.size (Nat.le_zero.1 hcnt)
    refine ⟨?_, fin L ρ a w hall hM⟩
    cases hr : Region.ready .any ops L with
    | nil => rfl
    | cons i is =>
      have : i ∈ Region.ready .any ops L := by rw [hr]; simp
      rw [mem_ready] at this
      obtain ⟨h0, o, ho, _⟩ := this
      have hi := (Array.getElem?_eq_some_iff.1 ho).1
      have := hall i hi
      simp [hsz, hi] at h0 this
      rw [h0] at this; cases this
  | succ fuel ih =>
    intro L ρ a w hsz hcl hcnt hM
    refine ⟨fun hr => fin L ρ a w (noReady L hsz hr) hM, fun j hj => ?_⟩
    rw [mem_ready] at hj
    obtain ⟨h0, o, ho, hedge⟩ := hj
    have hjn := (Array.getElem?_eq_some_iff.1 ho).1
    have hLj : L.getD j false = false := by simp [hsz, hjn] at h0 ⊢; exact h0
    have hjL : j < L.size := by omega
    obtain ⟨o', b, h1, h2, h3, h4⟩ := hT.step j (Nat.zero_le _) hjn
    rw [ho] at h1
    cases h1
    -- an operation that is done, but stands behind; or is not, but stands ahead
    have differ : ∀ i, i < ops.size → (fun i => L.getD i false) i ≠ (fun i => decide (i < j)) i → i ≠ j ∧ Comm (Dl i) (Dl j) ∧ (∀ oi, ops[i]? = some oi → ∀ d, oi.dst = some d → d ∉ o.looksAt ops) := by
      intro i hi hne
      have hij : i ≠ j := fun z => by subst z; simp [hLj] at hne
      refine ⟨hij, ?_⟩
      by_cases hlt : i < j
      · have hLi : L.getD i false = false := by
          cases e : L.getD i false
          · rfl
          · simp [e, hlt] at hne
        have hna : isAnc ops i j = true → False := fun ha => by
          have := ready_anc hcl ho hedge ha
          rw [hLi] at this; cases this
        refine ⟨(hcomm i j hlt hjn).resolve_left hna, fun oi hoi d hd => ?_⟩
        exact (Oper.apart_spec ((hlex.apart i j oi o hlt hoi ho).resolve_left hna)).1 d hd
      · have hLi : L.getD i false = true := by
          cases e : L.getD i false
          · simp [e, hlt] at hne
          · rfl
        have hna : isAnc ops j i = true → False := fun ha => by
          have := closed_anc hcl ha hLi
          rw [hLj] at this; cases this
        refine ⟨((hcomm j i (by omega) hi).resolve_left hna).symm, fun oi hoi d hd => ?_⟩
        exact (Oper.apart_spec ((hlex.apart j i o oi (by omega) ho hoi).resolve_left hna)).2.2 d hd
    have hTt : ∀ t ∈ o.looksAt ops, ∀ y, getAt t (S j).T = some y → relV ρ y (a.tmps.getD t undef) := by
      intro t ht y e
      refine hM.t t y ?_
      rw [← e, tr_T hT t j (by omega), ← replay_upto _ j ops.size _ (by omega)]
      refine replay_congr _ _ fun i hi hne u => ?_
      obtain ⟨_, _, hd⟩ := differ i hi hne
      obtain ⟨oi, hoi⟩ := opsAt hi
      simp only [effT, hoi, Option.bind_some]
      rw [if_neg (fun z => hd oi hoi t z.1 ht)]
    have hMem : ∀ bb, (∀ i, i < ops.size → (fun i => L.getD i false) i ≠ (fun i => decide (i < j)) i → ∀ v, eff (Dl i) bb v = v) → replay (fun i => eff (Dl i) bb) (fun i => L.getD i false) ops.size ((S 0).M.get bb) = (S j).M.get bb := by
      intro bb hid
      rw [tr_M hT hmono hlow bb j (by omega), ← replay_upto _ j ops.size _ (by omega)]
      exact replay_congr _ _ fun i hi hne u => hid i hi hne u
    have hmask : relT ρ (maskFrom (o.looksAt ops) 0 (S j).T) a := by
      refine ⟨by rw [maskFrom_length, tr_len hT j (by omega)]; exact hM.len, fun t y e => ?_, hM.gl⟩
      rw [maskFrom_get, Nat.zero_add] at e
      split at e
      · rename_i hc
        exact hTt t (by simpa using hc) y e
      · split at e
        · cases e; trivial
        · cases e
    have hget : ∀ t ∈ o.looksAt ops, getAt t (maskFrom (o.looksAt ops) 0 (S j).T) = getAt t (S j).T := by
      intro t ht
      rw [maskFrom_get, Nat.zero_add, if_pos (by simpa using ht)]
    have hwant : Region.wanted o (yielded ops a.tmps) = b := wanted_ok hmask ((wantV_congr hget).trans h2)
    -- behind the operation
    have next : ∀ ρ' v w', After lo base ρ (fun b => replay (fun i => eff (Dl i) b) (fun i => L.getD i false) ops.size ((S 0).M.get b)) w (X j) (Dl j) ρ' v w' → wpAny P .any ops Q fuel (L.setIfInBounds j true) (a.put o.dst v) w' := by
      intro ρ' v w' hA
      have hsh := tr_shape hT hmono hjn
      have wof : ∀ b c, writesIn lo (Dl j) b → ρ b = some c → wr lo b := by
        intro b c hb e
        cases hd : Dl j with
        | none => rw [hd] at hb; simp [writesIn, wrsOf] at hb
        | rd _ => rw [hd] at hb; simp [writesIn, wrsOf] at hb
        | new _ _ _ => rw [hd] at hb; simp [writesIn, wrsOf] at hb
        | wr b' cs => rw [hd] at hb hsh; simp only [writesIn, wrsOf, List.mem_singleton] at hb; subst hb; exact mayWrite_wr hsh.2
        | ap r b1 b2 cs =>
          rw [hd] at hb hsh
          obtain ⟨k, rfl, rfl, h1, h2⟩ := hsh
          simp only [writesIn, wrsOf, List.mem_singleton] at hb; subst hb; exact h1
        | call p m H => rw [hd] at hb hsh; obtain ⟨k, rfl, hk⟩ := hb; exact Nat.le_trans (hsh.2 (tr_low hT hmono hlow j (by omega))).1 hk
      refine ih (L.setIfInBounds j true) ρ' _ w' (by simpa using hsz) (closed_set hcl hjL ho hedge) ?_ ⟨?_, fun t y e => ?_, hA.is.congr (fun bb c e => ?_) rfl, fun bb c e => ?_, Ren.le_trans hM.le hA.le, hM.gl.mono hA.le, fun k hk => ?_, ?_, fun bb c e hw => ?_, (put_defers _ _ _).trans hM.defers⟩
      · have := cnt_set hjL hLj ops.size
        rw [if_pos hjn] at this
        omega
      · rw [hM.len]; unfold Act.put; cases o.dst <;> simp
      · have hfun : (fun i => (L.setIfInBounds j true).getD i false) = (fun i => (fun i => L.getD i false) i || decide (i = j)) := funext fun i => set_getD hjL i
        rw [hfun] at e
        rw [replay_add (f := effT ops X (S 0).T.length t) (L := fun i => L.getD i false) hLj ops.size _ (fun i hji hi hLi u => ?_), if_pos hjn] at e
        · have hrel := relT_mono hA.le hmask
          simp only [effT, ho, Option.bind_some] at e
          unfold Act.put
          cases hd : o.dst with
          | none =>
            rw [hd] at e
            rw [if_neg (by simp)] at e
            exact relV_mono hA.le _ _ (hM.t t y e)
          | some d =>
            rw [hd] at e
            by_cases et : d = t ∧ t < (S 0).T.length
            · obtain ⟨rfl, hlt⟩ := et
              rw [if_pos ⟨rfl, hlt⟩] at e
              cases e
              have : d < a.tmps.size := by rw [← hM.len]; exact hlt
              simp [this, hA.val]
            · rw [if_neg (fun z => et ⟨by simpa using z.1, z.2⟩)] at e
              have hkeep := relV_mono hA.le _ _ (hM.t t y e)
              by_cases e2 : d = t
              · subst e2
                have : ¬ d < a.tmps.size := by rw [← hM.len]; exact fun z => et ⟨rfl, z⟩
                simpa [this] using hkeep
              · simpa [Array.getElem?_setIfInBounds_ne e2] using hkeep
        · obtain ⟨oi, hoi⟩ := opsAt hi
          simp only [effT, hoi, ho, Option.bind_some]
          by_cases e1 : oi.dst = some t ∧ t < (S 0).T.length
          · have : ¬ (o.dst = some t ∧ t < (S 0).T.length) := fun z => hlex.dst j i o oi hji ho hoi t z.1 e1.1
            rw [if_pos e1, if_pos e1, if_neg this]
          · rw [if_neg e1, if_neg e1]
      · rw [eff_app]
        have hfun : (fun i => (L.setIfInBounds j true).getD i false) = (fun i => (fun i => L.getD i false) i || decide (i = j)) := funext fun i => set_getD hjL i
        rw [hfun, replay_add (f := fun i => eff (Dl i) bb) (L := fun i => L.getD i false) hLj ops.size _ (fun i hji hi hLi u => ?_), if_pos hjn]
        have hna : isAnc ops j i = true → False := fun ha => by
          have := closed_anc hcl ha hLi
          rw [hLj] at this; cases this
        rcases ((hcomm j i hji hi).resolve_left hna).one bb with z | z
        · rw [z, z]
        · rw [z, z]
      · by_cases hn : newsIn (Dl j) bb
        · exact .inr ⟨j, hjn, by rw [set_getD hjL]; simp, hn⟩
        · rw [hA.old bb hn] at e
          rcases hM.dom bb c e with z | ⟨i, hi, hLi, z⟩
          · exact .inl z
          · exact .inr ⟨i, hi, by rw [set_getD hjL, hLi]; rfl, z⟩
      · rw [hA.old (.hp k) (fun hn => (tr_new hT hmono hlow hjn hn).2 (tr_range hT hmono hlow (.hp k) (i := 0) (show k < (S 0).M.hp.length by omega) j (Nat.zero_le _) (by omega)))]
        exact hM.old k hk
      · refine hM.kept.trans hA.kept ?_
        rintro c hc ⟨bb, k, e, hb, rfl⟩
        rcases hM.fam bb k e (wof bb k hb e) with z | ⟨q, c0, g1, g2, g3⟩
        · omega
        · exact ⟨.hp q, c0, g2, ⟨q, rfl, g1⟩, g3⟩
      · by_cases hn : newsIn (Dl j) bb
        · rcases hA.fam bb c hn e with z | ⟨b0, c0, g1, g2, g3⟩
          · exact .inl (Nat.le_trans hM.kept.size z)
          · rcases hM.fam b0 c0 g2 (wof b0 c0 g1 g2) with z | ⟨q, c1, g4, g5, g6⟩
            · exact .inl (g3 ▸ z)
            · exact .inr ⟨q, c1, g4, g5, g6.trans g3⟩
        · rw [hA.old bb hn] at e
          exact hM.fam bb c e hw
    unfold wpOp
    simp only [ho, hwant]
    cases b
    · simp only [Bool.false_eq_true, if_false] at h4 ⊢
      refine next ρ undef w ?_
      rw [h4.1, h4.2]
      exact ⟨⟨#[], rfl, trivial⟩, Ren.le_refl ρ, fun _ _ => rfl, hM.is, Kept.refl _ _, fun bb c hb => by simp [newsIn, newsOf] at hb⟩
    · simp only [if_true] at h4 ⊢
      have h5 : stepV P lo quiet call locs (maskFrom (o.looksAt ops) 0 (S j).T) (S j).M o = some (X j, Dl j) := by
        rw [← h4]
        refine stepV_congr fun y hy => ?_
        cases y with
        | tmp t =>
          simp only [ev]
          rw [hget t (List.mem_append_left _ (List.mem_filterMap.2 ⟨.tmp t, by simpa using hy, rfl⟩))]
        | _ => rfl
      have notNew : ∀ bb c, ρ bb = some c → newsIn (Dl j) bb → False := by
        intro bb c e hn
        obtain ⟨n1, n2⟩ := tr_new hT hmono hlow hjn hn
        rcases hM.dom bb c e with z | ⟨i, hi, hLi, z⟩
        · exact n2 (tr_range hT hmono hlow bb z j (Nat.zero_le _) (by omega))
        · obtain ⟨m1, m2⟩ := tr_new hT hmono hlow hi z
          rcases Nat.lt_trichotomy i j with q | q | q
          · exact n2 (tr_range hT hmono hlow bb m1 j (by omega) (by omega))
          · subst q; rw [hLj] at hLi; cases hLi
          · exact m2 (tr_range hT hmono hlow bb n1 i (by omega) (by omega))
      refine .inl (step_wp hok hmono h5 hmask hM.is (fun bb hb hs => ?_) (fun bb hb => ?_) (fun p m H hd => ⟨tr_low hT hmono hlow j (by omega), fun k c e => ?_⟩) next)
      · exact hMem bb fun i hi hne v => (differ i hi hne).2.1.r2 bb hb v
      · cases e : ρ bb with
        | none => rfl
        | some c =>
          have : newsIn (Dl j) bb := by
            cases hd : Dl j <;> rw [hd] at hb <;> first | exact hb | (simp [newsOf] at hb)
          exact (notNew bb c e this).elim
      · refine ⟨?_, hMem (.hp k) fun i hi hne v => ?_⟩
        · rcases hM.dom (.hp k) c e with z | ⟨i, hi, hLi, z⟩
          · exact tr_range hT hmono hlow (.hp k) z j (Nat.zero_le _) (by omega)
          · rcases Nat.lt_trichotomy i j with q | q | q
            · exact tr_range hT hmono hlow (.hp k) (tr_new hT hmono hlow hi z).1 j (by omega) (by omega)
            · subst q; rw [hLj] at hLi; cases hLi
            · have hne : (fun i => L.getD i false) i ≠ (fun i => decide (i < j)) i := by
                show L.getD i false ≠ decide (i < j)
                rw [hLi]; simp; omega
              obtain ⟨c1, c2⟩ := (differ i hi hne).2.1.c2 p m H hd
              exfalso
              cases hd2 : Dl i with
              | call p m H => exact c1 p m H hd2
              | _ =>
                rw [hd2] at z c2
                have := c2 (.hp k) (List.mem_append_right _ z)
                cases this
        · obtain ⟨c1, c2⟩ := (differ i hi hne).2.1.c2 p m H hd
          exact eff_id c1 (fun hb => by have := c2 _ hb; cases this) v
theorem region_draw (hm : P.follows .mixedOrders = true) (hl : lexOk ops = true) (hok : CallOk P base call) (hmono : CallMono call) {id : Nat} {s s' : St} {ρ : Ren} {a : Act} {w : World} (hS : Sim lo base H0 ρ0 w0 s ρ a w) (hr : runRegion P lo quiet call locs ops true s = some s')
    (hQ : ∀ ρ' a' w', Sim lo base H0 ρ0 w0 s' ρ' a' w' → Q .normal a' w') : (Code.region id ops true).wp P Q a w := by
  unfold runRegion at hr
  simp only [if_true] at hr
  · cases hro : runOps P lo quiet call locs ops ops.toList 0 [] s with
    | none => simp [hro] at hr
    | some ls =>
      obtain ⟨l, s2⟩ := ls
      simp only [hro] at hr
      by_cases hf : freeB ops l = true
      · rw [if_pos hf] at hr
        cases hr
        obtain ⟨S, X, Dl, e0, en, hT, _, _, hcomm⟩ := trace (call := call) ops.toList 0 [] l s s' (by simp) hro hf
        simp only [Nat.zero_add, Array.length_toList] at en hT hcomm
        subst e0; subst en
        have hrf : ∀ i, (Array.replicate ops.size false).getD i false = false := fun i => by by_cases h : i < ops.size <;> simp [h]
        refine wp_region_any hm (draw_any hok hmono (lex_spec hl) hT hS.low hS.grow (fun k j h1 h2 => hcomm k j (Nat.zero_le _) h1 h2) hQ ops.size (Array.replicate ops.size false) ρ a _ (by simp) (fun j hjn h => ?_) ?_ ⟨hS.t.1, fun t y e => hS.t.2.1 t y ?_, hS.is.congr (fun b c e => ?_) rfl, fun b c e => .inl (hS.dom b c e), hS.le, hS.t.2.2, hS.old, ?_, hS.fam, hS.defers⟩)
        · exfalso
          rw [hrf] at h
          cases h
        · have : ∀ n, cnt (Array.replicate ops.size false) n ≤ n := by
            intro n
            induction n with
            | zero => simp [cnt]
            | succ n ih => simp only [cnt]; split <;> omega
          exact this _
        · have : ∀ n, n ≤ ops.size → replay (effT ops X (S 0).T.length t) (fun i => (Array.replicate ops.size false).getD i false) n (getAt t (S 0).T) = getAt t (S 0).T := by
            intro n
            induction n with
            | zero => intro _; rfl
            | succ n ih => intro hn; simp only [replay]; rw [if_neg (by rw [hrf]; simp)]; exact ih (by omega)
          rw [this _ (Nat.le_refl _)] at e; exact e
        · have : ∀ n, n ≤ ops.size → replay (fun i => eff (Dl i) b) (fun i => (Array.replicate ops.size false).getD i false) n ((S 0).M.get b) = (S 0).M.get b := by
            intro n
            induction n with
            | zero => intro _; rfl
            | succ n ih => intro hn; simp only [replay]; rw [if_neg (by rw [hrf]; simp)]; exact ih (by omega)
          exact this _ (Nat.le_refl _)
        · exact ⟨hS.kept.os, hS.kept.tape, hS.kept.output, hS.kept.size, hS.kept.block⟩
      · rw [if_neg hf] at hr; cases hr
end
end Go.Proofs.YtponkdimnafppaaDoor.VM
