/- A plain machine for the program's functions: steps in any order that Go leaves open. -/
import Derived.Test.YtponkdimnafppaaDoorVL
namespace Go.Proofs.YtponkdimnafppaaDoor.VM
open Go
set_option linter.unusedVariables false
set_option linter.unusedSimpArgs false
/-! ### what is done so far, in the text's order -/
def replay {α : Type} (f : Nat → α → α) (L : Nat → Bool) : Nat → α → α
  | 0, v => v
  | n + 1, v => if L n = true then f n (replay f L n v) else replay f L n v
theorem replay_congr {α : Type} {f : Nat → α → α} {L L' : Nat → Bool} : ∀ (n : Nat) (v : α), (∀ i, i < n → L i ≠ L' i → ∀ u, f i u = u) → replay f L n v = replay f L' n v
  | 0, _, _ => rfl
  | n + 1, v, h => by
    simp only [replay]
    rw [replay_congr n v fun i hi => h i (by omega)]
    by_cases e : L n = L' n
    · rw [e]
    · have := h n (by omega) e (replay f L' n v)
      split <;> split <;> simp_all
theorem replay_upto {α : Type} (f : Nat → α → α) (j : Nat) : ∀ (n : Nat) (v : α), j ≤ n → replay f (fun i => decide (i < j)) n v = replay f (fun _ => true) j v
  | 0, v, h => by have : j = 0 := by omega
                  subst this; rfl
  | n + 1, v, h => by
    by_cases e : j = n + 1
    · subst e
      refine replay_congr (n + 1) v fun i hi hne => ?_
      simp [hi] at hne
    · simp only [replay]
      rw [if_neg (by simp; omega)]
      exact replay_upto f j n v (by omega)
theorem replay_add {α : Type} {f : Nat → α → α} {L : Nat → Bool} {j : Nat} (hL : L j = false) : ∀ (n : Nat) (v : α), (∀ i, j < i → i < n → L i = true → ∀ u, f i (f j u) = f j (f i u)) →
    replay f (fun i => L i || decide (i = j)) n v = if j < n then f j (replay f L n v) else replay f L n v
  | 0, v, _ => rfl
  | n + 1, v, h => by
    have ih := replay_add hL n v fun i h1 h2 => h i h1 (by omega)
    simp only [replay]
    rw [ih]
    by_cases e : n = j
    · subst e
      simp [hL]
    · by_cases hn : j < n
      · have h1 : j < n + 1 := by omega
        by_cases hLn : L n = true
        · simp [hLn, hn, h1, h n hn (by omega) hLn]
        · simp [hLn, e, hn, h1]
      · have h1 : ¬ j < n + 1 := by omega
        by_cases hLn : L n = true <;> simp [hLn, e, hn, h1]
/-! ### what an operation does to one block -/
def eff (d : D) (b : Base) (v : Option (List Val)) : Option (List Val) :=
  match d with
  | .none | .rd _ => v
  | .new _ b' cs => if Base.eqB b b' = true then some cs else v
  | .wr b' cs => if Base.eqB b b' = true then some cs else v
  | .ap _ b1 b2 cs => if Base.eqB b b2 = true then some cs else if Base.eqB b b1 = true then none else v
  | .call p _ H => match b with
    | .lo _ => v
    | .hp k => if Nat.blt k p || Nat.ble H.length k then v else liveAt H k
theorem eff_app (d : D) (G : Mem?) (b : Base) : appG d G b = eff d b (G b) := by
  cases d <;> try rfl
def touch (d : D) : List Base := wrsOf d ++ newsOf d
theorem eff_id {d : D} {b : Base} (hd : ∀ p m H, d ≠ .call p m H) (h : b ∉ touch d) (v : Option (List Val)) : eff d b v = v := by
  cases d with
  | none => rfl
  | rd _ => rfl
  | new r b' cs => simp [touch, wrsOf, newsOf] at h; simp only [eff]; rw [if_neg (by simp [eqB_ne h])]
  | wr b' cs => simp [touch, wrsOf, newsOf] at h; simp only [eff]; rw [if_neg (by simp [eqB_ne h])]
  | ap r b1 b2 cs =>
    simp [touch, wrsOf, newsOf] at h
    simp only [eff]
    rw [if_neg (by simp [eqB_ne h.2]), if_neg (by simp [eqB_ne h.1])]
  | call p m H => exact absurd rfl (hd p m H)
theorem eff_call {p m : Nat} {H : List Blk} {b : Base} (h : outOf p H.length b = true) (v : Option (List Val)) : eff (.call p m H) b v = v := by
  cases b with
  | lo k => rfl
  | hp k => simp only [outOf] at h; simp only [eff]; rw [if_pos h]
theorem disj_spec {xs ys : List Base} (h : disjB xs ys = true) {b : Base} (hx : b ∈ xs) (hy : b ∈ ys) : False := by
  unfold disjB at h
  rw [List.all_eq_true] at h
  have := h b hx
  rw [List.all_eq_true] at this
  have := this b hy
  rw [eqB_iff.2 rfl] at this
  cases this
theorem wrs_rds {d : D} {b : Base} (h : b ∈ wrsOf d) : b ∈ rdsOf d := by
  cases d <;> simp_all [wrsOf, rdsOf]
theorem loc_spec {b : Base} (h : isLoc b = true) : ∃ k, b = .lo k := by
  cases b with
  | lo k => exact ⟨k, rfl⟩
  | hp k => cases h
structure Comm (d e : D) : Prop where
  r1 : ∀ b ∈ rdsOf d, ∀ v, eff e b v = v
  r2 : ∀ b ∈ rdsOf e, ∀ v, eff d b v = v
  one : ∀ b, (∀ v, eff d b v = v) ∨ (∀ v, eff e b v = v)
  c1 : ∀ p m H, d = .call p m H → (∀ p m H, e ≠ .call p m H) ∧ ∀ b ∈ touch e, isLoc b = true
  c2 : ∀ p m H, e = .call p m H → (∀ p m H, d ≠ .call p m H) ∧ ∀ b ∈ touch d, isLoc b = true
theorem Comm.symm {d e : D} (h : Comm d e) : Comm e d := ⟨h.r2, h.r1, fun b => (h.one b).symm, h.c2, h.c1⟩
theorem comm_call {p m : Nat} {H : List Blk} {e : D} (he : ∀ p m H, e ≠ .call p m H) (h : ((rdsOf e).all (outOf p H.length) && (wrsOf e ++ newsOf e).all isLoc) = true) : Comm (.call p m H) e := by
  simp only [Bool.and_eq_true, List.all_eq_true] at h
  obtain ⟨h1, h2⟩ := h
  refine ⟨fun b hb => by simp [rdsOf] at hb, fun b hb v => eff_call (h1 b hb) v, fun b => ?_, fun _ _ _ _ => ⟨he, h2⟩, fun p m H z => absurd z (he p m H)⟩
  cases b with
  | lo k => exact .inl fun v => rfl
  | hp k => exact .inr fun v => eff_id he (fun hb => by have := h2 _ hb; cases this) v
theorem comm_plain {d e : D} (hd : ∀ p m H, d ≠ .call p m H) (he : ∀ p m H, e ≠ .call p m H) (h : (disjB (wrsOf d ++ newsOf d) (rdsOf e ++ newsOf e) && disjB (wrsOf e ++ newsOf e) (rdsOf d)) = true) : Comm d e := by
  simp only [Bool.and_eq_true] at h
  obtain ⟨h1, h2⟩ := h
  refine ⟨fun b hb v => eff_id he (fun ht => disj_spec h2 ht hb) v, fun b hb v => eff_id hd (fun ht => disj_spec h1 ht (List.mem_append_left _ hb)) v, fun b => ?_, fun p m H z => absurd z (hd p m H), fun p m H z => absurd z (he p m H)⟩
  by_cases hb : b ∈ touch d
  · refine .inr fun v => eff_id he (fun ht => ?_) v
    rcases List.mem_append.1 ht with z | z
    · exact disj_spec h1 hb (List.mem_append_left _ (wrs_rds z))
    · exact disj_spec h1 hb (List.mem_append_right _ z)
  · exact .inl fun v => eff_id hd hb v
theorem comm_spec {d e : D} (h : commB d e = true) : Comm d e := by
  cases d with
  | call p m H =>
    cases e with
    | call => simp [commB] at h
    | _ => exact comm_call (fun _ _ _ z => by cases z) (by simpa [commB] using h)
  | _ =>
    cases e with
    | call p m H => exact (comm_call (fun _ _ _ z => by cases z) (by simpa [commB] using h)).symm
    | _ => exact comm_plain (fun _ _ _ z => by cases z) (fun _ _ _ z => by cases z) (by simpa [commB] using h)
theorem freeOne_spec {ops : Array Oper} {i : Nat} {d : D} : ∀ {l : List (Nat × D)}, freeOne ops i d l = true → ∀ y ∈ l, isAnc ops y.1 i = true ∨ commB y.2 d = true
  | [], _, y, hy => by cases hy
  | (j, e) :: l, h, y, hy => by
    simp only [freeOne, Bool.and_eq_true, Bool.or_eq_true] at h
    rcases List.mem_cons.1 hy with rfl | hy
    · exact h.1
    · exact freeOne_spec h.2 y hy
theorem comm_none (e : D) : Comm .none e := by
  refine ⟨fun b hb => by simp [rdsOf] at hb, fun b hb v => rfl, fun b => .inl fun v => rfl, (fun _ _ _ z => by cases z), fun _ _ _ _ => ⟨(fun _ _ _ z => by cases z), (fun b hb => by simp [touch, wrsOf, newsOf] at hb)⟩⟩
/-! ### the walk in the text's order, told operation by operation -/
structure Trace (P : Program) (lo : Nat) (quiet : Bool) (call : CallF) (locs : List Nat) (ops : Array Oper) (S : Nat → St) (X : Nat → Val) (Dl : Nat → D) (i n : Nat) : Prop where
  step : ∀ j, i ≤ j → j < n → ∃ o b, ops[j]? = some o ∧ wantV ops (S j).T o = some b ∧ S (j + 1) = ⟨putT o (X j) (S j).T, (S j).M.app (Dl j)⟩ ∧
    (if b = true then stepV P lo quiet call locs (S j).T (S j).M o = some (X j, Dl j) else X j = .tup [] ∧ Dl j = .none)
theorem trace {P : Program} {lo : Nat} {quiet : Bool} {call : CallF} {locs : List Nat} {ops : Array Oper} : ∀ (os : List Oper) (i : Nat) (l l' : List (Nat × D)) (s s' : St), os = ops.toList.drop i → runOps P lo quiet call locs ops os i l s = some (l', s') → freeB ops l' = true →
    ∃ (S : Nat → St) (X : Nat → Val) (Dl : Nat → D), S i = s ∧ S (i + os.length) = s' ∧ Trace P lo quiet call locs ops S X Dl i (i + os.length) ∧ freeB ops l = true ∧
      (∀ y ∈ l, ∀ j, i ≤ j → j < i + os.length → isAnc ops y.1 j = true ∨ Comm y.2 (Dl j)) ∧ (∀ k j, i ≤ k → k < j → j < i + os.length → isAnc ops k j = true ∨ Comm (Dl k) (Dl j))
  | [], i, l, l', s, s', _, h, hf => by
    simp only [runOps, Option.some.injEq, Prod.mk.injEq] at h
    obtain ⟨rfl, rfl⟩ := h
    exact ⟨fun _ => s, fun _ => .undef, fun _ => .none, rfl, rfl, ⟨fun j h1 h2 => by simp at h2; omega⟩, hf, fun _ _ j h1 h2 => by simp at h2; omega, fun k j h1 h2 h3 => by simp at h3; omega⟩
  | o :: os, i, l, l', s, s', ho, h, hf => by
    have hoi : ops[i]? = some o := by
      have := congrArg (fun q => q[0]?) ho
      simpa using this.symm
    have hos : os = ops.toList.drop (i + 1) := by
      have := congrArg List.tail ho
      simpa [List.tail_drop] using this
    have main : ∀ (b : Bool) (x : Val) (d : D) (l2 : List (Nat × D)), wantV ops s.T o = some b → (if b = true then stepV P lo quiet call locs s.T s.M o = some (x, d) else x = .tup [] ∧ d = .none) → (l2 = l ∧ d = .none ∨ l2 = (i, d) :: l) →
        runOps P lo quiet call locs ops os (i + 1) l2 ⟨putT o x s.T, s.M.app d⟩ = some (l', s') →
        ∃ (S : Nat → St) (X : Nat → Val) (Dl : Nat → D), S i = s ∧ S (i + (o :: os).length) = s' ∧ Trace P lo quiet call locs ops S X Dl i (i + (o :: os).length) ∧ freeB ops l = true ∧
          (∀ y ∈ l, ∀ j, i ≤ j → j < i + (o :: os).length → isAnc ops y.1 j = true ∨ Comm y.2 (Dl j)) ∧ (∀ k j, i ≤ k → k < j → j < i + (o :: os).length → isAnc ops k j = true ∨ Comm (Dl k) (Dl j)) := by
      intro b x d l2 hb hx hl hrun
      obtain ⟨S, X, Dl, h1, h2, h3, h4, h5, h6⟩ := trace os (i + 1) l2 l' _ s' hos hrun hf
      have hlen : i + 1 + os.length = i + (o :: os).length := by simp; omega
      have hpair : ∀ j, i < j → j < i + (o :: os).length → isAnc ops i j = true ∨ Comm d (Dl j) := by
        intro j a1 a2
        rcases hl with ⟨_, rfl⟩ | rfl
        · exact .inr (comm_none _)
        · exact h5 (i, d) (by simp) j a1 (by omega)
      have hl2 : ∀ y ∈ l, y ∈ l2 := fun y hy => by rcases hl with ⟨rfl, _⟩ | rfl; exact hy; exact List.mem_cons_of_mem _ hy
      refine ⟨fun j => if j = i then s else S j, fun j => if j = i then x else X j, fun j => if j = i then d else Dl j, by simp, by simp only [← hlen]; rw [if_neg (by omega)]; exact h2, ⟨fun j a1 a2 => ?_⟩, ?_, fun y hy j a1 a2 => ?_, fun k j a1 a2 a3 => ?_⟩
      · by_cases e : j = i
        · subst e
          refine ⟨o, b, hoi, by simpa using hb, by simp [h1], ?_⟩
          simpa using hx
        · obtain ⟨o', b', q1, q2, q3, q4⟩ := h3.step j (by omega) (by omega)
          refine ⟨o', b', q1, by simpa [e] using q2, ?_, by simpa [e] using q4⟩
          simp only [e, if_false]
          rw [if_neg (by omega)]
          exact q3
      · rcases hl with ⟨rfl, _⟩ | rfl
        · exact h4
        · simp only [freeB, Bool.and_eq_true] at h4; exact h4.2
      · by_cases e : j = i
        · subst e
          simp only [if_true]
          rcases hl with ⟨_, rfl⟩ | rfl
          · exact .inr (comm_none _).symm
          · simp only [freeB, Bool.and_eq_true] at h4
            exact (freeOne_spec h4.1 y hy).imp id comm_spec
        · simp only [e, if_false]
          exact h5 y (hl2 y hy) j (by omega) (by omega)
      · have ej : j ≠ i := by omega
        simp only [ej, if_false]
        by_cases e : k = i
        · subst e
          simp only [if_true]
          exact hpair j (by omega) a3
        · simp only [e, if_false]
          exact h6 k j (by omega) a2 (by omega)
    simp only [runOps] at h
    cases hw : wantV ops s.T o with
    | none => simp [hw] at h
    | some b =>
      simp only [hw] at h
      cases b
      · simp only [Bool.false_eq_true, if_false] at h
        exact main false (.tup []) .none l hw (by simp) (.inl ⟨rfl, rfl⟩) h
      · simp only [if_true] at h
        cases hst : stepV P lo quiet call locs s.T s.M o with
        | none => simp [hst] at h
        | some xd =>
          obtain ⟨x, d⟩ := xd
          simp only [hst] at h
          refine main true x d _ hw (by simpa using hst) ?_ h
          cases d <;> simp
end Go.Proofs.YtponkdimnafppaaDoor.VM
