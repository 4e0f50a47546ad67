/- A plain machine for the program's functions: rules by which calls are followed. -/
import Derived.Test.YtponkdimnafppaaDoorVR
namespace Go.Proofs.YtponkdimnafppaaDoor.VM
open Go Go.RowKit
set_option linter.unusedVariables false
set_option linter.unusedSimpArgs false
/-- It comes to something of which this holds. -/
def Ends {R : Type} (o : Option R) (Φ : R → Prop) : Prop := ∃ r, o = some r ∧ Φ r
theorem Ends.some' {R : Type} {r : R} {Φ : R → Prop} (h : Φ r) : Ends (some r) Φ := ⟨r, rfl, h⟩
theorem Ends.ite {R : Type} {b : Bool} {x y : Option R} {Φ : R → Prop} (h1 : b = true → Ends x Φ) (h2 : b = false → Ends y Φ) : Ends (iteK b x y) Φ := by
  cases b
  · exact h2 rfl
  · exact h1 rfl
theorem Ends.iteT {R : Type} {b : Bool} {x y : Option R} {Φ : R → Prop} (h : b = true) (h1 : Ends x Φ) : Ends (iteK b x y) Φ := by subst h; exact h1
theorem Ends.iteF {R : Type} {b : Bool} {x y : Option R} {Φ : R → Prop} (h : b = false) (h1 : Ends y Φ) : Ends (iteK b x y) Φ := by subst h; exact h1
theorem Ends.opt {α R : Type} {o : Option α} {K : α → Option R} {Φ : R → Prop} {x : α} (h : o = some x) (h1 : Ends (K x) Φ) : Ends (optK o K) Φ := by subst h; exact h1
/-- A call whose answer is known. -/
theorem Ends.call {R : Type} {o : Option (Val × List Blk)} {K : Val → List Blk → Option R} {Φ : R → Prop} {v : Val} {H : List Blk} (h : o = some (v, H)) (h1 : Ends (K v H) Φ) : Ends (callK o K) Φ := by subst h; exact h1
/-- A call of whose answer something is known. -/
theorem Ends.callE {R : Type} {o : Option (Val × List Blk)} {K : Val → List Blk → Option R} {Φ : R → Prop} {Ψ : Val × List Blk → Prop} (h : Ends o Ψ) (h1 : ∀ v H, Ψ (v, H) → Ends (K v H) Φ) : Ends (callK o K) Φ := by
  obtain ⟨⟨v, H⟩, rfl, hp⟩ := h
  exact h1 v H hp
theorem Ends.mono {R : Type} {o : Option R} {Φ Ψ : R → Prop} (h : Ends o Φ) (m : ∀ r, Φ r → Ψ r) : Ends o Ψ := by
  obtain ⟨r, e, p⟩ := h
  exact ⟨r, e, m r p⟩
theorem Ends.eq {R : Type} {o : Option R} {r : R} (h : Ends o (fun x => x = r)) : o = some r := by
  obtain ⟨x, e, rfl⟩ := h
  exact e
theorem eq_of_ends {R : Type} {o : Option R} {r : R} (h : Ends o (fun x => x = r)) : o = some r := h.eq
/-- A loop: what holds at the head of each round. -/
theorem Ends.loop {R : Type} {body : St → (Out → St → Option R) → Option R} {keep : List Nat} {K : Out → St → Option R} {Φ : R → Prop} (I : Nat → List Val → Mem → Prop) (h0 : ∀ T M, ¬ I 0 T M)
    (h : ∀ n T M (L : St → Option R), I (n + 1) T M → (∀ s', I n (maskFrom keep 0 s'.T) s'.M → Ends (L s') Φ) → Ends (body ⟨T, M⟩ fun o s' => match o with | .normal => L s' | o => K o s') Φ) :
    ∀ n s, I n (maskFrom keep 0 s.T) s.M → Ends (loopK body keep n s K) Φ := by
  intro n
  induction n with
  | zero => intro s hI; exact absurd hI (h0 _ _)
  | succ n ih => intro s hI; rw [loopK_succ]; exact h n _ _ (fun s' => loopK body keep n s' K) hI ih
/-- Ways that come together: what holds there. -/
theorem Ends.join {R : Type} {mk : Mk} {a b : St → (Out → St → Option R) → Option R} {keep : List Nat} {s : St} {K : Out → St → Option R} {Φ : R → Prop} (I : List Val → Mem → Prop)
    (h1 : ∀ (L : List Val → Mem → Option R) (KK : Out → St → Option R), (∀ o s', KK o s' = K o s') → (∀ T M, I (maskFrom keep 0 T) M → Ends (L T M) Φ) → Ends (a s fun o s' => match o with
      | .normal => L s'.T s'.M
      | o => KK o s') Φ)
    (h2 : ∀ T M, I T M → Ends (b ⟨T, M⟩ K) Φ) : Ends (optK mk.j fun _ => joinK a b keep s K) Φ := by
  refine Ends.opt mk.j_ok ?_
  have h := h1 (fun T M => b ⟨maskFrom keep 0 T, M⟩ K) K (fun _ _ => rfl) (fun T M hI => h2 _ _ hI)
  obtain ⟨r, e, p⟩ := h
  refine ⟨r, ?_, p⟩
  rw [← e]
  unfold joinK
  congr 1
  funext o s'
  cases o <;> first | rfl | (obtain ⟨T, M⟩ := s'; simp only [forceMask_eq])
/-- To be put where a test asks whether a type may be compared. -/
theorem eqBad_ok {P : Program} (t : TypeId) (h : eqBad P t = false) : eqBad P t = false := h
/-- Cells that are not told out. -/
theorem Ends.force {R : Type} {cs : List Val} {K : List Val → Option R} {Φ : R → Prop} (h : Ends (K cs) Φ) : Ends (forceCs cs K) Φ := by rw [forceCs_eq]; exact h
theorem Ends.forceLs {R : Type} {l : List (List Val)} {K : List (List Val) → Option R} {Φ : R → Prop} (h : Ends (K l) Φ) : Ends (forceLs l K) Φ := by rw [forceLs_eq]; exact h
theorem Ends.forceN {R : Type} {n : Nat} {K : Nat → Option R} {Φ : R → Prop} (h : Ends (K n) Φ) : Ends (forceN n K) Φ := by rw [forceN_eq]; exact h
/-- The temporaries of which something is known. -/
def mkT : Nat → Nat → List (Nat × Val) → List Val
  | _, 0, _ => []
  | i, n + 1, l => (match l with
    | [] => Val.undef
    | (j, v) :: _ => bif Nat.beq i j then v else .undef) :: mkT (i + 1) n (match l with
    | [] => []
    | (j, _) :: r => bif Nat.beq i j then r else l)
theorem Ends.forceV {R : Type} {v : Val} {K : Val → Option R} {Φ : R → Prop} (h : Ends (K v) Φ) : Ends (forceV v K) Φ := by rw [forceV_eq]; exact h
/-! ### the order of operations that may change places: only the pairs that no edge binds are looked at -/
def unord (ops : Array Oper) : List Nat → List (Nat × Nat)
  | [] => []
  | i :: l => (l.filterMap fun j => if isAnc ops j i = true then none else some (j, i)) ++ unord ops l
def lookD : List (Nat × D) → Nat → D
  | [], _ => .none
  | (i, d) :: l, j => if i = j then d else lookD l j
def allC (l : List (Nat × D)) : List (Nat × Nat) → Prop
  | [] => True
  | p :: ps => commB (lookD l p.1) (lookD l p.2) = true ∧ allC l ps
theorem allC_mem {l : List (Nat × D)} : ∀ {ps : List (Nat × Nat)}, allC l ps → ∀ p ∈ ps, commB (lookD l p.1) (lookD l p.2) = true
  | [], _, p, hp => by cases hp
  | q :: ps, h, p, hp => by
    rcases List.mem_cons.1 hp with rfl | hp
    · exact h.1
    · exact allC_mem h.2 p hp
theorem lookD_mem {l : List (Nat × D)} (nd : (l.map Prod.fst).Nodup) {i : Nat} {d : D} (h : (i, d) ∈ l) : lookD l i = d := by
  induction l with
  | nil => cases h
  | cons x l ih =>
    obtain ⟨j, e⟩ := x
    simp only [List.map_cons, List.nodup_cons] at nd
    unfold lookD
    rcases List.mem_cons.1 h with h | h
    · cases h; rw [if_pos rfl]
    · have : j ≠ i := fun z => nd.1 (by rw [z]; exact List.mem_map_of_mem (f := Prod.fst) h)
      rw [if_neg this]; exact ih nd.2 h
theorem freeOne_of {ops : Array Oper} {i : Nat} {d : D} : ∀ {l : List (Nat × D)}, (∀ j e, (j, e) ∈ l → isAnc ops j i = true ∨ commB e d = true) → freeOne ops i d l = true
  | [], _ => rfl
  | (j, e) :: l, h => by
    unfold freeOne
    rw [Bool.and_eq_true, Bool.or_eq_true]
    exact ⟨h j e (by simp), freeOne_of fun j' e' h' => h j' e' (by simp [h'])⟩
theorem freeB_pairs' {ops : Array Oper} {g : Nat → D} : ∀ {l : List (Nat × D)}, (∀ i d, (i, d) ∈ l → g i = d) → (∀ p ∈ unord ops (l.map Prod.fst), commB (g p.1) (g p.2) = true) → freeB ops l = true
  | [], _, _ => rfl
  | (i, d) :: l, hg, h => by
    unfold freeB
    rw [Bool.and_eq_true]
    refine ⟨freeOne_of fun j e hj => ?_, freeB_pairs' (fun i d hm => hg i d (by simp [hm])) fun p hp => h p ?_⟩
    · by_cases c : isAnc ops j i = true
      · exact .inl c
      · refine .inr ?_
        have h1 := h (j, i) ?_
        · rw [hg j e (by simp [hj]), hg i d (by simp)] at h1; exact h1
        · simp only [List.map_cons, unord, List.mem_append, List.mem_filterMap]
          exact .inl ⟨j, List.mem_map_of_mem (f := Prod.fst) hj, by rw [if_neg c]⟩
    · simp only [List.map_cons, unord, List.mem_append]
      exact .inr hp
/-- What is free of its order: by the pairs that no edge binds. -/
theorem freeB_pairs {ops : Array Oper} {l : List (Nat × D)} (is : List Nat) (ps : List (Nat × Nat)) (hi : l.map Prod.fst = is) (hp : unord ops is = ps) (nd : is.Nodup) (hc : allC l ps) : freeB ops l = true := by
  subst hi
  exact freeB_pairs' (g := lookD l) (fun i d hm => lookD_mem nd hm) (by rw [hp]; exact allC_mem hc)
end Go.Proofs.YtponkdimnafppaaDoor.VM
