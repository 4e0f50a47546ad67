/- A plain machine for the program's functions: a region in any order. -/
import Derived.Test.YtponkdimnafppaaDoorVM
namespace Go.Proofs.YtponkdimnafppaaDoor.VM
open Go
set_option linter.unusedVariables false
set_option linter.unusedSimpArgs false
theorem maskFrom_get (keep : List Nat) : ∀ (T : List Val) (i t : Nat), getAt t (maskFrom keep i T) = if keep.contains (i + t) = true then getAt t T else if t < T.length then some .undef else none
  | [], i, t => by simp [maskFrom, getAt]
  | x :: xs, i, 0 => by simp only [maskFrom, getAt, Nat.add_zero]; split <;> simp
  | x :: xs, i, t + 1 => by
    simp only [maskFrom, getAt]
    rw [maskFrom_get keep xs (i + 1) t, show i + 1 + t = i + (t + 1) by omega]
    simp
theorem maskFrom_length (keep : List Nat) : ∀ (T : List Val) (i : Nat), (maskFrom keep i T).length = T.length
  | [], _ => rfl
  | x :: xs, i => by simp [maskFrom, maskFrom_length keep xs (i + 1)]
section
variable {P : Program} {lo : Nat} {o : Oper}
theorem stepV_congr {quiet : Bool} {call : CallF} {locs : List Nat} {T T' : List Val} {M : Mem} (h : ∀ y ∈ o.op.operands, ev T' y = ev T y) : stepV P lo quiet call locs T' M o = stepV P lo quiet call locs T M o := by
  have hgen : (∀ cs b, o.op ≠ .select cs b) → genStep P T' o = genStep P T o := by
    intro hs
    have hP : ∀ y ∈ o.op.operands, evP T' y = evP T y := fun y hy => by unfold evP; rw [h y hy]
    unfold genStep
    rw [execOp_congr o hs hP]
    have : (o.op.operands.toList.all fun x => (plain (ev T' x)).isSome) = (o.op.operands.toList.all fun x => (plain (ev T x)).isSome) := by
      rw [Bool.eq_iff_iff, List.all_eq_true, List.all_eq_true]
      exact ⟨fun q y hy => by rw [← h y (by simpa using hy)]; exact q y hy, fun q y hy => by rw [h y (by simpa using hy)]; exact q y hy⟩
    rw [this]
  have hargs : ∀ c : Call, o.op = .call c → mapT T' c.args = mapT T c.args := by
    intro c hc
    unfold mapT
    refine List.map_congr_left fun y hy => h y ?_
    rw [hc]
    simp only [Op.operands, Call.operands]
    exact Array.mem_append.2 (.inr (by simpa using hy))
  have hopt : ∀ (d : Int) (y : Option Operand), (∀ z, y = some z → z ∈ o.op.operands) → optInt T' d y = optInt T d y := by
    intro d y hy
    cases y with
    | none => rfl
    | some z => simp only [optInt]; rw [h z (hy z rfl)]
  unfold stepV
  cases hop : o.op with
  | move y => rw [hop] at h; simp only [h y (by simp [Op.operands])]
  | assign y => rw [hop] at h; simp only [h y (by simp [Op.operands])]
  | pick c y z => rw [hop] at h; simp only [h c (by simp [Op.operands]), h y (by simp [Op.operands]), h z (by simp [Op.operands])]
  | alloc t => rfl
  | box t y => rw [hop] at h; simp only [h y (by simp [Op.operands])]
  | build t ps =>
    have : partsV T' ps = partsV T ps := by
      unfold partsV
      refine List.map_congr_left fun p hp => ?_
      rw [h p.2 (by rw [hop]; simp only [Op.operands]; exact List.mem_toArray.2 (List.mem_map.2 ⟨p, hp, rfl⟩))]
    simp only [this]
  | buildSlice t n ps =>
    have : partsV T' ps = partsV T ps := by
      unfold partsV
      refine List.map_congr_left fun p hp => ?_
      rw [h p.2 (by rw [hop]; simp only [Op.operands]; exact List.mem_toArray.2 (List.mem_map.2 ⟨p, hp, rfl⟩))]
    simp only [this]
  | load t y => rw [hop] at h; simp only [h y (by simp [Op.operands])]
  | store t y z => rw [hop] at h; simp only [h y (by simp [Op.operands]), h z (by simp [Op.operands])]
  | nilCheck y => rw [hop] at h; simp only [h y (by simp [Op.operands])]
  | binOp op t y z u => rw [hop] at h; simp only [h y (by simp [Op.operands]), h z (by simp [Op.operands])]
  | unOp op t y => simp only [hgen (by simp [hop])]
  | convert s d y =>
    have hy := h y (by rw [hop]; simp [Op.operands])
    simp only [convV, hy, hgen (by simp [hop])]
  | makeSlice t l c => rw [hop] at h; simp only [h l (by simp [Op.operands]), h c (by simp [Op.operands])]
  | slice t y l hi m =>
    have hy := h y (by rw [hop]; simp [Op.operands])
    cases m with
    | some m => rfl
    | none =>
      have hl : ∀ d, optInt T' d l = optInt T d l := fun d => hopt d l fun z hz => by rw [hop, hz]; simp [Op.operands]
      have hh : ∀ d, optInt T' d hi = optInt T d hi := fun d => hopt d hi fun z hz => by rw [hop, hz]; simp [Op.operands]
      simp only [sliceV, hy, hl, hh]
  | fieldAddr s y f => rw [hop] at h; simp only [h y (by simp [Op.operands])]
  | field s y f => rw [hop] at h; simp only [h y (by simp [Op.operands])]
  | indexAddr t y z => rw [hop] at h; simp only [h y (by simp [Op.operands]), h z (by simp [Op.operands])]
  | index t y z => rw [hop] at h; simp only [h y (by simp [Op.operands]), h z (by simp [Op.operands])]
  | extract y i => rw [hop] at h; simp only [h y (by simp [Op.operands])]
  | call c => simp only [hargs c hop, hgen (by simp [hop])]
  | _ => rfl
theorem wantV_congr {ops : Array Oper} {T T' : List Val} (h : ∀ t ∈ o.looksAt ops, getAt t T' = getAt t T) : wantV ops T' o = wantV ops T o := by
  unfold wantV
  cases hg : o.guard with
  | none => rfl
  | some gw =>
    obtain ⟨j, want⟩ := gw
    cases hd : (ops[j]?).bind (·.dst) with
    | none => simp only [hd]
    | some d =>
      have : getAt d T' = getAt d T := h d (by simp [Oper.looksAt, hg, hd])
      simp only [hd, this]
end
/-! ### the order of the edges -/
theorem masks_take : ∀ (os : List Oper) (acc : List Nat), (masks os acc).take acc.length = acc ∧ acc.length ≤ (masks os acc).length
  | [], acc => by simp [masks]
  | o :: os, acc => by
    simp only [masks]
    obtain ⟨h1, h2⟩ := masks_take os (acc ++ [maskOf acc o.after.toList])
    simp only [List.length_append, List.length_cons, List.length_nil] at h1 h2
    refine ⟨?_, by omega⟩
    have := congrArg (List.take acc.length) h1
    rw [List.take_take] at this
    rw [Nat.min_eq_left (by omega)] at this
    rw [this]
    simp
theorem masks_get : ∀ (os : List Oper) (acc : List Nat) (j : Nat) (o : Oper), os[j]? = some o → (masks os acc)[acc.length + j]? = some (maskOf ((masks os acc).take (acc.length + j)) o.after.toList)
  | [], _, _, _, h => by simp at h
  | o :: os, acc, 0, o', h => by
    simp at h
    subst h
    simp only [masks, Nat.add_zero]
    obtain ⟨h1, h2⟩ := masks_take os (acc ++ [maskOf acc o.after.toList])
    simp only [List.length_append, List.length_cons, List.length_nil] at h1 h2
    have e1 : (masks os (acc ++ [maskOf acc o.after.toList]))[acc.length]? = some (maskOf acc o.after.toList) := by
      have := congrArg (fun l => l[acc.length]?) h1
      simp only [List.getElem?_take_of_lt (Nat.lt_succ_self _)] at this
      rw [this]; simp
    have e2 : (masks os (acc ++ [maskOf acc o.after.toList])).take acc.length = acc := by
      have := congrArg (List.take acc.length) h1
      rw [List.take_take, Nat.min_eq_left (by omega)] at this
      rw [this]; simp
    rw [e1, e2]
  | o :: os, acc, j + 1, o', h => by
    simp only [masks]
    have := masks_get os (acc ++ [maskOf acc o.after.toList]) j o' (by simpa using h)
    simp only [List.length_append, List.length_cons, List.length_nil] at this
    rw [show acc.length + 1 + j = acc.length + (j + 1) by omega] at this
    exact this
theorem maskOf_bit {acc : List Nat} {i : Nat} : ∀ {es : List Edge}, (maskOf acc es).testBit i = true → ∃ e ∈ es, Region.binds .any e = true ∧ (i = e.on ∨ ((getAt e.on acc).getD 0).testBit i = true)
  | [], h => by simp [maskOf] at h
  | e :: es, h => by
    simp only [maskOf] at h
    cases hb : Region.binds .any e with
    | false =>
      simp only [hb] at h
      obtain ⟨e', h1, h2⟩ := maskOf_bit h
      exact ⟨e', List.mem_cons_of_mem _ h1, h2⟩
    | true =>
      simp only [hb, Nat.testBit_or, Bool.or_eq_true] at h
      rcases h with (h | h) | h
      · rw [Nat.testBit_two_pow] at h
        exact ⟨e, by simp, hb, .inl (by simp at h; exact h.symm)⟩
      · exact ⟨e, by simp, hb, .inr h⟩
      · obtain ⟨e', h1, h2⟩ := maskOf_bit h
        exact ⟨e', List.mem_cons_of_mem _ h1, h2⟩
theorem anc_edge {ops : Array Oper} {i j : Nat} {o : Oper} (ho : ops[j]? = some o) (h : isAnc ops i j = true) : ∃ e ∈ o.after, Region.binds .any e = true ∧ (i = e.on ∨ isAnc ops i e.on = true) := by
  unfold isAnc at h
  rw [getAt_eq] at h
  have hm := masks_get ops.toList [] j o (by simpa using ho)
  simp only [List.length_nil, Nat.zero_add] at hm
  rw [hm] at h
  simp only [Option.getD_some] at h
  obtain ⟨e, he, hb, hor⟩ := maskOf_bit h
  refine ⟨e, by simpa using he, hb, hor.imp id fun q => ?_⟩
  unfold isAnc
  rw [getAt_eq] at q ⊢
  by_cases hlt : e.on < j
  · rw [List.getElem?_take_of_lt hlt] at q; exact q
  · rw [List.getElem?_eq_none (by simp; omega)] at q; simp at q
def Closed (ops : Array Oper) (L : Array Bool) : Prop := ∀ j, j < ops.size → L.getD j false = true → ∀ i, isAnc ops i j = true → L.getD i false = true
theorem anc_lt {ops : Array Oper} {i j : Nat} (h : isAnc ops i j = true) : j < ops.size := by
  rcases Nat.lt_or_ge j ops.size with z | z
  · exact z
  · exfalso
    have hl : ∀ (os : List Oper) (acc : List Nat), (masks os acc).length = acc.length + os.length := by
      intro os
      induction os with
      | nil => intro acc; simp [masks]
      | cons o os ih => intro acc; simp only [masks, ih]; simp; omega
    unfold isAnc at h
    rw [getAt_eq, List.getElem?_eq_none (by rw [hl]; simpa using z)] at h
    simp at h
theorem closed_anc {ops : Array Oper} {L : Array Bool} (h : Closed ops L) {i j : Nat} (ha : isAnc ops i j = true) (hj : L.getD j false = true) : L.getD i false = true :=
  h j (anc_lt ha) hj i ha
theorem ready_anc {ops : Array Oper} {L : Array Bool} (h : Closed ops L) {i j : Nat} {o : Oper} (ho : ops[j]? = some o) (hr : ∀ e ∈ o.after, Region.binds .any e = true → L.getD e.on false = true) (hi : isAnc ops i j = true) : L.getD i false = true := by
  obtain ⟨e, he, hb, hor⟩ := anc_edge ho hi
  rcases hor with rfl | ha
  · exact hr e he hb
  · exact closed_anc h ha (hr e he hb)
theorem set_getD {L : Array Bool} {j : Nat} (hj : j < L.size) (i : Nat) : (L.setIfInBounds j true).getD i false = (L.getD i false || decide (i = j)) := by
  by_cases e : i = j
  · subst e; simp [hj]
  · have hne : j ≠ i := fun z => e z.symm
    simp [Array.getElem?_setIfInBounds_ne hne, e]
theorem closed_set {ops : Array Oper} {L : Array Bool} (h : Closed ops L) {j : Nat} {o : Oper} (hj : j < L.size) (ho : ops[j]? = some o) (hr : ∀ e ∈ o.after, Region.binds .any e = true → L.getD e.on false = true) : Closed ops (L.setIfInBounds j true) := by
  intro k hkn hk i hi
  rw [set_getD hj] at hk ⊢
  by_cases e : k = j
  · subst e; rw [ready_anc h ho hr hi]; rfl
  · simp only [e, decide_false, Bool.or_false] at hk
    rw [h k hkn hk i hi]; rfl
def cnt (L : Array Bool) : Nat → Nat
  | 0 => 0
  | n + 1 => cnt L n + if L.getD n false = true then 0 else 1
theorem cnt_set {L : Array Bool} {j : Nat} (hj : j < L.size) (hL : L.getD j false = false) : ∀ n, cnt (L.setIfInBounds j true) n + (if j < n then 1 else 0) = cnt L n
  | 0 => by simp [cnt]
  | n + 1 => by
    have ih := cnt_set hj hL n
    by_cases e : n = j
    · subst e
      rw [if_neg (by omega)] at ih
      have e2 : (L.setIfInBounds n true).getD n false = true := by rw [set_getD hj]; simp
      simp only [cnt, e2, hL, if_true, Nat.lt_succ_self]
      simp
      omega
    · have e2 : (L.setIfInBounds j true).getD n false = L.getD n false := by rw [set_getD hj]; simp [e]
      have h3 : (if j < n + 1 then 1 else 0) = (if j < n then 1 else 0) := by
        by_cases hn : j < n
        · rw [if_pos hn, if_pos (by omega)]
        · rw [if_neg hn, if_neg (by omega)]
      rw [h3]
      simp only [cnt, e2]
      generalize (if j < n then 1 else 0) = q at *
      omega
theorem cnt_zero {L : Array Bool} : ∀ n, cnt L n = 0 → ∀ i, i < n → L.getD i false = true
  | 0, _, i, hi => by omega
  | n + 1, h, i, hi => by
    simp only [cnt] at h
    by_cases e : i = n
    · subst e
      cases hL : L.getD i false
      · rw [hL] at h; simp at h
      · rfl
    · exact cnt_zero n (by omega) i (by omega)
end Go.Proofs.YtponkdimnafppaaDoor.VM
