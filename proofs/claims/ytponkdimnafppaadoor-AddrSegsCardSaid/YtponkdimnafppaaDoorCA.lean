/- A plain machine for the program's functions: rows, and heaps that grow. -/
import Derived.Test.YtponkdimnafppaaDoorVZ
namespace Go.Proofs.YtponkdimnafppaaDoor.VM
open Go Go.RowKit
set_option linter.unusedVariables false
set_option linter.unusedSimpArgs false
set_option maxRecDepth 40000
theorem takeN_all {α : Type} : ∀ (l r : List α), takeN l.length (l ++ r) = some l
  | [], r => by cases r <;> rfl
  | x :: l, r => by
    show (takeN l.length (l ++ r)).map (x :: ·) = _
    rw [takeN_all l r]; rfl
theorem dropN_all {α : Type} : ∀ (l r : List α), dropN l.length (l ++ r) = r
  | [], r => by cases r <;> rfl
  | x :: l, r => dropN_all l r
theorem part_mid {α : Type} (a b c : List α) {off n : Nat} (h1 : off = a.length) (h2 : n = b.length) : part? off n (a ++ (b ++ c)) = some b := by
  subst h1; subst h2
  unfold part?
  rw [dropN_all, takeN_all]
theorem putAt_mid : ∀ (a b c v : List Val) (h : v.length = b.length), putAt a.length v (a ++ (b ++ c)) = some (a ++ (v ++ c))
  | [], [], c, [], _ => by cases c <;> rfl
  | [], b :: bs, c, v :: vs, h => by
    have := putAt_mid [] bs c vs (by simpa using h)
    show (putAt 0 vs (bs ++ c)).map (v :: ·) = _
    rw [show putAt 0 vs (bs ++ c) = some (vs ++ c) from this]; rfl
  | a :: l, b, c, [], h => by
    have : b = [] := by cases b <;> simp_all
    subst this; rfl
  | a :: l, b, c, v :: vs, h => by
    have := putAt_mid l b c (v :: vs) h
    show (putAt l.length (v :: vs) (l ++ (b ++ c))).map (a :: ·) = _
    rw [this]; rfl
  | [], [], _, _ :: _, h => by cases h
  | [], _ :: _, _, [], h => by cases h
/-- What there was is what it was. -/
def Grown (H H' : List Blk) : Prop := ∃ G, H' = H ++ G
theorem Grown.refl (H : List Blk) : Grown H H := ⟨[], by simp⟩
theorem Grown.trans {A B C : List Blk} (h : Grown A B) (h' : Grown B C) : Grown A C := by
  obtain ⟨X, rfl⟩ := h; obtain ⟨Y, rfl⟩ := h'; exact ⟨X ++ Y, by simp⟩
theorem Grown.len {A B : List Blk} (h : Grown A B) : A.length ≤ B.length := by
  obtain ⟨X, rfl⟩ := h; simp
theorem Grown.at {A B : List Blk} (h : Grown A B) {b : Nat} {k : Blk} (e : A[b]? = some k) : B[b]? = some k := by
  obtain ⟨X, rfl⟩ := h
  rw [List.getElem?_append_left (List.getElem?_eq_some_iff.1 e).1]; exact e
theorem Grown.one (A : List Blk) (k : Blk) : Grown A (A ++ [k]) := ⟨[k], rfl⟩
theorem Grown.set {H A : List Blk} (h : Grown H A) {i : Nat} (hi : H.length ≤ i) (X : Blk) : Grown H (A.set i X) := by
  obtain ⟨G, rfl⟩ := h
  exact ⟨G.set (i - H.length) X, by rw [List.set_append_right _ _ hi]⟩
theorem get_at {H : List Blk} {b : Nat} {cs : List Val} (h : H[b]? = some ⟨cs, true⟩) (loc : List (List Val)) : Mem.get ⟨loc, H⟩ (.hp b) = some cs := by simp [Mem.get, h]
theorem may_hp {lo q : Nat} (h : lo ≤ q) : mayWrite lo (.hp q) = true := by simpa [mayWrite] using h
theorem at_lt {H : List Blk} {b : Nat} {k : Blk} (h : H[b]? = some k) : b < H.length := (List.getElem?_eq_some_iff.1 h).1
theorem snoc_top {A : List Blk} {n : Nat} {k : Blk} (h : n = A.length) : (A ++ [k])[n]? = some k := by subst h; simp
theorem drop0 {α : Type} (x : List α) : dropN 0 x = x := by cases x <;> rfl
theorem set_self {α : Type} {l : List α} {i : Nat} {x : α} (h : l[i]? = some x) : l.set i x = l := by
  apply List.ext_getElem?
  intro j
  by_cases e : i = j
  · subst e; rw [List.getElem?_set_self (List.getElem?_eq_some_iff.1 h).1, h]
  · rw [List.getElem?_set_ne e]
theorem beqF {a b : Nat} (h : a ≠ b) : Nat.beq a b = false := by simpa [← Bool.not_eq_true, Nat.beq_eq] using h
theorem w64s (x : Int) (h0 : 0 ≤ x) (h1 : x < 9223372036854775808) : IntKind.i64.wrap x = x := by rw [w64]; omega
theorem Ends.forceC {R : Type} {v : Val} {K : Val → Option R} {Φ : R → Prop} (h : Ends (K v) Φ) : Ends (forceC v K) Φ := by rw [forceC_eq]; exact h
/-- A call is entered (ahead of whnf: the kernel then sees the same call on both sides). -/
theorem Ends.enter {mk : Mk} {k lo : Nat} {f : FuncId} {args : List Val} {H : List Blk} {Φ : Val × List Blk → Prop} (hx : ext f args = none) (h : Ends (callVK mk Tryd.prog ann k (F mk Tryd.prog ann ext k) lo f args H) Φ) : Ends (FF mk (k + 1) lo f args H) Φ := by
  show Ends (extK ext (callVK mk Tryd.prog ann k (F mk Tryd.prog ann ext k)) lo f args H) Φ
  unfold extK
  rw [hx]
  exact h
theorem get_top (loc : List (List Val)) (G : List Blk) (cs : List Val) : Mem.get ⟨loc, G ++ [⟨cs, true⟩]⟩ (.hp G.length) = some cs := by
  simp [Mem.get]
theorem set_top (A : List Blk) (Y Z : Blk) : (A ++ [Y]).set A.length Z = A ++ [Z] := by simp
theorem guardT {x : Bool} (h : x = true) : ((bif (true == true) then x else false) == true) = true := by subst h; rfl
theorem guardF {x : Bool} (h : x = false) : ((bif (true == true) then x else false) == true) = false := by subst h; rfl
theorem getAt_mid {α : Type} (a : List α) (x : α) (c : List α) {off : Nat} (h : off = a.length) : getAt off (a ++ (x :: c)) = some x := by
  subst h
  rw [getAt_eq, List.getElem?_append_right (Nat.le_refl _), Nat.sub_self]; rfl
theorem loc_top (loc : List (List Val)) (H : List Blk) (cs : List Val) : Mem.get ⟨loc ++ [cs], H⟩ (.lo loc.length) = some cs := by simp [Mem.get]
theorem loc_set (loc : List (List Val)) (H : List Blk) (c cs : List Val) : Mem.get ⟨(loc ++ [c]).set loc.length cs, H⟩ (.lo loc.length) = some cs := by simp [Mem.get]
/-- A slice of a row that is the call's own, all of it. -/
theorem sc_lo (loc : List (List Val)) (H : List Blk) (cs : List Val) (m n e : Nat) (he : m = e) (hn : n * e = cs.length) : sliceCells ⟨loc ++ [cs], H⟩ m (.sl (.lo loc.length) 0 n e) = some cs := by
  subst he
  show (if m = m then _ else _) = _
  rw [if_pos rfl, loc_top]
  have := part_mid [] cs [] (off := 0) (n := n * m) rfl hn
  simpa using this
/-- A loop within a loop: what comes behind it is not told out. -/
theorem Ends.loopK {R : Type} {body : St → (Out → St → Option R) → Option R} {keep : List Nat} {K : Out → St → Option R} {Φ : R → Prop} (I : Nat → List Val → Mem → Prop) (h0 : ∀ T M, ¬ I 0 T M)
    (h : ∀ n T M (L : St → Option R) (KK : Out → St → Option R), (∀ o s', KK o s' = K o s') → I (n + 1) T M → (∀ s', I n (maskFrom keep 0 s'.T) s'.M → Ends (L s') Φ) → Ends (body ⟨T, M⟩ fun o s' => match o with | .normal => L s' | o => KK o s') Φ) :
    ∀ n s, I n (maskFrom keep 0 s.T) s.M → Ends (VM.loopK body keep n s K) Φ :=
  Ends.loop I h0 fun n T M L hI hL => h n T M L K (fun _ _ => rfl) hI hL
/-- The cells of numbers. -/
def iV (l : List Int) : List Val := l.map fun n => .int .i64 n
theorem iV_len (l : List Int) : (iV l).length = l.length := by simp [iV]
theorem iV_append (x y : List Int) : iV (x ++ y) = iV x ++ iV y := by simp [iV]
theorem iV_shared (l : List Int) : (iV l).all shared = true := by
  unfold iV
  rw [List.all_map, List.all_eq_true]
  intro b hb
  rfl
theorem getAt_iV {l : List Int} (i : Nat) (h : i < l.length) (post : List Val) {off : Nat} (ho : off = i) : getAt off (iV l ++ post) = some (.int .i64 l[i]) := by
  subst ho
  rw [getAt_eq, List.getElem?_append_left (by rw [iV_len]; exact h)]
  simp [iV, h]
theorem getAt_iV' {l : List Int} (i : Nat) (h : i < l.length) {off : Nat} (ho : off = i) : getAt off (iV l) = some (.int .i64 l[i]) := by
  have := getAt_iV i h [] ho
  rwa [List.append_nil] at this
/-- A type of one cell: a part of it. -/
theorem partOne {P : Program} {t : TypeId} (h1 : aggB P t = some false) (h2 : sizeB P t = some 1) {cs : List Val} {off : Nat} {v : Val} (h : getAt off cs = some v) : partV P t cs off = some v := by
  unfold partV; rw [h1, h2]; exact h
theorem partAgg {P : Program} {t : TypeId} {n : Nat} (h1 : aggB P t = some true) (h2 : sizeB P t = some n) {cs ds : List Val} {off : Nat} (h : part? off n cs = some ds) : partV P t cs off = some (.agg ds) := by
  unfold partV; rw [h1, h2]
  show (part? off n cs).map Val.agg = _
  rw [h]; rfl
/-- A row of structs' cells. -/
theorem flat_split {α : Type} (f : α → List Val) {l : List α} {i : Nat} (h : i < l.length) (r : List Val) : (l.map f).flatten ++ r = ((l.take i).map f).flatten ++ (f l[i] ++ (((l.drop (i + 1)).map f).flatten ++ r)) := by
  have e : l = l.take i ++ (l[i] :: l.drop (i + 1)) := by rw [← List.drop_eq_getElem_cons h, List.take_append_drop]
  conv => lhs; rw [e]
  rw [List.map_append, List.flatten_append, List.map_cons, List.flatten_cons, List.append_assoc, List.append_assoc]
theorem flat_len {α : Type} (f : α → List Val) {n : Nat} (hf : ∀ x, (f x).length = n) : ∀ l : List α, ((l.map f).flatten).length = l.length * n
  | [] => by simp
  | x :: l => by
    simp only [List.map_cons, List.flatten_cons, List.length_append, List.length_cons, Nat.succ_mul, hf, flat_len f hf l]
    omega
theorem part_flat {α : Type} (f : α → List Val) {n : Nat} (hf : ∀ x, (f x).length = n) {l : List α} {i : Nat} (h : i < l.length) (r : List Val) {off : Nat} (ho : off = i * n) : part? off n ((l.map f).flatten ++ r) = some (f l[i]) := by
  rw [flat_split f h]
  exact part_mid _ _ _ (by rw [flat_len f hf, List.length_take, Nat.min_eq_left (by omega)]; exact ho) (hf _).symm
theorem part_flat' {α : Type} (f : α → List Val) {n : Nat} (hf : ∀ x, (f x).length = n) {l : List α} {i : Nat} (h : i < l.length) {off : Nat} (ho : off = i * n) : part? off n ((l.map f).flatten) = some (f l[i]) := by
  have := part_flat f hf h [] ho
  rwa [List.append_nil] at this
theorem getAt_flat {α : Type} (f : α → List Val) {n : Nat} (hf : ∀ x, (f x).length = n) {l : List α} {i : Nat} (h : i < l.length) (r : List Val) {off j : Nat} (hj : j < n) (ho : off = i * n + j) : getAt off ((l.map f).flatten ++ r) = getAt j (f l[i]) := by
  subst ho
  rw [flat_split f h, getAt_eq, getAt_eq, List.getElem?_append_right (by rw [flat_len f hf, List.length_take, Nat.min_eq_left (by omega)]; omega), flat_len f hf, List.length_take, Nat.min_eq_left (by omega), show i * n + j - i * n = j by omega, List.getElem?_append_left (by rw [hf]; exact hj)]
/-- A cell of a row, written. -/
theorem putAt_flat {α : Type} (f : α → List Val) {n : Nat} (hf : ∀ x, (f x).length = n) {l : List α} {i : Nat} (h : i < l.length) (y : α) {off : Nat} (ho : off = i * n) : putAt off (f y) ((l.map f).flatten) = some (((l.set i y).map f).flatten) := by
  have e := flat_split f h []
  rw [List.append_nil, List.append_nil] at e
  rw [e, show off = (((l.take i).map f).flatten).length by rw [flat_len f hf, List.length_take, Nat.min_eq_left (by omega)]; exact ho, putAt_mid _ _ _ _ (by rw [hf, hf])]
  rw [List.set_eq_take_append_cons_drop, if_pos h]
  simp
end Go.Proofs.YtponkdimnafppaaDoor.VM
