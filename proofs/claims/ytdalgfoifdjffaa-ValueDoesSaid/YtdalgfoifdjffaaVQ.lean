/- A plain machine for the program's functions: the same, told so that a call can be followed in Lean. -/
import Derived.Test.YtdalgfoifdjffaaVP
namespace Go.Proofs.Ytdalgfoifdjffaa.VM
open Go Go.RowKit
set_option linter.unusedVariables false
set_option linter.unusedSimpArgs false
/-! ### annotated code out of the program's -/
def toIC (qs : List Nat) : Code → List (List Nat) → Option (IC × List (List Nat))
  | .skip, ks => some (.skip, ks)
  | .region id ops draw, ks => some (.region (qs.contains id) id ops draw, ks)
  | .seq a b, ks => (toIC qs a ks).bind fun x => (toIC qs b x.2).map fun y => (.seq x.1 y.1, y.2)
  | .cond c a b, ks => (toIC qs a ks).bind fun x => (toIC qs b x.2).map fun y => (.cond c x.1 y.1, y.2)
  | .block id a, ks => (toIC qs a ks).map fun x => (.block id x.1, x.2)
  | .loop a, k :: ks => (toIC qs a ks).map fun x => (.loop k x.1, x.2)
  | .exit id, ks => some (.exit id, ks)
  | .ret, ks => some (.ret, ks)
  | _, _ => none
theorem toIC_code (qs : List Nat) : ∀ (c : Code) (ks : List (List Nat)) (x : IC × List (List Nat)), toIC qs c ks = some x → x.1.code = c := by
  intro c
  induction c with
  | skip => intro ks x h; simp only [toIC, Option.some.injEq] at h; subst h; rfl
  | region id ops draw => intro ks x h; simp only [toIC, Option.some.injEq] at h; subst h; rfl
  | seq a b iha ihb =>
    intro ks x h
    simp only [toIC, Option.bind_eq_some_iff, Option.map_eq_some_iff] at h
    obtain ⟨y, hy, z, hz, rfl⟩ := h
    simp only [IC.code, iha _ _ hy, ihb _ _ hz]
  | cond c a b iha ihb =>
    intro ks x h
    simp only [toIC, Option.bind_eq_some_iff, Option.map_eq_some_iff] at h
    obtain ⟨y, hy, z, hz, rfl⟩ := h
    simp only [IC.code, iha _ _ hy, ihb _ _ hz]
  | block id a iha =>
    intro ks x h
    simp only [toIC, Option.map_eq_some_iff] at h
    obtain ⟨y, hy, rfl⟩ := h
    simp only [IC.code, iha _ _ hy]
  | loop a iha =>
    intro ks x h
    cases ks with
    | nil => simp [toIC] at h
    | cons k ks =>
      simp only [toIC, Option.map_eq_some_iff] at h
      obtain ⟨y, hy, rfl⟩ := h
      simp only [IC.code, iha _ _ hy]
  | exit id => intro ks x h; simp only [toIC, Option.some.injEq] at h; subst h; rfl
  | ret => intro ks x h; simp only [toIC, Option.some.injEq] at h; subst h; rfl
  | _ => intro ks x h; simp [toIC] at h
/-- What is told beside a function: the temporaries whose block is its own; what is kept at the heads of its loops; the regions whose calls leave what there is. -/
structure Note where
  locs : List Nat
  keeps : List (List Nat)
  quiets : List Nat
def annOf (P : Program) (tbl : FuncId → Note) (f : FuncId) : Option Ann :=
  (P.funcs[f]?).bind fun fn => fn.body.bind fun c => (toIC (tbl f).quiets c (tbl f).keeps).map fun x => ⟨x.1, (tbl f).locs⟩
theorem annOf_ok (P : Program) (tbl : FuncId → Note) (hlx : ((List.range P.funcs.size).all fun f => match annOf P tbl f with | some an => an.code.lex | none => true) = true) : AnnOk P (annOf P tbl) := by
  intro f an h
  have h0 := h
  simp only [annOf, Option.bind_eq_some_iff, Option.map_eq_some_iff] at h
  obtain ⟨fn, hf, c, hc, x, hx, rfl⟩ := h
  refine ⟨fn, hf, by rw [hc, toIC_code _ _ _ _ hx], ?_⟩
  rw [List.all_eq_true] at hlx
  have := hlx f (by simpa using (Array.getElem?_eq_some_iff.1 hf).1)
  rw [h0] at this
  exact this
/-! ### followed from place to place -/
def iteK {R : Type} (b : Bool) (x y : Option R) : Option R := match b with
  | true => x
  | false => y
def optK {α R : Type} (o : Option α) (K : α → Option R) : Option R := match o with
  | some x => K x
  | none => none
/-- What a call comes to, taken as what its kind is. -/
def callK {R : Type} (r : Option (Val × List Blk)) (K : Val → List Blk → Option R) : Option R := match r with
  | some (v, H) => K v H
  | none => none
theorem iteK_some {R : Type} {b : Bool} {x y : Option R} {r : R} (h : iteK b x y = some r) : (b = true ∧ x = some r) ∨ (b = false ∧ y = some r) := by
  cases b
  · exact .inr ⟨rfl, h⟩
  · exact .inl ⟨rfl, h⟩
theorem optK_some {α R : Type} {o : Option α} {K : α → Option R} {r : R} (h : optK o K = some r) : ∃ x, o = some x ∧ K x = some r := by
  cases o with
  | none => cases h
  | some x => exact ⟨x, rfl, h⟩
theorem callK_some {R : Type} {o : Option (Val × List Blk)} {K : Val → List Blk → Option R} {r : R} (h : callK o K = some r) : ∃ v H, o = some (v, H) ∧ K v H = some r := by
  cases o with
  | none => cases h
  | some x => exact ⟨x.1, x.2, rfl, h⟩
/-! ### values told out, ahead of what comes next -/
def forceN {R : Type} (n : Nat) (K : Nat → R) : R := match n with
  | 0 => K 0
  | 1 => K 1
  | 2 => K 2
  | 3 => K 3
  | 4 => K 4
  | 5 => K 5
  | 6 => K 6
  | 7 => K 7
  | 8 => K 8
  | 9 => K 9
  | 10 => K 10
  | 11 => K 11
  | 12 => K 12
  | 13 => K 13
  | 14 => K 14
  | 15 => K 15
  | 16 => K 16
  | 17 => K 17
  | 18 => K 18
  | 19 => K 19
  | 20 => K 20
  | 21 => K 21
  | 22 => K 22
  | 23 => K 23
  | 24 => K 24
  | 25 => K 25
  | 26 => K 26
  | 27 => K 27
  | 28 => K 28
  | 29 => K 29
  | 30 => K 30
  | 31 => K 31
  | 32 => K 32
  | 33 => K 33
  | 34 => K 34
  | 35 => K 35
  | 36 => K 36
  | 37 => K 37
  | 38 => K 38
  | 39 => K 39
  | 40 => K 40
  | 41 => K 41
  | 42 => K 42
  | 43 => K 43
  | 44 => K 44
  | 45 => K 45
  | 46 => K 46
  | 47 => K 47
  | n => K n
theorem forceN_eq {R : Type} (n : Nat) (K : Nat → R) : forceN n K = K n := by unfold forceN; split <;> rfl
def forceC {R : Type} (v : Val) (K : Val → R) : R := match v with
  | .int k n => K (.int k n)
  | .bool b => K (.bool b)
  | .str s => K (.str s)
  | .nilp => K .nilp
  | .ptr (.lo k) off => forceN k fun k => forceN off fun off => K (.ptr (.lo k) off)
  | .ptr (.hp k) off => K (.ptr (.hp k) off)
  | .nils => K .nils
  | .sl (.lo k) off len esz => forceN k fun k => forceN off fun off => K (.sl (.lo k) off len esz)
  | .sl (.hp k) off len esz => K (.sl (.hp k) off len esz)
  | .raw v => K (.raw v)
  | .agg cs => K (.agg cs)
  | .tup vs => K (.tup vs)
  | .undef => K .undef
def forceCs {R : Type} : List Val → (List Val → R) → R
  | [], K => K []
  | x :: xs, K => forceC x fun y => forceCs xs fun ys => K (y :: ys)
def forceD {R : Type} (v : Val) (K : Val → R) : R := match v with
  | .agg cs => forceCs cs fun cs => K (.agg cs)
  | v => forceC v K
def forceDs {R : Type} : List Val → (List Val → R) → R
  | [], K => K []
  | x :: xs, K => forceD x fun y => forceDs xs fun ys => K (y :: ys)
def forceV {R : Type} (v : Val) (K : Val → R) : R := match v with
  | .tup vs => forceDs vs fun vs => K (.tup vs)
  | v => forceD v K
def forceL {α R : Type} : List α → (List α → R) → R
  | [], K => K []
  | x :: xs, K => forceL xs fun ys => K (x :: ys)
def forceLs {R : Type} : List (List Val) → (List (List Val) → R) → R
  | [], K => K []
  | x :: xs, K => forceCs x fun y => forceLs xs fun ys => K (y :: ys)
theorem forceC_eq {R : Type} (v : Val) (K : Val → R) : forceC v K = K v := by unfold forceC; split <;> first | rfl | (simp only [forceN_eq])
theorem forceCs_eq {R : Type} : ∀ (l : List Val) (K : List Val → R), forceCs l K = K l
  | [], K => rfl
  | x :: xs, K => by simp only [forceCs, forceC_eq, forceCs_eq xs]
theorem forceD_eq {R : Type} (v : Val) (K : Val → R) : forceD v K = K v := by
  unfold forceD
  split
  · rw [forceCs_eq]
  · rw [forceC_eq]
theorem forceDs_eq {R : Type} : ∀ (l : List Val) (K : List Val → R), forceDs l K = K l
  | [], K => rfl
  | x :: xs, K => by simp only [forceDs, forceD_eq, forceDs_eq xs]
theorem forceV_eq {R : Type} (v : Val) (K : Val → R) : forceV v K = K v := by
  unfold forceV
  split
  · rw [forceDs_eq]
  · rw [forceD_eq]
theorem forceL_eq {α R : Type} : ∀ (l : List α) (K : List α → R), forceL l K = K l
  | [], K => rfl
  | x :: xs, K => by simp only [forceL, forceL_eq xs]
theorem forceLs_eq {R : Type} : ∀ (l : List (List Val)) (K : List (List Val) → R), forceLs l K = K l
  | [], K => rfl
  | x :: xs, K => by simp only [forceLs, forceCs_eq, forceLs_eq xs]
def forceM {R : Type} (d : D) (M : Mem) (K : Mem → R) : R := match M with
  | ⟨loc, hp⟩ => match d with
    | .none | .rd _ => K ⟨loc, hp⟩
    | .call _ _ H => K ⟨loc, H⟩
    | .new _ (.hp _) cs => forceCs cs fun cs => K ⟨loc, hp ++ [⟨cs, true⟩]⟩
    | .wr (.hp b) cs => forceCs cs fun cs => K ⟨loc, hp.set b ⟨cs, true⟩⟩
    | .ap _ (.hp b) _ cs => K ⟨loc, hp.set b ⟨[], false⟩ ++ [⟨cs, true⟩]⟩
    | .ap _ (.lo _) _ _ => K ⟨loc, hp⟩
    | .new _ (.lo _) cs => forceLs (loc ++ [cs]) fun l => K ⟨l, hp⟩
    | .wr (.lo k) cs => forceLs (loc.set k cs) fun l => K ⟨l, hp⟩
theorem forceM_eq {R : Type} (d : D) (M : Mem) (K : Mem → R) : forceM d M K = K (M.app d) := by
  obtain ⟨loc, hp⟩ := M
  unfold forceM
  split
  · rename_i h; cases h
    split
    · rfl
    · rfl
    · rfl
    · rw [forceCs_eq]; rfl
    · rw [forceCs_eq]; rfl
    · rfl
    · rfl
    · rw [forceLs_eq]; rfl
    · rw [forceLs_eq]; rfl
/-- A step, and what is behind it. -/
def stepK {R : Type} (P : Program) (lo : Nat) (quiet : Bool) (call : CallF) (locs : List Nat) (T : List Val) (M : Mem) (o : Oper) (K : Val → D → Option R) : Option R :=
  let g := optK (stepV P lo quiet call locs T M o) fun x => K x.1 x.2
  match o.op with
  | .load t a => match ev T a with
    | .ptr b off => optK (M.get b) fun cs => optK (partV P t cs off) fun v => K v (.rd b)
    | _ => none
  | .binOp op t x y _ => match op, ev T x, ev T y with
    | .quo, .int k a, .int k' b => if k = k' then iteK (decide (b ≠ 0)) (K (.int k (k.wrap (a.tdiv b))) .none) none else none
    | .rem, .int k a, .int k' b => if k = k' then iteK (decide (b ≠ 0)) (K (.int k (a.tmod b)) .none) none else none
    | .shl, .int k a, .int _ b => iteK (decide (b < 0)) none (K (.int k (k.wrap (a * 2 ^ (min b.toNat k.bits)))) .none)
    | .shr, .int k a, .int _ b => iteK (decide (b < 0)) none (K (.int k (a.fdiv (2 ^ (min b.toNat k.bits)))) .none)
    | .add, .str a, .str b => iteK (decide (a.size + b.size ≤ 4611686018427387904)) (K (.str (a ++ b)) .none) none
    | _, _, _ => g
  | .indexAddr t x ix => match ev T x, ev T ix, P.underlying t with
    | .sl b off len esz, .int _ i, some (.slice e) => if sizeB P e = some esz then iteK (decide (0 ≤ i ∧ i < len)) (K (.ptr b (off + i.toNat * esz)) .none) none else none
    | .ptr b off, .int _ i, some (.array n e) => optK (sizeB P e) fun esz => iteK (decide (0 ≤ i ∧ i < n)) (K (.ptr b (off + i.toNat * esz)) .none) none
    | _, _, _ => none
  | .index t x ix => match ev T x, ev T ix, P.underlying t with
    | .str s, .int _ i, some .string => iteK (decide (0 ≤ i ∧ i < s.size)) (K (.int .u8 ((s.data.toList.getD i.toNat 0).toNat)) .none) none
    | _, _, _ => g
  | .slice t x l h none => match P.underlying t, ev T x with
    | some .string, .str s => optK (optInt T s.size h) fun h => optK (optInt T 0 l) fun l => iteK (decide (0 ≤ l ∧ l ≤ h ∧ h ≤ s.size)) (K (.str (s.extract l.toNat h.toNat)) .none) none
    | some (.slice e), .sl b off len esz => if sizeB P e = some esz then optK (optInt T len h) fun h => optK (optInt T 0 l) fun l => iteK (decide (0 ≤ l ∧ l ≤ h ∧ h ≤ len)) (K (.sl b (off + l.toNat * esz) (h - l).toNat esz) .none) none else none
    | _, _ => g
  | .call c => match c.callee, M with
    | .value (.func f), ⟨loc, hp⟩ => if okFn P f = true then iteK ((mapT T c.args).all sharedV) (forceDs (mapT T c.args) fun args => match quiet with
        | true => callK (call hp.length f args hp) fun v H => K v (.call hp.length hp.length H)
        | false => callK (call lo f args hp) fun v H => K v (.call lo hp.length H)) none else none
    | _, _ => g
  | _ => g
theorem stepK_some {R : Type} {P : Program} {lo : Nat} {quiet : Bool} {call : CallF} {locs : List Nat} {T : List Val} {M : Mem} {o : Oper} {K : Val → D → Option R} {r : R} (h : stepK P lo quiet call locs T M o K = some r) :
    ∃ v d, stepV P lo quiet call locs T M o = some (v, d) ∧ K v d = some r := by
  have hg : ∀ {r}, optK (stepV P lo quiet call locs T M o) (fun x => K x.1 x.2) = some r → ∃ v d, stepV P lo quiet call locs T M o = some (v, d) ∧ K v d = some r := fun h => by
    obtain ⟨x, hx, hk⟩ := optK_some h
    exact ⟨x.1, x.2, hx, hk⟩
  unfold stepK at h
  cases hop : o.op with
  | load t a =>
    simp only [hop] at h
    split at h
    · rename_i b off he
      obtain ⟨cs, hm, h⟩ := optK_some h
      obtain ⟨v, hv, h⟩ := optK_some h
      exact ⟨v, .rd b, by simp [stepV, hop, he, readV, hm, hv], h⟩
    · cases h
  | binOp op t x y u =>
    simp only [hop] at h
    split at h
    · rename_i k a k' b hx hy
      split at h
      · rename_i hk
        rcases iteK_some h with ⟨hb, h⟩ | ⟨hb, h⟩
        · exact ⟨_, _, by simp only [stepV, hop, hx, hy, absBin]; rw [if_pos ⟨hk, by simpa using hb⟩]; rfl, h⟩
        · cases h
      · cases h
    · rename_i k a k' b hx hy
      split at h
      · rename_i hk
        rcases iteK_some h with ⟨hb, h⟩ | ⟨hb, h⟩
        · exact ⟨_, _, by simp only [stepV, hop, hx, hy, absBin]; rw [if_pos ⟨hk, by simpa using hb⟩]; rfl, h⟩
        · cases h
      · cases h
    · rename_i k a k' b hx hy
      rcases iteK_some h with ⟨hb, h⟩ | ⟨hb, h⟩
      · cases h
      · exact ⟨_, _, by simp only [stepV, hop, hx, hy, absBin]; rw [if_neg (by simpa using hb)]; rfl, h⟩
    · rename_i k a k' b hx hy
      rcases iteK_some h with ⟨hb, h⟩ | ⟨hb, h⟩
      · cases h
      · exact ⟨_, _, by simp only [stepV, hop, hx, hy, absBin]; rw [if_neg (by simpa using hb)]; rfl, h⟩
    · rename_i a b hx hy
      rcases iteK_some h with ⟨hb, h⟩ | ⟨hb, h⟩
      · exact ⟨_, _, by simp only [stepV, hop, hx, hy, absBin]; rw [if_pos (by simpa using hb)]; rfl, h⟩
      · cases h
    · exact hg h
  | indexAddr t x ix =>
    simp only [hop] at h
    split at h
    · rename_i b off len esz k i e hx hy hu
      split at h
      · rename_i hs
        rcases iteK_some h with ⟨hb, h⟩ | ⟨hb, h⟩
        · have hb2 := of_decide_eq_true hb
          exact ⟨_, _, by simp only [stepV, hop, hx, hy, hu]; rw [if_pos ⟨hb2.1, hb2.2, hs⟩], h⟩
        · cases h
      · cases h
    · rename_i b off k i n e hx hy hu
      obtain ⟨esz, hs, h⟩ := optK_some h
      rcases iteK_some h with ⟨hb, h⟩ | ⟨hb, h⟩
      · exact ⟨_, _, by simp only [stepV, hop, hx, hy, hu, hs, Option.bind_some]; rw [if_pos (of_decide_eq_true hb)], h⟩
      · cases h
    · cases h
  | index t x ix =>
    simp only [hop] at h
    split at h
    · rename_i s k i hx hy hu
      rcases iteK_some h with ⟨hb, h⟩ | ⟨hb, h⟩
      · exact ⟨_, _, by simp only [stepV, hop, hx, hy, hu]; rw [dif_pos (of_decide_eq_true hb)], h⟩
      · cases h
    · exact hg h
  | slice t x l hh m =>
    cases m with
    | some m => simp only [hop] at h; exact hg h
    | none =>
      simp only [hop] at h
      split at h
      · rename_i s hu hx
        obtain ⟨j, hj, h⟩ := optK_some h
        obtain ⟨i, hi, h⟩ := optK_some h
        rcases iteK_some h with ⟨hb, h⟩ | ⟨hb, h⟩
        · exact ⟨_, _, by simp only [stepV, hop, sliceV, hu, hx, hj, hi, Option.bind_some]; rw [if_pos (of_decide_eq_true hb)]; rfl, h⟩
        · cases h
      · rename_i e b off len esz hu hx
        split at h
        · rename_i hs
          obtain ⟨j, hj, h⟩ := optK_some h
          obtain ⟨i, hi, h⟩ := optK_some h
          rcases iteK_some h with ⟨hb, h⟩ | ⟨hb, h⟩
          · have hb2 := of_decide_eq_true hb
            exact ⟨_, _, by simp only [stepV, hop, sliceV, hu, hx, hj, hi, Option.bind_some]; rw [if_pos ⟨hb2.1, hb2.2.1, hb2.2.2, hs⟩]; rfl, h⟩
          · cases h
        · cases h
      · exact hg h
  | call c =>
    simp only [hop] at h
    split at h
    · rename_i f loc hp hc
      split at h
      · rename_i hf
        rcases iteK_some h with ⟨hb, h⟩ | ⟨hb, h⟩
        · rw [forceDs_eq] at h
          cases quiet
          · obtain ⟨v, H, hr, h⟩ := callK_some h
            exact ⟨_, _, by simp only [stepV, hop, hc]; rw [if_pos ⟨hf, hb⟩]; simp only [Bool.false_eq_true, if_false]; rw [hr]; rfl, h⟩
          · obtain ⟨v, H, hr, h⟩ := callK_some h
            exact ⟨_, _, by simp only [stepV, hop, hc]; rw [if_pos ⟨hf, hb⟩]; simp only [if_true]; rw [hr]; rfl, h⟩
        · cases h
      · cases h
    · exact hg h
  | _ => simp only [hop] at h; exact hg h
/-- The temporary that a guard asks, once its answer is known. -/
def knownG (ops : Array Oper) (o : Oper) (b : Bool) (T : List Val) : List Val := match o.guard with
  | none => T
  | some (j, want) => match (ops[j]?).bind (·.dst) with
    | none => T
    | some d => match getAt d T with
      | some (.bool _) => setT d (.bool (want == b)) T
      | _ => T
theorem setT_self {d : Nat} {v : Val} : ∀ {T : List Val}, getAt d T = some v → setT d v T = T := by
  induction d with
  | zero => intro T h; cases T with | nil => rfl | cons x xs => simp only [getAt, Option.some.injEq] at h; subst h; rfl
  | succ d ih => intro T h; cases T with | nil => rfl | cons x xs => simp only [getAt] at h; simp only [setT, ih h]
theorem knownG_eq {ops : Array Oper} {o : Oper} {b : Bool} {T : List Val} (h : wantV ops T o = some b) : knownG ops o b T = T := by
  unfold wantV at h
  unfold knownG
  cases hg : o.guard with
  | none => rfl
  | some gw =>
    obtain ⟨j, want⟩ := gw
    simp only [hg] at h ⊢
    cases hd : (ops[j]?).bind (·.dst) with
    | none => rfl
    | some d =>
      simp only [hd] at h ⊢
      cases hx : getAt d T with
      | none => simp only [hx] at h ⊢
      | some x =>
        cases x with
        | bool q =>
          simp only [hx, Option.some.injEq] at h ⊢
          refine setT_self ?_
          rw [hx, ← h]
          cases q <;> cases want <;> rfl
        | _ => simp only []
def knownC (c : Operand) (b : Bool) (T : List Val) : List Val := match c with
  | .tmp d => setT d (.bool b) T
  | _ => T
theorem knownC_eq {c : Operand} {b : Bool} {T : List Val} (h : ev T c = .bool b) : knownC c b T = T := by
  cases c with
  | tmp d =>
    simp only [knownC]
    simp only [ev] at h
    refine setT_self ?_
    cases hx : getAt d T with
    | none => rw [hx] at h; cases h
    | some x => rw [hx] at h; simp only [Option.getD_some] at h; rw [h]
  | _ => rfl
noncomputable def opsK {R : Type} (P : Program) (lo : Nat) (quiet : Bool) (call : CallF) (locs : List Nat) (ops : Array Oper) (os : List Oper) : Nat → List (Nat × D) → St → (List (Nat × D) → St → Option R) → Option R :=
  List.rec (motive := fun _ => Nat → List (Nat × D) → St → (List (Nat × D) → St → Option R) → Option R) (fun _ l s K => K l s)
    (fun o _ ih i l s K => match s with
      | ⟨T, M⟩ => optK (wantV ops T o) fun b => iteK b
          (forceL (knownG ops o true T) fun T0 => stepK P lo quiet call locs T0 M o fun v d => forceV v fun v => forceL (putT o v T0) fun T => forceM d M fun M => ih (i + 1) (match d with | .none => l | d => (i, d) :: l) ⟨T, M⟩ K)
          (forceL (putT o (.tup []) (knownG ops o false T)) fun T => ih (i + 1) l ⟨T, M⟩ K)) os
theorem opsK_nil {R : Type} (P : Program) (lo : Nat) (quiet : Bool) (call : CallF) (locs : List Nat) (ops : Array Oper) (i : Nat) (l : List (Nat × D)) (s : St) (K : List (Nat × D) → St → Option R) : opsK P lo quiet call locs ops [] i l s K = K l s := rfl
theorem opsK_cons {R : Type} (P : Program) (lo : Nat) (quiet : Bool) (call : CallF) (locs : List Nat) (ops : Array Oper) (o : Oper) (os : List Oper) (i : Nat) (l : List (Nat × D)) (T : List Val) (M : Mem) (K : List (Nat × D) → St → Option R) :
    opsK P lo quiet call locs ops (o :: os) i l ⟨T, M⟩ K = optK (wantV ops T o) fun b => iteK b
      (forceL (knownG ops o true T) fun T0 => stepK P lo quiet call locs T0 M o fun v d => forceV v fun v => forceL (putT o v T0) fun T => forceM d M fun M => opsK P lo quiet call locs ops os (i + 1) (match d with | .none => l | d => (i, d) :: l) ⟨T, M⟩ K)
      (forceL (putT o (.tup []) (knownG ops o false T)) fun T => opsK P lo quiet call locs ops os (i + 1) l ⟨T, M⟩ K) := rfl
theorem opsK_some {R : Type} {P : Program} {lo : Nat} {quiet : Bool} {call : CallF} {locs : List Nat} {ops : Array Oper} {K : List (Nat × D) → St → Option R} {r : R} : ∀ (os : List Oper) (i : Nat) (l : List (Nat × D)) (s : St), opsK P lo quiet call locs ops os i l s K = some r →
    ∃ l' s', runOps P lo quiet call locs ops os i l s = some (l', s') ∧ K l' s' = some r
  | [], i, l, s, h => ⟨l, s, rfl, h⟩
  | o :: os, i, l, ⟨T, M⟩, h => by
    rw [opsK_cons] at h
    obtain ⟨b, hb, h⟩ := optK_some h
    simp only [runOps, hb]
    rcases iteK_some h with ⟨hb2, h2⟩ | ⟨hb2, h2⟩
    · rw [forceL_eq, knownG_eq (by rw [hb, hb2])] at h2
      obtain ⟨v, d, hs, h3⟩ := stepK_some h2
      rw [forceV_eq, forceL_eq, forceM_eq] at h3
      simp only [hb2, if_true, hs]
      exact opsK_some os _ _ _ h3
    · rw [forceL_eq, knownG_eq (by rw [hb, hb2])] at h2
      simp only [hb2, Bool.false_eq_true, if_false]
      exact opsK_some os _ _ _ h2
noncomputable def loopK {R : Type} (body : St → (Out → St → Option R) → Option R) (keep : List Nat) (n : Nat) : St → (Out → St → Option R) → Option R :=
  Nat.rec (motive := fun _ => St → (Out → St → Option R) → Option R) (fun _ _ => none)
    (fun _ ih s K => match s with
      | ⟨T, M⟩ => forceL (maskFrom keep 0 T) fun T => body ⟨T, M⟩ fun o s' => match o with
        | .normal => ih s' K
        | o => K o s') n
theorem loopK_succ {R : Type} (body : St → (Out → St → Option R) → Option R) (keep : List Nat) (n : Nat) (s : St) (K : Out → St → Option R) : loopK body keep (n + 1) s K = body ⟨maskFrom keep 0 s.T, s.M⟩ fun o s' => match o with
    | .normal => loopK body keep n s' K
    | o => K o s' := by
  show forceL _ _ = _
  rw [forceL_eq]
  rfl
noncomputable def runK {R : Type} (P : Program) (lo : Nat) (call : CallF) (locs : List Nat) (fuel : Nat) (c : IC) : St → (Out → St → Option R) → Option R :=
  IC.rec (motive := fun _ => St → (Out → St → Option R) → Option R)
    (fun s K => K .normal s)
    (fun q _ ops draw s K => match draw with
      | true => opsK P lo q call locs ops ops.toList 0 [] s fun l s' => iteK (freeB ops l) (K .normal s') none
      | false => opsK P lo q call locs ops ops.toList 0 [] s fun l s' => K .normal s')
    (fun _ _ iha ihb s K => iha s fun o s' => match o with
      | .normal => ihb s' K
      | o => K o s')
    (fun c _ _ iha ihb s K => match s with
      | ⟨T, M⟩ => match ev T c with
        | .bool t => iteK t (forceL (knownC c true T) fun T => iha ⟨T, M⟩ K) (forceL (knownC c false T) fun T => ihb ⟨T, M⟩ K)
        | _ => none)
    (fun id _ iha s K => iha s fun o s' => match o with
      | .exit j => if j = id then K .normal s' else K (.exit j) s'
      | o => K o s')
    (fun keep _ iha s K => loopK iha keep fuel s K)
    (fun id s K => K (.exit id) s)
    (fun s K => K .ret s) c
theorem loopK_some {R : Type} {body : St → (Out → St → Option R) → Option R} {bodyV : St → Option (Out × St)} (hb : ∀ s K (r : R), body s K = some r → ∃ o s', bodyV s = some (o, s') ∧ K o s' = some r) (keep : List Nat) {K : Out → St → Option R} {r : R} :
    ∀ (n : Nat) (s : St), loopK body keep n s K = some r → ∃ o s', runLoop bodyV keep n s = some (o, s') ∧ K o s' = some r
  | 0, s, h => by cases h
  | n + 1, s, h => by
    rw [loopK_succ] at h
    obtain ⟨o, s', hs, h⟩ := hb _ _ _ h
    simp only [runLoop, hs]
    cases o with
    | normal => exact loopK_some hb keep n s' h
    | exit id => exact ⟨_, _, rfl, h⟩
    | ret => exact ⟨_, _, rfl, h⟩
theorem runK_some {R : Type} {P : Program} {lo : Nat} {call : CallF} {locs : List Nat} {fuel : Nat} : ∀ (c : IC) (s : St) (K : Out → St → Option R) (r : R), runK P lo call locs fuel c s K = some r → ∃ o s', run P lo call locs fuel c s = some (o, s') ∧ K o s' = some r := by
  intro c
  induction c with
  | skip => intro s K r h; exact ⟨_, _, rfl, h⟩
  | exit id => intro s K r h; exact ⟨_, _, rfl, h⟩
  | ret => intro s K r h; exact ⟨_, _, rfl, h⟩
  | region q id ops draw =>
    intro s K r h
    cases draw
    · have h : opsK P lo q call locs ops ops.toList 0 [] s (fun l s' => K .normal s') = some r := h
      obtain ⟨l, s', hr, h⟩ := opsK_some _ _ _ _ h
      exact ⟨.normal, s', by simp [run, runRegion, hr], h⟩
    · have h : (opsK P lo q call locs ops ops.toList 0 [] s fun l s' => iteK (freeB ops l) (K .normal s') none) = some r := h
      obtain ⟨l, s', hr, h⟩ := opsK_some _ _ _ _ h
      rcases iteK_some h with ⟨hf, h⟩ | ⟨hf, h⟩
      · exact ⟨.normal, s', by simp [run, runRegion, hr, hf], h⟩
      · cases h
  | seq a b iha ihb =>
    intro s K r h
    obtain ⟨o, s', hs, h⟩ := iha _ _ _ h
    simp only [run, hs]
    cases o with
    | normal => exact ihb _ _ _ h
    | exit id => exact ⟨_, _, rfl, h⟩
    | ret => exact ⟨_, _, rfl, h⟩
  | cond c a b iha ihb =>
    intro s K r h
    obtain ⟨T, M⟩ := s
    have h : (match ev T c with
        | .bool t => iteK t (forceL (knownC c true T) fun T => runK P lo call locs fuel a ⟨T, M⟩ K) (forceL (knownC c false T) fun T => runK P lo call locs fuel b ⟨T, M⟩ K)
        | _ => none) = some r := h
    split at h
    · rename_i t hc
      simp only [run, hc]
      rcases iteK_some h with ⟨hb2, h2⟩ | ⟨hb2, h2⟩
      · rw [forceL_eq, knownC_eq (by rw [hc, hb2])] at h2
        simp only [hb2, if_true]; exact iha _ _ _ h2
      · rw [forceL_eq, knownC_eq (by rw [hc, hb2])] at h2
        simp only [hb2, Bool.false_eq_true, if_false]; exact ihb _ _ _ h2
    · cases h
  | block id a iha =>
    intro s K r h
    obtain ⟨o, s', hs, h⟩ := iha _ _ _ h
    simp only [run, hs]
    cases o with
    | normal => exact ⟨_, _, rfl, h⟩
    | exit j =>
      simp only [] at h ⊢
      split at h
      · rename_i hj; rw [if_pos hj]; exact ⟨_, _, rfl, h⟩
      · rename_i hj; rw [if_neg hj]; exact ⟨_, _, rfl, h⟩
    | ret => exact ⟨_, _, rfl, h⟩
  | loop keep a iha =>
    intro s K r h
    exact loopK_some iha keep fuel s h
/-- Code told out. -/
noncomputable def forceIC {R : Type} (c : IC) : (IC → R) → R :=
  IC.rec (motive := fun _ => (IC → R) → R)
    (fun K => K .skip)
    (fun q id ops draw K => match q with | true => K (.region true id ops draw) | false => K (.region false id ops draw))
    (fun _ _ iha ihb K => iha fun a => ihb fun b => K (.seq a b))
    (fun c _ _ iha ihb K => iha fun a => ihb fun b => K (.cond c a b))
    (fun id _ iha K => iha fun a => K (.block id a))
    (fun keep _ iha K => forceL keep fun keep => iha fun a => K (.loop keep a))
    (fun id K => K (.exit id))
    (fun K => K .ret) c
theorem forceIC_eq {R : Type} (c : IC) : ∀ K : IC → R, forceIC c K = K c := by
  induction c with
  | skip => intro K; rfl
  | region q id ops draw => intro K; cases q <;> rfl
  | seq a b iha ihb => intro K; exact (iha _).trans (ihb _)
  | cond c a b iha ihb => intro K; exact (iha _).trans (ihb _)
  | block id a iha => intro K; exact iha _
  | loop keep a iha => intro K; exact (forceL_eq _ _).trans (iha _)
  | exit id => intro K; rfl
  | ret => intro K; rfl
/-- The end of a call. -/
def endK (P : Program) (fn : Func) : Out → St → Option (Val × List Blk) := fun o s => match s with
  | ⟨T, ⟨loc, hp⟩⟩ => match o with
    | .exit _ => none
    | _ => optK (resultsV P fn ⟨T, ⟨loc, hp⟩⟩) fun v => forceV v fun v => iteK (sharedV v) (some (v, hp)) none
noncomputable def callVK (P : Program) (ann : FuncId → Option Ann) (k : Nat) (call : CallF) (lo : Nat) (f : FuncId) (args : List Val) (H : List Blk) : Option (Val × List Blk) :=
  match ann f, P.funcs[f]? with
  | some an, some fn => forceL (enterT fn args) fun T => forceL an.locs fun locs => forceIC an.code fun c => runK P lo call locs k c ⟨T, ⟨[], H⟩⟩ (endK P fn)
  | _, _ => none
theorem callVK_some {P : Program} {ann : FuncId → Option Ann} {k : Nat} {call : CallF} {lo : Nat} {f : FuncId} {args : List Val} {H : List Blk} {r : Val × List Blk} (h : callVK P ann k call lo f args H = some r) : callV P ann k call lo f args H = some r := by
  unfold callVK at h
  unfold callV
  split at h
  · rename_i an fn h1 h2
    simp only [h1, h2]
    rw [forceL_eq, forceL_eq, forceIC_eq] at h
    obtain ⟨o, s, hs, h⟩ := runK_some _ _ _ _ h
    rw [hs]
    cases o with
    | exit id => cases h
    | normal =>
      simp only [endK] at h
      obtain ⟨v, hv, h⟩ := optK_some h
      rw [forceV_eq] at h
      rcases iteK_some h with ⟨hf, h⟩ | ⟨hf, h⟩
      · simp only [Option.some.injEq] at h; subst h
        simp [hv, hf]
      · cases h
    | ret =>
      simp only [endK] at h
      obtain ⟨v, hv, h⟩ := optK_some h
      rw [forceV_eq] at h
      rcases iteK_some h with ⟨hf, h⟩ | ⟨hf, h⟩
      · simp only [Option.some.injEq] at h; subst h
        simp [hv, hf]
      · cases h
  · cases h
/-- What a call comes to. -/
noncomputable def F (P : Program) (ann : FuncId → Option Ann) (k : Nat) : CallF :=
  Nat.rec (motive := fun _ => CallF) (fun _ _ _ _ => none) (fun k ih => callVK P ann k ih) k
theorem F_ok {P : Program} {base : Nat} (hm : P.follows .mixedOrders = true) {ann : FuncId → Option Ann} (hann : AnnOk P ann) : ∀ k, CallOk P base (F P ann k) ∧ CallMono (F P ann k)
  | 0 => ⟨(fun lo f args H r H' h => by cases h), (fun lo f args H r H' h => by cases h)⟩
  | k + 1 => by
    have := callV_ok (base := base) hm hann k (F_ok hm hann k).1 (F_ok (base := base) hm hann k).2
    exact ⟨fun lo f args H r H' h => this.1 lo f args H r H' (callVK_some h), fun lo f args H r H' h => this.2 lo f args H r H' (callVK_some h)⟩
/-- A law: what the plain machine tells of it is so, and nothing that there was is changed. -/
theorem law_of {P : Program} (hm : P.follows .mixedOrders = true) {ann : FuncId → Option Ann} (hann : AnnOk P ann) {k : Nat} {f : FuncId} {xs : List Val} {H0 H' : List Blk} {W : World} {avs : List Value} {ρ : Ren}
    (hF : F P ann k H0.length f xs H0 = some (.bool true, H')) (hd : ∀ b c, ρ b = some c → ∃ k, b = .hp k ∧ k < H0.length)
    (hat : ∀ k c cs, ρ (.hp k) = some c → liveAt H0 k = some cs → cs.all shared = true ∧ ∃ arr ty fr, W.heap[c.blk]? = some (.cells arr ty fr) ∧ cs.length ≤ c.room ∧ c.off + cs.length ≤ arr.size ∧ (∀ i x, getAt i cs = some x → ∃ v, arr[c.off + i]? = some v ∧ cellRel ρ x v))
    (hb : ∀ b c, ρ b = some c → c.blk < W.heap.size) (hr : rels (relV ρ) xs avs) :
    Calls P f avs.toArray W fun e W' => e = .returned (.bool true) ∧ Below W.heap.size W W' := by
  have hnw : ∀ b c, ρ b = some c → ¬ wr H0.length b := fun b c e z => by
    obtain ⟨j, rfl, hj⟩ := hd b c e
    exact absurd hj (Nat.not_lt.2 z)
  have hI : Is H0.length W.heap.size ρ (memH H0) W := by
    refine ⟨fun b c cs e g => ?_, fun b b' c c' e e' g g' ne wb => absurd wb (hnw b c e), hb, Nat.le_refl _, fun j c cs e g => (hat j c cs e g).1, fun b b' c c' e e' ne wb fb => absurd wb (hnw b c e)⟩
    obtain ⟨j, rfl, hj⟩ := hd b c e
    obtain ⟨_, arr, ty, fr, h1, h2, h3, h4⟩ := hat j c cs e g
    exact ⟨arr, ty, fr, h1, h2, h3, h4, fun z => absurd z (hnw _ c e)⟩
  refine ((F_ok hm hann k).1 _ f xs H0 _ H' hF (Nat.le_refl _) ρ W avs hI hd hr rfl).mono ?_
  rintro e W' ⟨v, ρ', rfl, hC⟩
  have hv : v = .bool true := hC.val
  subst hv
  refine ⟨rfl, hC.kept.os, hC.kept.tape, hC.kept.output, hC.kept.size, fun c hc => hC.kept.block c hc ?_⟩
  rintro ⟨b, k', e, ⟨j, rfl, hj⟩, _⟩
  exact hnw _ k' e hj
end Go.Proofs.Ytdalgfoifdjffaa.VM
