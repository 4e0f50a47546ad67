/- A plain machine for the program's functions: the same, told so that a call can be followed in Lean. -/
import Derived.Test.YtponkdimnafppaaDoorVP
namespace Go.Proofs.YtponkdimnafppaaDoor.VM
open Go Go.RowKit
set_option linter.unusedVariables false
set_option linter.unusedSimpArgs false
/-! ### annotated code out of the program's -/
/-- The first region of code. -/
def firstR : Code → Option Nat
  | .region id _ _ => some id
  | .seq a b => match firstR a with
    | some i => some i
    | none => firstR b
  | .block _ a => firstR a
  | .loop a => firstR a
  | .cond _ _ _ => none
  | _ => none
def joinAt (js : List (Nat × List Nat)) : Option Nat → Option (List Nat)
  | none => none
  | some i => match js with
    | [] => none
    | (j, k) :: js => match Nat.beq i j with
      | true => some k
      | false => joinAt js (some i)
def toIC (qs : List Nat) (js : List (Nat × List Nat)) : Code → List (List Nat) → Option (IC × List (List Nat))
  | .skip, ks => some (.skip, ks)
  | .region id ops draw, ks => some (.region (qs.contains id) id ops draw, ks)
  | .seq a b, ks => (toIC qs js a ks).bind fun x => (toIC qs js b x.2).map fun y => ((match joinAt js (firstR b) with
    | some k => .join k x.1 y.1
    | none => .seq x.1 y.1), y.2)
  | .cond c a b, ks => (toIC qs js a ks).bind fun x => (toIC qs js b x.2).map fun y => (.cond c x.1 y.1, y.2)
  | .block id a, ks => (toIC qs js a ks).map fun x => (.block id x.1, x.2)
  | .loop a, k :: ks => (toIC qs js a ks).map fun x => (.loop k x.1, x.2)
  | .exit id, ks => some (.exit id, ks)
  | .ret, ks => some (.ret, ks)
  | _, _ => none
theorem toIC_code (qs : List Nat) (js : List (Nat × List Nat)) : ∀ (c : Code) (ks : List (List Nat)) (x : IC × List (List Nat)), toIC qs js c ks = some x → x.1.code = c := by
  intro c
  induction c with
  | skip => intro ks x h; simp only [toIC, Option.some.injEq] at h; subst h; rfl
  | region id ops draw => intro ks x h; simp only [toIC, Option.some.injEq] at h; subst h; rfl
  | seq a b iha ihb =>
    intro ks x h
    simp only [toIC, Option.bind_eq_some_iff, Option.map_eq_some_iff] at h
    obtain ⟨y, hy, z, hz, rfl⟩ := h
    simp only
    split
    · simp only [IC.code, iha _ _ hy, ihb _ _ hz]
    · simp only [IC.code, iha _ _ hy, ihb _ _ hz]
  | cond c a b iha ihb =>
    intro ks x h
    simp only [toIC, Option.bind_eq_some_iff, Option.map_eq_some_iff] at h
    obtain ⟨y, hy, z, hz, rfl⟩ := h
    simp only [IC.code, iha _ _ hy, ihb _ _ hz]
  | block id a iha =>
    intro ks x h
    simp only [toIC, Option.map_eq_some_iff] at h
    obtain ⟨y, hy, rfl⟩ := h
    simp only [IC.code, iha _ _ hy]
  | loop a iha =>
    intro ks x h
    cases ks with
    | nil => simp [toIC] at h
    | cons k ks =>
      simp only [toIC, Option.map_eq_some_iff] at h
      obtain ⟨y, hy, rfl⟩ := h
      simp only [IC.code, iha _ _ hy]
  | exit id => intro ks x h; simp only [toIC, Option.some.injEq] at h; subst h; rfl
  | ret => intro ks x h; simp only [toIC, Option.some.injEq] at h; subst h; rfl
  | _ => intro ks x h; simp [toIC] at h
/-- What is told beside a function: the temporaries whose block is its own; what is kept at the heads of its loops; the regions whose calls leave what there is. -/
structure Note where
  locs : List Nat
  keeps : List (List Nat)
  quiets : List Nat
  joins : List (Nat × List Nat)
def annOf (P : Program) (tbl : FuncId → Note) (f : FuncId) : Option Ann :=
  (P.funcs[f]?).bind fun fn => fn.body.bind fun c => (toIC (tbl f).quiets (tbl f).joins c (tbl f).keeps).map fun x => ⟨x.1, (tbl f).locs⟩
theorem annOf_ok (P : Program) (tbl : FuncId → Note) (hlx : ((List.range P.funcs.size).all fun f => match annOf P tbl f with | some an => an.code.lex | none => true) = true) : AnnOk P (annOf P tbl) := by
  intro f an h
  have h0 := h
  simp only [annOf, Option.bind_eq_some_iff, Option.map_eq_some_iff] at h
  obtain ⟨fn, hf, c, hc, x, hx, rfl⟩ := h
  refine ⟨fn, hf, by rw [hc, toIC_code _ _ _ _ _ hx], ?_⟩
  rw [List.all_eq_true] at hlx
  have := hlx f (by simpa using (Array.getElem?_eq_some_iff.1 hf).1)
  rw [h0] at this
  exact this
/-! ### followed from place to place -/
def iteK {R : Type} (b : Bool) (x y : Option R) : Option R := match b with
  | true => x
  | false => y
def optK {α R : Type} (o : Option α) (K : α → Option R) : Option R := match o with
  | some x => K x
  | none => none
/-- What a call comes to, taken as what its kind is. -/
def callK {R : Type} (r : Option (Val × List Blk)) (K : Val → List Blk → Option R) : Option R := match r with
  | some (v, H) => K v H
  | none => none
theorem iteK_some {R : Type} {b : Bool} {x y : Option R} {r : R} (h : iteK b x y = some r) : (b = true ∧ x = some r) ∨ (b = false ∧ y = some r) := by
  cases b
  · exact .inr ⟨rfl, h⟩
  · exact .inl ⟨rfl, h⟩
theorem iteK_left {R : Type} {b : Bool} {x : Option R} {r : R} (h : iteK b x none = some r) : b = true ∧ x = some r := by
  cases b
  · cases h
  · exact ⟨rfl, h⟩
theorem optK_some {α R : Type} {o : Option α} {K : α → Option R} {r : R} (h : optK o K = some r) : ∃ x, o = some x ∧ K x = some r := by
  cases o with
  | none => cases h
  | some x => exact ⟨x, rfl, h⟩
theorem callK_some {R : Type} {o : Option (Val × List Blk)} {K : Val → List Blk → Option R} {r : R} (h : callK o K = some r) : ∃ v H, o = some (v, H) ∧ K v H = some r := by
  cases o with
  | none => cases h
  | some x => exact ⟨x.1, x.2, rfl, h⟩
/-! ### values told out, ahead of what comes next -/
def litN (n : Nat) : Option Nat := match n with
  | 0 => some 0
  | 1 => some 1
  | 2 => some 2
  | 3 => some 3
  | 4 => some 4
  | 5 => some 5
  | 6 => some 6
  | 7 => some 7
  | 8 => some 8
  | 9 => some 9
  | 10 => some 10
  | 11 => some 11
  | 12 => some 12
  | 13 => some 13
  | 14 => some 14
  | 15 => some 15
  | 16 => some 16
  | 17 => some 17
  | 18 => some 18
  | 19 => some 19
  | 20 => some 20
  | 21 => some 21
  | 22 => some 22
  | 23 => some 23
  | 24 => some 24
  | 25 => some 25
  | 26 => some 26
  | 27 => some 27
  | 28 => some 28
  | 29 => some 29
  | 30 => some 30
  | 31 => some 31
  | 32 => some 32
  | 33 => some 33
  | 34 => some 34
  | 35 => some 35
  | 36 => some 36
  | 37 => some 37
  | 38 => some 38
  | 39 => some 39
  | 40 => some 40
  | 41 => some 41
  | 42 => some 42
  | 43 => some 43
  | 44 => some 44
  | 45 => some 45
  | 46 => some 46
  | 47 => some 47
  | 48 => some 48
  | 49 => some 49
  | 50 => some 50
  | 51 => some 51
  | 52 => some 52
  | 53 => some 53
  | 54 => some 54
  | 55 => some 55
  | 56 => some 56
  | 57 => some 57
  | 58 => some 58
  | 59 => some 59
  | 60 => some 60
  | 61 => some 61
  | 62 => some 62
  | 63 => some 63
  | 64 => some 64
  | 65 => some 65
  | 66 => some 66
  | 67 => some 67
  | 68 => some 68
  | 69 => some 69
  | 70 => some 70
  | 71 => some 71
  | 72 => some 72
  | n => some n
theorem litN_eq (n : Nat) : litN n = some n := by unfold litN; split <;> rfl
def forceN {R : Type} (n : Nat) (K : Nat → R) : R := match litN n with
  | some x => K x
  | none => K n
theorem forceN_eq {R : Type} (n : Nat) (K : Nat → R) : forceN n K = K n := by unfold forceN; rw [litN_eq]
def forceC {R : Type} (v : Val) (K : Val → R) : R := match v with
  | .int k n => K (.int k n)
  | .bool b => K (.bool b)
  | .str s => K (.str s)
  | .nilp => K .nilp
  | .ptr (.lo k) off => forceN k fun k => forceN off fun off => K (.ptr (.lo k) off)
  | .ptr (.hp k) off => K (.ptr (.hp k) off)
  | .nils => K .nils
  | .sl (.lo k) off len esz => forceN k fun k => forceN off fun off => forceN esz fun esz => K (.sl (.lo k) off len esz)
  | .sl (.hp k) off len esz => forceN esz fun esz => K (.sl (.hp k) off len esz)
  | .raw v => K (.raw v)
  | .agg cs => K (.agg cs)
  | .tup vs => K (.tup vs)
  | .undef => K .undef
def forceCs {R : Type} : List Val → (List Val → R) → R
  | [], K => K []
  | x :: xs, K => forceC x fun y => forceCs xs fun ys => K (y :: ys)
def forceD {R : Type} (v : Val) (K : Val → R) : R := match v with
  | .agg cs => forceCs cs fun cs => K (.agg cs)
  | v => forceC v K
def forceDs {R : Type} : List Val → (List Val → R) → R
  | [], K => K []
  | x :: xs, K => forceD x fun y => forceDs xs fun ys => K (y :: ys)
def forceV {R : Type} (v : Val) (K : Val → R) : R := match v with
  | .tup vs => forceDs vs fun vs => K (.tup vs)
  | v => forceD v K
def forceL {α R : Type} : List α → (List α → R) → R
  | [], K => K []
  | x :: xs, K => forceL xs fun ys => K (x :: ys)
def forceLs {R : Type} : List (List Val) → (List (List Val) → R) → R
  | [], K => K []
  | x :: xs, K => forceCs x fun y => forceLs xs fun ys => K (y :: ys)
theorem forceC_eq {R : Type} (v : Val) (K : Val → R) : forceC v K = K v := by unfold forceC; split <;> first | rfl | (simp only [forceN_eq])
theorem forceCs_eq {R : Type} : ∀ (l : List Val) (K : List Val → R), forceCs l K = K l
  | [], K => rfl
  | x :: xs, K => by simp only [forceCs, forceC_eq, forceCs_eq xs]
theorem forceD_eq {R : Type} (v : Val) (K : Val → R) : forceD v K = K v := by
  unfold forceD
  split
  · rw [forceCs_eq]
  · rw [forceC_eq]
theorem forceDs_eq {R : Type} : ∀ (l : List Val) (K : List Val → R), forceDs l K = K l
  | [], K => rfl
  | x :: xs, K => by simp only [forceDs, forceD_eq, forceDs_eq xs]
theorem forceV_eq {R : Type} (v : Val) (K : Val → R) : forceV v K = K v := by
  unfold forceV
  split
  · rw [forceDs_eq]
  · rw [forceD_eq]
theorem forceL_eq {α R : Type} : ∀ (l : List α) (K : List α → R), forceL l K = K l
  | [], K => rfl
  | x :: xs, K => by simp only [forceL, forceL_eq xs]
theorem forceLs_eq {R : Type} : ∀ (l : List (List Val)) (K : List (List Val) → R), forceLs l K = K l
  | [], K => rfl
  | x :: xs, K => by simp only [forceLs, forceCs_eq, forceLs_eq xs]
def forceM {R : Type} (d : D) (M : Mem) (K : Mem → R) : R := match M with
  | ⟨loc, hp⟩ => match d with
    | .none | .rd _ => K ⟨loc, hp⟩
    | .call _ _ H => K ⟨loc, H⟩
    | .new _ (.hp _) cs => forceCs cs fun cs => K ⟨loc, hp ++ [⟨cs, true⟩]⟩
    | .wr (.hp b) cs => forceCs cs fun cs => K ⟨loc, hp.set b ⟨cs, true⟩⟩
    | .ap _ (.hp b) _ cs => forceCs cs fun cs => K ⟨loc, hp.set b ⟨[], false⟩ ++ [⟨cs, true⟩]⟩
    | .ap _ (.lo _) _ _ => K ⟨loc, hp⟩
    | .new _ (.lo _) cs => forceCs cs fun cs => forceLs (loc ++ [cs]) fun l => K ⟨l, hp⟩
    | .wr (.lo k) cs => forceCs cs fun cs => forceLs (loc.set k cs) fun l => K ⟨l, hp⟩
theorem forceM_eq {R : Type} (d : D) (M : Mem) (K : Mem → R) : forceM d M K = K (M.app d) := by
  obtain ⟨loc, hp⟩ := M
  unfold forceM
  split
  · rename_i h; cases h
    split
    · rfl
    · rfl
    · rfl
    · rw [forceCs_eq]; rfl
    · rw [forceCs_eq]; rfl
    · rw [forceCs_eq]; rfl
    · rfl
    · rw [forceCs_eq, forceLs_eq]; rfl
    · rw [forceCs_eq, forceLs_eq]; rfl
theorem repeatV_all {p : Val → Bool} {z : List Val} (h : z.all p = true) : ∀ n, (repeatV n z).all p = true
  | 0 => rfl
  | n + 1 => by
    have := repeatV_all h n
    unfold repeatV at *
    rw [List.replicate_succ, List.flatten_cons, List.all_append, h, this]
    rfl
/-- Are two values of a type alike? (Where no type within is one that is stood in for.) -/
def eqT2 (P : Program) : Nat → TypeId → Val → Val → Option Bool
  | 0, _, _, _ => none
  | d + 1, t, x, y =>
    match P.underlying t, x, y with
    | some .bool, .bool a, .bool b => some (a == b)
    | some (.int _), .int k a, .int k' b => if k = k' then some (a == b) else none
    | some .string, .str a, .str b => some (eqStr a b)
    | some (.struct fs), .agg xs, .agg ys =>
        (fs.toList).foldr (fun f r => if f.name ≠ "_" then
          (partV P f.type xs f.offset).bind fun a => (partV P f.type ys f.offset).bind fun b => (eqT2 P d f.type a b).bind fun e => r.map fun r => e && r
          else r) (some true)
    | some (.array n e), .agg xs, .agg ys => (sizeB P e).bind fun s =>
        (List.range n).foldr (fun i r => (partV P e xs (i * s)).bind fun a => (partV P e ys (i * s)).bind fun b => (eqT2 P d e a b).bind fun q => r.map fun r => q && r) (some true)
    | _, _, _ => none
def stoodAll (P : Program) : Nat → TypeId → Bool
  | 0, _ => false
  | d + 1, t =>
    match P.underlying t with
    | some (.struct fs) => P.stoodInHeld t || fs.toList.any fun f => f.name != "_" && stoodAll P d f.type
    | some (.array _ e) => stoodAll P d e
    | _ => false
theorem foldr_same {α β : Type} {f g : α → β → β} {b : β} : ∀ {l : List α}, (∀ a ∈ l, f a = g a) → l.foldr f b = l.foldr g b
  | [], _ => rfl
  | a :: l, h => by rw [List.foldr_cons, List.foldr_cons, h a (by simp), foldr_same fun a ha => h a (by simp [ha])]
theorem eqT2_eq (P : Program) : ∀ d t x y, stoodAll P d t = false → eqT2 P d t x y = eqT P d t x y
  | 0, _, _, _, _ => rfl
  | d + 1, t, x, y, h => by
    unfold stoodAll at h
    unfold eqT2 eqT
    cases hu : P.underlying t with
    | none => rfl
    | some td =>
      cases td with
      | struct fs =>
        simp only [hu] at h
        rw [Bool.or_eq_false_iff, List.any_eq_false] at h
        cases x <;> cases y <;> try rfl
        simp only []
        rw [h.1]
        simp only [Bool.false_eq_true, if_false]
        refine foldr_same fun f hf => ?_
        have hf2 := h.2 f hf
        funext r
        split
        · rename_i hn
          have : stoodAll P d f.type = false := by simpa [hn] using hf2
          simp only [eqT2_eq P d f.type _ _ this]
        · rfl
      | array n e =>
        simp only [hu] at h
        cases x <;> cases y <;> try rfl
        simp only []
        congr 1
        funext s
        refine foldr_same fun i hi => ?_
        funext r
        simp only [eqT2_eq P d e _ _ h]
      | _ => cases x <;> cases y <;> rfl
/-- May values of a type not be compared so? -/
def eqBad (P : Program) (t : TypeId) : Bool := guardB P P.depth t || stoodAll P 40 t
/-- Great rows of noughts, not told out; and whether a type's values may not be compared, not reckoned in place. -/
structure Mk where
  f : Nat → List Val → List Val
  ok : ∀ n z, f n z = repeatV n z
  bad : Program → TypeId → Bool
  bad_ok : ∀ P t, bad P t = eqBad P t
  j : Option Unit
  j_ok : j = some ()
def Mk.plain : Mk := ⟨repeatV, fun _ _ => rfl, eqBad, fun _ _ => rfl, some (), rfl⟩
/-- A step, and what is behind it. -/
def stepK {R : Type} (mk : Mk) (P : Program) (lo : Nat) (quiet : Bool) (call : CallF) (locs : List Nat) (T : List Val) (M : Mem) (o : Oper) (K : Val → D → Option R) : Option R :=
  let g := optK (stepV P lo quiet call locs T M o) fun x => K x.1 x.2
  match o.op with
  | .load t a => match ev T a with
    | .ptr b off => optK (M.get b) fun cs => optK (partV P t cs off) fun v => K v (.rd b)
    | _ => none
  | .binOp op t x y _ => match op, ev T x, ev T y with
    | .quo, .int k a, .int k' b => if k = k' then iteK (decide (b ≠ 0)) (K (.int k (k.wrap (a.tdiv b))) .none) none else none
    | .rem, .int k a, .int k' b => if k = k' then iteK (decide (b ≠ 0)) (K (.int k (a.tmod b)) .none) none else none
    | .shl, .int k a, .int _ b => iteK (decide (b < 0)) none (K (.int k (k.wrap (a * 2 ^ (min b.toNat k.bits)))) .none)
    | .shr, .int k a, .int _ b => iteK (decide (b < 0)) none (K (.int k (a.fdiv (2 ^ (min b.toNat k.bits)))) .none)
    | .add, .str a, .str b => iteK (decide (a.size + b.size ≤ 4611686018427387904)) (K (.str (a ++ b)) .none) none
    | .eql, .agg a, .agg b => iteK (mk.bad P t) none (optK (eqT2 P 40 t (.agg a) (.agg b)) fun r => K (.bool r) .none)
    | .neq, .agg a, .agg b => iteK (mk.bad P t) none (optK (eqT2 P 40 t (.agg a) (.agg b)) fun r => K (.bool !r) .none)
    | _, _, _ => g
  | .indexAddr t x ix => match ev T x, ev T ix, P.underlying t with
    | .sl b off len esz, .int _ i, some (.slice e) => if sizeB P e = some esz then iteK (decide (0 ≤ i ∧ i < len)) (K (.ptr b (off + i.toNat * esz)) .none) none else none
    | .ptr b off, .int _ i, some (.array n e) => optK (sizeB P e) fun esz => forceN esz fun esz => iteK (decide (0 ≤ i ∧ i < n)) (K (.ptr b (off + i.toNat * esz)) .none) none
    | _, _, _ => none
  | .index t x ix => match ev T x, ev T ix, P.underlying t with
    | .str s, .int _ i, some .string => iteK (decide (0 ≤ i ∧ i < s.size)) (K (.int .u8 ((s.data.toList.getD i.toNat 0).toNat)) .none) none
    | .agg cs, .int _ i, some (.array n e) => optK (sizeB P e) fun esz => forceN esz fun esz => iteK (decide (0 ≤ i ∧ i < n)) (optK (partV P e cs (i.toNat * esz)) fun v => K v .none) none
    | _, _, _ => g
  | .store t a x => match ev T a with
    | .ptr b off => iteK (mayWrite lo b) (iteK (decide (sizeB P t = some (cellsOf (ev T x)).length ∧ 0 < (cellsOf (ev T x)).length) && (cellsOf (ev T x)).all (likeOf b)) (optK (M.get b) fun cs => optK (putAt off (cellsOf (ev T x)) cs) fun cs' => K (.tup []) (.wr b cs')) none) none
    | _ => none
  | .convert s d x => match ev T x, P.underlying s, P.underlying d, M with
    | .str v, some .string, some (.slice e), ⟨loc, hp⟩ => (match P.underlying e, sizeB P e with
      | some (.int .u8), some 1 => K (.sl (.hp hp.length) 0 v.size 1) (.new none (.hp hp.length) (bytesV v))
      | _, _ => none)
    | .sl b off len esz, some (.slice e), some .string, ⟨loc, hp⟩ => (match P.underlying e with
      | some (.int .u8) => if esz = 1 then optK (Mem.get ⟨loc, hp⟩ b) fun cs => optK ((part? off len cs).bind bytesOf) fun l => K (.str ⟨l.toArray⟩) (.rd b) else none
      | _ => none)
    | _, _, _, _ => g
  | .slice t x l h none => match P.underlying t, ev T x with
    | some .string, .str s => optK (optInt T s.size h) fun h => optK (optInt T 0 l) fun l => iteK (decide (0 ≤ l ∧ l ≤ h ∧ h ≤ s.size)) (K (.str (s.extract l.toNat h.toNat)) .none) none
    | some (.slice e), .sl b off len esz => if sizeB P e = some esz then optK (optInt T len h) fun h => optK (optInt T 0 l) fun l => iteK (decide (0 ≤ l ∧ l ≤ h ∧ h ≤ len)) (K (.sl b (off + l.toNat * esz) (h - l).toNat esz) .none) none else none
    | _, _ => g
  | .makeSlice t l c => match ev T l, ev T c, elemB P t, M with
    | .int _ l, .int _ c, some e, ⟨loc, hp⟩ => match P.info? e, zeroB P e with
      | some i, some z => forceN i.size fun sz => forceN i.bytes fun bs => iteK (decide (l ≤ 64)) g (iteK (decide (0 ≤ l ∧ l ≤ c ∧ bs * c ≤ 281474976710656 ∧ c ≤ 4611686018427387904 ∧ 0 < sz) && decide (z.length = sz ∧ z.all shared = true)) (K (.sl (.hp hp.length) 0 l.toNat sz) (.new none (.hp hp.length) (mk.f l.toNat z))) none)
      | _, _ => none
    | _, _, _, _ => none
  | .call c => match c.callee, M with
    | .value (.func f), ⟨loc, hp⟩ => if okFn P f = true then iteK ((mapT T c.args).all sharedV) (forceDs (mapT T c.args) fun args => match quiet with
        | true => callK (call hp.length f args hp) fun v H => K v (.call hp.length hp.length H)
        | false => callK (call lo f args hp) fun v H => K v (.call lo hp.length H)) none else none
    | .builtin .append, ⟨loc, hp⟩ => (match mapT T c.args, c.argTypes.toList with
      | [s, x], t :: u :: _ => (match elemB P t with
        | some e => (match P.info? e, zeroB P e with
          | some i, some z => forceN i.size fun sz => forceN i.bytes fun bs => optK (sliceCells ⟨loc, hp⟩ sz x) fun new => optK (lenV x) fun n =>
              iteK (decide (strOrSl P u = true ∧ 0 < sz ∧ z.length = sz)) (iteK (decide (n * sz = new.length)) (iteK (new.all shared)
                (match s with
                | .nils => iteK (decide (n * bs ≤ 140737488351232 ∧ n ≤ 140737488351232)) (iteK (decide (n = 0)) (K .nils .none) (K (.sl (.hp hp.length) 0 n sz) (.new (readsOf x) (.hp hp.length) new))) none
                | .sl (.hp k) off len esz => if esz = sz then iteK (mayWrite lo (.hp k)) (iteK (decide ((len + n) * bs ≤ 140737488351232 ∧ len + n ≤ 140737488351232)) (optK (Mem.get ⟨loc, hp⟩ (.hp k)) fun cs => iteK (decide (off + len * esz = cs.length)) (K (.sl (.hp hp.length) 0 (len + n) sz) (.ap (readsOf x) (.hp k) (.hp hp.length) (dropN off cs ++ new))) none) none) none else none
                | _ => none) none) none) none
          | _, _ => none)
        | none => none)
      | _, _ => none)
    | _, _ => g
  | _ => g
theorem bytesV_shared (v : ByteArray) : (bytesV v).all shared = true := by
  unfold bytesV
  rw [List.all_map, List.all_eq_true]
  intro b hb
  rfl
theorem stepK_some {R : Type} {mk : Mk} {P : Program} {lo : Nat} {quiet : Bool} {call : CallF} {locs : List Nat} {T : List Val} {M : Mem} {o : Oper} {K : Val → D → Option R} {r : R} (h : stepK mk P lo quiet call locs T M o K = some r) :
    ∃ v d, stepV P lo quiet call locs T M o = some (v, d) ∧ K v d = some r := by
  have hg : ∀ {r}, optK (stepV P lo quiet call locs T M o) (fun x => K x.1 x.2) = some r → ∃ v d, stepV P lo quiet call locs T M o = some (v, d) ∧ K v d = some r := fun h => by
    obtain ⟨x, hx, hk⟩ := optK_some h
    exact ⟨x.1, x.2, hx, hk⟩
  unfold stepK at h
  cases hop : o.op with
  | load t a =>
    simp only [hop] at h
    split at h
    · rename_i b off he
      obtain ⟨cs, hm, h⟩ := optK_some h
      obtain ⟨v, hv, h⟩ := optK_some h
      exact ⟨v, .rd b, by simp [stepV, hop, he, readV, hm, hv], h⟩
    · cases h
  | binOp op t x y u =>
    simp only [hop] at h
    split at h
    · rename_i k a k' b hx hy
      split at h
      · rename_i hk
        rcases iteK_some h with ⟨hb, h⟩ | ⟨hb, h⟩
        · exact ⟨_, _, by simp only [stepV, hop, hx, hy, absBin]; rw [if_pos ⟨hk, by simpa using hb⟩]; rfl, h⟩
        · cases h
      · cases h
    · rename_i k a k' b hx hy
      split at h
      · rename_i hk
        rcases iteK_some h with ⟨hb, h⟩ | ⟨hb, h⟩
        · exact ⟨_, _, by simp only [stepV, hop, hx, hy, absBin]; rw [if_pos ⟨hk, by simpa using hb⟩]; rfl, h⟩
        · cases h
      · cases h
    · rename_i k a k' b hx hy
      rcases iteK_some h with ⟨hb, h⟩ | ⟨hb, h⟩
      · cases h
      · exact ⟨_, _, by simp only [stepV, hop, hx, hy, absBin]; rw [if_neg (by simpa using hb)]; rfl, h⟩
    · rename_i k a k' b hx hy
      rcases iteK_some h with ⟨hb, h⟩ | ⟨hb, h⟩
      · cases h
      · exact ⟨_, _, by simp only [stepV, hop, hx, hy, absBin]; rw [if_neg (by simpa using hb)]; rfl, h⟩
    · rename_i a b hx hy
      rcases iteK_some h with ⟨hb, h⟩ | ⟨hb, h⟩
      · exact ⟨_, _, by simp only [stepV, hop, hx, hy, absBin]; rw [if_pos (by simpa using hb)]; rfl, h⟩
      · cases h
    · rename_i a b hx hy
      rcases iteK_some h with ⟨hb, h⟩ | ⟨hb, h⟩
      · cases h
      · obtain ⟨r, hr, h⟩ := optK_some h
        rw [mk.bad_ok] at hb
        unfold eqBad at hb
        rw [Bool.or_eq_false_iff] at hb
        rw [eqT2_eq _ _ _ _ _ hb.2] at hr
        exact ⟨_, _, by simp only [stepV, hop, hx, hy, absBin]; rw [if_neg (by simp [hb.1]), hr]; rfl, h⟩
    · rename_i a b hx hy
      rcases iteK_some h with ⟨hb, h⟩ | ⟨hb, h⟩
      · cases h
      · obtain ⟨r, hr, h⟩ := optK_some h
        rw [mk.bad_ok] at hb
        unfold eqBad at hb
        rw [Bool.or_eq_false_iff] at hb
        rw [eqT2_eq _ _ _ _ _ hb.2] at hr
        exact ⟨_, _, by simp only [stepV, hop, hx, hy, absBin]; rw [if_neg (by simp [hb.1]), hr]; rfl, h⟩
    · exact hg h
  | indexAddr t x ix =>
    simp only [hop] at h
    split at h
    · rename_i b off len esz k i e hx hy hu
      split at h
      · rename_i hs
        rcases iteK_some h with ⟨hb, h⟩ | ⟨hb, h⟩
        · have hb2 := of_decide_eq_true hb
          exact ⟨_, _, by simp only [stepV, hop, hx, hy, hu]; rw [if_pos ⟨hb2.1, hb2.2, hs⟩], h⟩
        · cases h
      · cases h
    · rename_i b off k i n e hx hy hu
      obtain ⟨esz, hs, h⟩ := optK_some h
      rw [forceN_eq] at h
      rcases iteK_some h with ⟨hb, h⟩ | ⟨hb, h⟩
      · exact ⟨_, _, by simp only [stepV, hop, hx, hy, hu, hs, Option.bind_some]; rw [if_pos (of_decide_eq_true hb)], h⟩
      · cases h
    · cases h
  | index t x ix =>
    simp only [hop] at h
    split at h
    · rename_i s k i hx hy hu
      rcases iteK_some h with ⟨hb, h⟩ | ⟨hb, h⟩
      · exact ⟨_, _, by simp only [stepV, hop, hx, hy, hu]; rw [dif_pos (of_decide_eq_true hb)], h⟩
      · cases h
    · rename_i cs k i n e hx hy hu
      obtain ⟨esz, hs, h⟩ := optK_some h
      rw [forceN_eq] at h
      rcases iteK_some h with ⟨hb, h⟩ | ⟨hb, h⟩
      · obtain ⟨v, hv, h⟩ := optK_some h
        exact ⟨_, _, by simp only [stepV, hop, hx, hy, hu, hs, Option.bind_some]; rw [if_pos (of_decide_eq_true hb), hv]; rfl, h⟩
      · cases h
    · exact hg h
  | store t a x =>
    simp only [hop] at h
    split at h
    · rename_i b off ha
      rcases iteK_some h with ⟨hb, h⟩ | ⟨hb, h⟩
      · rcases iteK_some h with ⟨hc, h⟩ | ⟨hc, h⟩
        · obtain ⟨cs, hm, h⟩ := optK_some h
          obtain ⟨cs', hp, h⟩ := optK_some h
          rw [Bool.and_eq_true] at hc
          have hc1 := of_decide_eq_true hc.1
          refine ⟨_, _, ?_, h⟩
          simp only [stepV, hop, ha, writeV]
          rw [if_pos ⟨hb, hc1.1, hc1.2, hc.2⟩, hm]
          simp only [Option.bind_some, hp, Option.map_some]
        · cases h
      · cases h
    · cases h
  | convert s d x =>
    simp only [hop] at h
    split at h
    · rename_i v e loc hp hx hs hd
      split at h
      · rename_i hu hz
        refine ⟨_, _, ?_, h⟩
        simp only [stepV, hop, convV, hx, hs, hd, hu, hz, newV]
        rw [if_pos (by exact bytesV_shared v)]
        rfl
      · cases h
    · rename_i b off len esz e loc hp hx hs hd
      split at h
      · rename_i hu
        split at h
        · rename_i he
          obtain ⟨cs, hm, h⟩ := optK_some h
          obtain ⟨l, hl, h⟩ := optK_some h
          rw [Option.bind_eq_some_iff] at hl
          obtain ⟨q, hq, hl⟩ := hl
          refine ⟨_, _, ?_, h⟩
          simp only [stepV, hop, convV, hx, hs, hd, hu, he, if_true, hm, Option.bind_some, hq, hl, Option.map_some]
        · cases h
      · cases h
    · exact hg h
  | slice t x l hh m =>
    cases m with
    | some m => simp only [hop] at h; exact hg h
    | none =>
      simp only [hop] at h
      split at h
      · rename_i s hu hx
        obtain ⟨j, hj, h⟩ := optK_some h
        obtain ⟨i, hi, h⟩ := optK_some h
        rcases iteK_some h with ⟨hb, h⟩ | ⟨hb, h⟩
        · exact ⟨_, _, by simp only [stepV, hop, sliceV, hu, hx, hj, hi, Option.bind_some]; rw [if_pos (of_decide_eq_true hb)]; rfl, h⟩
        · cases h
      · rename_i e b off len esz hu hx
        split at h
        · rename_i hs
          obtain ⟨j, hj, h⟩ := optK_some h
          obtain ⟨i, hi, h⟩ := optK_some h
          rcases iteK_some h with ⟨hb, h⟩ | ⟨hb, h⟩
          · have hb2 := of_decide_eq_true hb
            exact ⟨_, _, by simp only [stepV, hop, sliceV, hu, hx, hj, hi, Option.bind_some]; rw [if_pos ⟨hb2.1, hb2.2.1, hb2.2.2, hs⟩]; rfl, h⟩
          · cases h
        · cases h
      · exact hg h
  | makeSlice t l c =>
    simp only [hop] at h
    split at h
    · rename_i kl l' kc c' e loc hp hl hc he
      split at h
      · rename_i i z hi hz
        rw [forceN_eq, forceN_eq] at h
        rcases iteK_some h with ⟨hb, h⟩ | ⟨hb, h⟩
        · exact hg h
        · rcases iteK_some h with ⟨hb, h⟩ | ⟨hb, h⟩
          · rw [Bool.and_eq_true] at hb
            obtain ⟨c1, c2, c3, c4, c5⟩ := of_decide_eq_true hb.1
            obtain ⟨c6, c7⟩ := of_decide_eq_true hb.2
            refine ⟨_, _, ?_, h⟩
            simp only [stepV, hop, makeV, hl, hc, he, hi, hz]
            rw [if_pos ⟨c1, c2, c3, c4, c5, c6⟩]
            have hn : newV false (repeatV l'.toNat z) ⟨loc, hp⟩ = some (.hp hp.length) := by
              unfold newV
              rw [if_pos (by exact repeatV_all c7 _)]
              rfl
            rw [hn, mk.ok]
            rfl
          · cases h
      · cases h
    · cases h
  | call c =>
    simp only [hop] at h
    split at h
    · rename_i f loc hp hc
      split at h
      · rename_i hf
        rcases iteK_some h with ⟨hb, h⟩ | ⟨hb, h⟩
        · rw [forceDs_eq] at h
          cases quiet
          · obtain ⟨v, H, hr, h⟩ := callK_some h
            exact ⟨_, _, by simp only [stepV, hop, hc]; rw [if_pos ⟨hf, hb⟩]; simp only [Bool.false_eq_true, if_false]; rw [hr]; rfl, h⟩
          · obtain ⟨v, H, hr, h⟩ := callK_some h
            exact ⟨_, _, by simp only [stepV, hop, hc]; rw [if_pos ⟨hf, hb⟩]; simp only [if_true]; rw [hr]; rfl, h⟩
        · cases h
      · cases h
    · rename_i loc hp hc
      split at h
      · rename_i s x t u us hT ha
        split at h
        · rename_i e he
          split at h
          · rename_i i z hi hz
            rw [forceN_eq, forceN_eq] at h
            obtain ⟨new, hnew, h⟩ := optK_some h
            obtain ⟨n, hn, h⟩ := optK_some h
            obtain ⟨c1, h⟩ := iteK_left h
            obtain ⟨c2, h⟩ := iteK_left h
            rcases iteK_some h with ⟨c3, h⟩ | ⟨hb, h⟩
            · obtain ⟨c1, c4, c5⟩ := of_decide_eq_true c1
              have c2 := of_decide_eq_true c2
              have hst : stepV P lo quiet call locs T ⟨loc, hp⟩ o = appendV P lo ⟨loc, hp⟩ t u s x := by
                simp only [stepV, hop, hc, hT, ha]
              rw [hst]
              unfold appendV
              simp only [he, hi, hz, hnew, hn, Option.bind_some]
              rw [if_pos ⟨c1, c4, c5, c3, c2⟩]
              clear hT hst
              cases s with
              | nils =>
                simp only [] at h ⊢
                rcases iteK_some h with ⟨hb, h⟩ | ⟨hb, h⟩
                · rw [if_pos (of_decide_eq_true hb)]
                  rcases iteK_some h with ⟨hb, h⟩ | ⟨hb, h⟩
                  · rw [if_pos (of_decide_eq_true hb)]
                    exact ⟨_, _, rfl, h⟩
                  · rw [if_neg (of_decide_eq_false hb)]
                    refine ⟨_, _, ?_, h⟩
                    unfold newV
                    rw [if_pos (by exact c3)]
                    rfl
                · cases h
              | sl b off len esz =>
                cases b with
                | lo k => cases h
                | hp k =>
                  simp only [] at h ⊢
                  split at h
                  · rename_i hes
                    rcases iteK_some h with ⟨hw, h⟩ | ⟨hw, h⟩
                    · rcases iteK_some h with ⟨hb, h⟩ | ⟨hb, h⟩
                      · have hb := of_decide_eq_true hb
                        rw [if_pos ⟨hes, hw, hb.1, hb.2⟩]
                        obtain ⟨cs, hm, h⟩ := optK_some h
                        rcases iteK_some h with ⟨hq, h⟩ | ⟨hq, h⟩
                        · refine ⟨_, _, ?_, h⟩
                          rw [hm]
                          simp only [Option.bind_some]
                          rw [if_pos (of_decide_eq_true hq)]
                          rfl
                        · cases h
                      · cases h
                    · cases h
                  · cases h
              | _ => cases h
            · cases h
          · cases h
        · cases h
      · cases h
    · exact hg h
  | _ => simp only [hop] at h; exact hg h
/-- The temporary that a guard asks, once its answer is known. -/
def knownG (ops : Array Oper) (o : Oper) (b : Bool) (T : List Val) : List Val := match o.guard with
  | none => T
  | some (j, want) => match (ops[j]?).bind (·.dst) with
    | none => T
    | some d => match getAt d T with
      | some (.bool _) => setT d (.bool (want == b)) T
      | _ => T
theorem setT_self {d : Nat} {v : Val} : ∀ {T : List Val}, getAt d T = some v → setT d v T = T := by
  induction d with
  | zero => intro T h; cases T with | nil => rfl | cons x xs => simp only [getAt, Option.some.injEq] at h; subst h; rfl
  | succ d ih => intro T h; cases T with | nil => rfl | cons x xs => simp only [getAt] at h; simp only [setT, ih h]
theorem knownG_eq {ops : Array Oper} {o : Oper} {b : Bool} {T : List Val} (h : wantV ops T o = some b) : knownG ops o b T = T := by
  unfold wantV at h
  unfold knownG
  cases hg : o.guard with
  | none => rfl
  | some gw =>
    obtain ⟨j, want⟩ := gw
    simp only [hg] at h ⊢
    cases hd : (ops[j]?).bind (·.dst) with
    | none => rfl
    | some d =>
      simp only [hd] at h ⊢
      cases hx : getAt d T with
      | none => simp only [hx] at h ⊢
      | some x =>
        cases x with
        | bool q =>
          simp only [hx, Option.some.injEq] at h ⊢
          refine setT_self ?_
          rw [hx, ← h]
          cases q <;> cases want <;> rfl
        | _ => simp only []
def knownC (c : Operand) (b : Bool) (T : List Val) : List Val := match c with
  | .tmp d => setT d (.bool b) T
  | _ => T
theorem knownC_eq {c : Operand} {b : Bool} {T : List Val} (h : ev T c = .bool b) : knownC c b T = T := by
  cases c with
  | tmp d =>
    simp only [knownC]
    simp only [ev] at h
    refine setT_self ?_
    cases hx : getAt d T with
    | none => rw [hx] at h; cases h
    | some x => rw [hx] at h; simp only [Option.getD_some] at h; rw [h]
  | _ => rfl
/-- What an operation does with memory, without the cells. -/
def D.bare : D → D
  | .new r b _ => .new r b []
  | .wr b _ => .wr b []
  | .ap r b b' _ => .ap r b b' []
  | d => d
def bareP (p : Nat × D) : Nat × D := (p.1, p.2.bare)
theorem commB_bare (d e : D) : commB d.bare e.bare = commB d e := by
  cases d <;> cases e <;> rfl
theorem freeOne_bare (ops : Array Oper) (i : Nat) (d : D) : ∀ l : List (Nat × D), freeOne ops i d.bare (l.map bareP) = freeOne ops i d l
  | [] => rfl
  | (j, e) :: l => by
    simp only [List.map_cons, freeOne, bareP, commB_bare]
    rw [show freeOne ops i d.bare (List.map bareP l) = _ from freeOne_bare ops i d l]
theorem freeB_bare (ops : Array Oper) : ∀ l : List (Nat × D), freeB ops (l.map bareP) = freeB ops l
  | [] => rfl
  | (i, d) :: l => by
    simp only [List.map_cons, freeB, bareP]
    rw [freeOne_bare, show freeB ops (List.map bareP l) = _ from freeB_bare ops l]
def baseK {R : Type} (b : Base) (K : Base → R) : R := match b with
  | .lo k => forceN k fun k => K (.lo k)
  | .hp k => K (.hp k)
theorem baseK_eq {R : Type} (b : Base) (K : Base → R) : baseK b K = K b := by
  cases b
  · exact forceN_eq _ _
  · rfl
def rdK {R : Type} (r : Option Base) (K : Option Base → R) : R := match r with
  | none => K none
  | some b => baseK b fun b => K (some b)
theorem rdK_eq {R : Type} (r : Option Base) (K : Option Base → R) : rdK r K = K r := by
  cases r with
  | none => rfl
  | some b =>
    show baseK b (fun b => K (some b)) = K (some b)
    rw [baseK_eq]
/-- An operation is put down beside those that may go in any order. -/
def noteK {R : Type} (dr : Bool) (i : Nat) (d : D) (l : List (Nat × D)) (K : List (Nat × D) → R) : R := match dr with
  | false => K l
  | true => match d with
    | .none => K l
    | .new r b _ => rdK r fun r => baseK b fun b => K ((i, .new r b []) :: l)
    | .rd b => baseK b fun b => K ((i, .rd b) :: l)
    | .wr b _ => baseK b fun b => K ((i, .wr b []) :: l)
    | .ap r b b' _ => rdK r fun r => baseK b fun b => baseK b' fun b' => K ((i, .ap r b b' []) :: l)
    | .call p m H => K ((i, .call p m H) :: l)
theorem noteK_true {R : Type} (i : Nat) (d : D) (l : List (Nat × D)) (K : List (Nat × D) → R) : noteK true i d (l.map bareP) K = K ((match d with | .none => l | d => (i, d) :: l).map bareP) := by
  cases d <;> simp only [noteK, rdK_eq, baseK_eq] <;> rfl
noncomputable def opsK {R : Type} (mk : Mk) (P : Program) (lo : Nat) (quiet : Bool) (call : CallF) (locs : List Nat) (ops : Array Oper) (dr : Bool) (os : List Oper) : Nat → List (Nat × D) → St → (List (Nat × D) → St → Option R) → Option R :=
  List.rec (motive := fun _ => Nat → List (Nat × D) → St → (List (Nat × D) → St → Option R) → Option R) (fun _ l s K => K l s)
    (fun o _ ih i l s K => match s with
      | ⟨T, M⟩ => optK (wantV ops T o) fun b => iteK b
          (forceL (knownG ops o true T) fun T0 => stepK mk P lo quiet call locs T0 M o fun v d => forceV v fun v => forceL (putT o v T0) fun T => noteK dr i d l fun l => forceM d M fun M => ih (i + 1) l ⟨T, M⟩ K)
          (forceL (putT o (.tup []) (knownG ops o false T)) fun T => ih (i + 1) l ⟨T, M⟩ K)) os
theorem opsK_cons {R : Type} (mk : Mk) (P : Program) (lo : Nat) (quiet : Bool) (call : CallF) (locs : List Nat) (ops : Array Oper) (dr : Bool) (o : Oper) (os : List Oper) (i : Nat) (l : List (Nat × D)) (T : List Val) (M : Mem) (K : List (Nat × D) → St → Option R) :
    opsK mk P lo quiet call locs ops dr (o :: os) i l ⟨T, M⟩ K = optK (wantV ops T o) fun b => iteK b
      (forceL (knownG ops o true T) fun T0 => stepK mk P lo quiet call locs T0 M o fun v d => forceV v fun v => forceL (putT o v T0) fun T => noteK dr i d l fun l => forceM d M fun M => opsK mk P lo quiet call locs ops dr os (i + 1) l ⟨T, M⟩ K)
      (forceL (putT o (.tup []) (knownG ops o false T)) fun T => opsK mk P lo quiet call locs ops dr os (i + 1) l ⟨T, M⟩ K) := rfl
theorem opsK_some {R : Type} {mk : Mk} {P : Program} {lo : Nat} {quiet : Bool} {call : CallF} {locs : List Nat} {ops : Array Oper} {dr : Bool} {K : List (Nat × D) → St → Option R} {r : R} : ∀ (os : List Oper) (i : Nat) (l m : List (Nat × D)) (s : St), (dr = true → m = l.map bareP) → opsK mk P lo quiet call locs ops dr os i m s K = some r →
    ∃ l' m' s', runOps P lo quiet call locs ops os i l s = some (l', s') ∧ K m' s' = some r ∧ (dr = true → m' = l'.map bareP)
  | [], i, l, m, s, hm, h => ⟨l, m, s, rfl, h, hm⟩
  | o :: os, i, l, m, ⟨T, M⟩, hm, h => by
    rw [opsK_cons] at h
    obtain ⟨b, hb, h⟩ := optK_some h
    simp only [runOps, hb]
    rcases iteK_some h with ⟨hb2, h2⟩ | ⟨hb2, h2⟩
    · rw [forceL_eq, knownG_eq (by rw [hb, hb2])] at h2
      obtain ⟨v, d, hs, h3⟩ := stepK_some h2
      rw [forceV_eq, forceL_eq] at h3
      simp only [hb2, if_true, hs]
      cases dr
      · replace h3 : (forceM d M fun M => opsK mk P lo quiet call locs ops false os (i + 1) m ⟨putT o v T, M⟩ K) = some r := h3
        rw [forceM_eq] at h3
        exact opsK_some os _ _ _ _ (fun z => by cases z) h3
      · rw [hm rfl, noteK_true, forceM_eq] at h3
        exact opsK_some os _ _ _ _ (fun _ => rfl) h3
    · rw [forceL_eq, knownG_eq (by rw [hb, hb2])] at h2
      simp only [hb2, Bool.false_eq_true, if_false]
      exact opsK_some os _ _ _ _ hm h2
/-- What is kept at a loop's head, told out. -/
def forceMask {R : Type} (keep : List Nat) : Nat → List Val → (List Val → R) → R
  | _, [], K => K []
  | i, x :: xs, K => match keep.contains i with
    | true => forceMask keep (i + 1) xs fun ys => K (x :: ys)
    | false => forceMask keep (i + 1) xs fun ys => K (.undef :: ys)
theorem forceMask_eq {R : Type} (keep : List Nat) : ∀ (i : Nat) (T : List Val) (K : List Val → R), forceMask keep i T K = K (maskFrom keep i T)
  | _, [], K => rfl
  | i, x :: xs, K => by
    unfold forceMask maskFrom
    split
    · rename_i h; rw [forceMask_eq keep (i + 1) xs, h]; rfl
    · rename_i h; rw [forceMask_eq keep (i + 1) xs, h]; rfl
noncomputable def loopK {R : Type} (body : St → (Out → St → Option R) → Option R) (keep : List Nat) (n : Nat) : St → (Out → St → Option R) → Option R :=
  Nat.rec (motive := fun _ => St → (Out → St → Option R) → Option R) (fun _ _ => none)
    (fun _ ih s K => match s with
      | ⟨T, M⟩ => forceMask keep 0 T fun T => body ⟨T, M⟩ fun o s' => match o with
        | .normal => ih s' K
        | o => K o s') n
theorem loopK_succ {R : Type} (body : St → (Out → St → Option R) → Option R) (keep : List Nat) (n : Nat) (s : St) (K : Out → St → Option R) : loopK body keep (n + 1) s K = body ⟨maskFrom keep 0 s.T, s.M⟩ fun o s' => match o with
    | .normal => loopK body keep n s' K
    | o => K o s' := by
  show forceMask _ _ _ _ = _
  rw [forceMask_eq]
  rfl
/-- Ways that come together: what is not asked for behind it is struck. -/
def joinK {R : Type} (a b : St → (Out → St → Option R) → Option R) (keep : List Nat) : St → (Out → St → Option R) → Option R := fun s K => a s fun o s' => match o with
  | .normal => match s' with
    | ⟨T, M⟩ => forceMask keep 0 T fun T => b ⟨T, M⟩ K
  | o => K o s'
noncomputable def runK {R : Type} (mk : Mk) (P : Program) (lo : Nat) (call : CallF) (locs : List Nat) (fuel : Nat) (c : IC) : St → (Out → St → Option R) → Option R :=
  IC.rec (motive := fun _ => St → (Out → St → Option R) → Option R)
    (fun s K => K .normal s)
    (fun q _ ops draw s K => match draw with
      | true => opsK mk P lo q call locs ops true ops.toList 0 [] s fun l s' => iteK (freeB ops l) (K .normal s') none
      | false => opsK mk P lo q call locs ops false ops.toList 0 [] s fun l s' => K .normal s')
    (fun _ _ iha ihb s K => iha s fun o s' => match o with
      | .normal => ihb s' K
      | o => K o s')
    (fun c _ _ iha ihb s K => match s with
      | ⟨T, M⟩ => match ev T c with
        | .bool t => iteK t (forceL (knownC c true T) fun T => iha ⟨T, M⟩ K) (forceL (knownC c false T) fun T => ihb ⟨T, M⟩ K)
        | _ => none)
    (fun id _ iha s K => iha s fun o s' => match o with
      | .exit j => if j = id then K .normal s' else K (.exit j) s'
      | o => K o s')
    (fun keep _ iha s K => loopK iha keep fuel s K)
    (fun keep _ _ iha ihb s K => optK mk.j fun _ => joinK iha ihb keep s K)
    (fun id s K => K (.exit id) s)
    (fun s K => K .ret s) c
theorem loopK_some {R : Type} {body : St → (Out → St → Option R) → Option R} {bodyV : St → Option (Out × St)} (hb : ∀ s K (r : R), body s K = some r → ∃ o s', bodyV s = some (o, s') ∧ K o s' = some r) (keep : List Nat) {K : Out → St → Option R} {r : R} :
    ∀ (n : Nat) (s : St), loopK body keep n s K = some r → ∃ o s', runLoop bodyV keep n s = some (o, s') ∧ K o s' = some r
  | 0, s, h => by cases h
  | n + 1, s, h => by
    rw [loopK_succ] at h
    obtain ⟨o, s', hs, h⟩ := hb _ _ _ h
    simp only [runLoop, hs]
    cases o with
    | normal => exact loopK_some hb keep n s' h
    | exit id => exact ⟨_, _, rfl, h⟩
    | ret => exact ⟨_, _, rfl, h⟩
theorem runK_some {R : Type} {mk : Mk} {P : Program} {lo : Nat} {call : CallF} {locs : List Nat} {fuel : Nat} : ∀ (c : IC) (s : St) (K : Out → St → Option R) (r : R), runK mk P lo call locs fuel c s K = some r → ∃ o s', run P lo call locs fuel c s = some (o, s') ∧ K o s' = some r := by
  intro c
  induction c with
  | skip => intro s K r h; exact ⟨_, _, rfl, h⟩
  | exit id => intro s K r h; exact ⟨_, _, rfl, h⟩
  | ret => intro s K r h; exact ⟨_, _, rfl, h⟩
  | region q id ops draw =>
    intro s K r h
    cases draw
    · have h : opsK mk P lo q call locs ops false ops.toList 0 [] s (fun l s' => K .normal s') = some r := h
      obtain ⟨l, m, s', hr, h, _⟩ := opsK_some _ _ [] _ _ (fun z => by cases z) h
      exact ⟨.normal, s', by simp [run, runRegion, hr], h⟩
    · have h : (opsK mk P lo q call locs ops true ops.toList 0 [] s fun l s' => iteK (freeB ops l) (K .normal s') none) = some r := h
      obtain ⟨l, m, s', hr, h, hm⟩ := opsK_some _ _ [] _ _ (fun _ => rfl) h
      obtain rfl := hm rfl
      rw [freeB_bare] at h
      rcases iteK_some h with ⟨hf, h⟩ | ⟨hf, h⟩
      · exact ⟨.normal, s', by simp [run, runRegion, hr, hf], h⟩
      · cases h
  | seq a b iha ihb =>
    intro s K r h
    obtain ⟨o, s', hs, h⟩ := iha _ _ _ h
    simp only [run, hs]
    cases o with
    | normal => exact ihb _ _ _ h
    | exit id => exact ⟨_, _, rfl, h⟩
    | ret => exact ⟨_, _, rfl, h⟩
  | cond c a b iha ihb =>
    intro s K r h
    obtain ⟨T, M⟩ := s
    have h : (match ev T c with
        | .bool t => iteK t (forceL (knownC c true T) fun T => runK mk P lo call locs fuel a ⟨T, M⟩ K) (forceL (knownC c false T) fun T => runK mk P lo call locs fuel b ⟨T, M⟩ K)
        | _ => none) = some r := h
    split at h
    · rename_i t hc
      simp only [run, hc]
      rcases iteK_some h with ⟨hb2, h2⟩ | ⟨hb2, h2⟩
      · rw [forceL_eq, knownC_eq (by rw [hc, hb2])] at h2
        simp only [hb2, if_true]; exact iha _ _ _ h2
      · rw [forceL_eq, knownC_eq (by rw [hc, hb2])] at h2
        simp only [hb2, Bool.false_eq_true, if_false]; exact ihb _ _ _ h2
    · cases h
  | block id a iha =>
    intro s K r h
    obtain ⟨o, s', hs, h⟩ := iha _ _ _ h
    simp only [run, hs]
    cases o with
    | normal => exact ⟨_, _, rfl, h⟩
    | exit j =>
      simp only [] at h ⊢
      split at h
      · rename_i hj; rw [if_pos hj]; exact ⟨_, _, rfl, h⟩
      · rename_i hj; rw [if_neg hj]; exact ⟨_, _, rfl, h⟩
    | ret => exact ⟨_, _, rfl, h⟩
  | loop keep a iha =>
    intro s K r h
    exact loopK_some iha keep fuel s h
  | join keep a b iha ihb =>
    intro s K r h
    replace h : (optK mk.j fun _ => joinK (runK mk P lo call locs fuel a) (runK mk P lo call locs fuel b) keep s K) = some r := h
    obtain ⟨_, _, h⟩ := optK_some h
    unfold joinK at h
    obtain ⟨o, s', hs, h⟩ := iha _ _ _ h
    simp only [run, hs]
    cases o with
    | normal =>
      obtain ⟨T, M⟩ := s'
      simp only [forceMask_eq] at h
      exact ihb _ _ _ h
    | exit id => exact ⟨_, _, rfl, h⟩
    | ret => exact ⟨_, _, rfl, h⟩
/-- Code told out. -/
noncomputable def forceIC {R : Type} (c : IC) : (IC → R) → R :=
  IC.rec (motive := fun _ => (IC → R) → R)
    (fun K => K .skip)
    (fun q id ops draw K => match q with | true => K (.region true id ops draw) | false => K (.region false id ops draw))
    (fun _ _ iha ihb K => iha fun a => ihb fun b => K (.seq a b))
    (fun c _ _ iha ihb K => iha fun a => ihb fun b => K (.cond c a b))
    (fun id _ iha K => iha fun a => K (.block id a))
    (fun keep _ iha K => forceL keep fun keep => iha fun a => K (.loop keep a))
    (fun keep _ _ iha ihb K => forceL keep fun keep => iha fun a => ihb fun b => K (.join keep a b))
    (fun id K => K (.exit id))
    (fun K => K .ret) c
theorem forceIC_eq {R : Type} (c : IC) : ∀ K : IC → R, forceIC c K = K c := by
  induction c with
  | skip => intro K; rfl
  | region q id ops draw => intro K; cases q <;> rfl
  | seq a b iha ihb => intro K; exact (iha _).trans (ihb _)
  | cond c a b iha ihb => intro K; exact (iha _).trans (ihb _)
  | block id a iha => intro K; exact iha _
  | loop keep a iha => intro K; exact (forceL_eq _ _).trans (iha _)
  | join keep a b iha ihb => intro K; exact (forceL_eq _ _).trans ((iha _).trans (ihb _))
  | exit id => intro K; rfl
  | ret => intro K; rfl
/-- The end of a call. -/
def endK (P : Program) (fn : Func) : Out → St → Option (Val × List Blk) := fun o s => match s with
  | ⟨T, ⟨loc, hp⟩⟩ => match o with
    | .exit _ => none
    | _ => optK (resultsV P fn ⟨T, ⟨loc, hp⟩⟩) fun v => forceV v fun v => iteK (sharedV v) (some (v, hp)) none
noncomputable def callVK (mk : Mk) (P : Program) (ann : FuncId → Option Ann) (k : Nat) (call : CallF) (lo : Nat) (f : FuncId) (args : List Val) (H : List Blk) : Option (Val × List Blk) :=
  match ann f, P.funcs[f]? with
  | some an, some fn => forceL (enterT fn args) fun T => forceL an.locs fun locs => forceIC an.code fun c => runK mk P lo call locs k c ⟨T, ⟨[], H⟩⟩ (endK P fn)
  | _, _ => none
theorem callVK_some {mk : Mk} {P : Program} {ann : FuncId → Option Ann} {k : Nat} {call : CallF} {lo : Nat} {f : FuncId} {args : List Val} {H : List Blk} {r : Val × List Blk} (h : callVK mk P ann k call lo f args H = some r) : callV P ann k call lo f args H = some r := by
  unfold callVK at h
  unfold callV
  split at h
  · rename_i an fn h1 h2
    simp only [h1, h2]
    rw [forceL_eq, forceL_eq, forceIC_eq] at h
    obtain ⟨o, s, hs, h⟩ := runK_some _ _ _ _ h
    rw [hs]
    cases o with
    | exit id => cases h
    | normal =>
      simp only [endK] at h
      obtain ⟨v, hv, h⟩ := optK_some h
      rw [forceV_eq] at h
      rcases iteK_some h with ⟨hf, h⟩ | ⟨hf, h⟩
      · simp only [Option.some.injEq] at h; subst h
        simp [hv, hf]
      · cases h
    | ret =>
      simp only [endK] at h
      obtain ⟨v, hv, h⟩ := optK_some h
      rw [forceV_eq] at h
      rcases iteK_some h with ⟨hf, h⟩ | ⟨hf, h⟩
      · simp only [Option.some.injEq] at h; subst h
        simp [hv, hf]
      · cases h
  · cases h
/-- Functions that are not followed: pure ones whose answer is known by a contract. -/
abbrev Ext := FuncId → List Val → Option Val
def ExtOk (P : Program) (ext : Ext) : Prop := ∀ f args r, ext f args = some r → sharedV r = true ∧ ∀ (ρ : Ren) (w : World) (avs : List Value), rels (relV ρ) args avs → Calls P f avs.toArray w fun e w' => ∃ v, e = .returned v ∧ relV ρ r v ∧ Below w.heap.size w w'
theorem Is.below {lo base : Nat} {ρ : Ren} {G : Mem?} {w w' : World} (h : Is lo base ρ G w) (hb : Below w.heap.size w w') : Is lo base ρ G w' where
  at' b c cs e g := At_mono (Ren.le_refl ρ) (hb.block _ (h.dom b c e)) (h.at' b c cs e g)
  inj := h.inj
  dom b c e := Nat.lt_of_lt_of_le (h.dom b c e) hb.size
  base := Nat.le_trans h.base hb.size
  sh := h.sh
  injF := h.injF
theorem noExt_ok (P : Program) : ExtOk P fun _ _ => none := fun _ _ _ h => by cases h
noncomputable def extK (ext : Ext) (call : CallF) : CallF := fun lo f args H => match ext f args with
  | some r => some (r, H)
  | none => call lo f args H
/-- What a call comes to. -/
noncomputable def F (mk : Mk) (P : Program) (ann : FuncId → Option Ann) (ext : Ext) (k : Nat) : CallF :=
  Nat.rec (motive := fun _ => CallF) (fun _ _ _ _ => none) (fun k ih => extK ext (callVK mk P ann k ih)) k
theorem F_ok {mk : Mk} {P : Program} {base : Nat} (hm : P.follows .mixedOrders = true) {ann : FuncId → Option Ann} (hann : AnnOk P ann) {ext : Ext} (hx : ExtOk P ext) : ∀ k, CallOk P base (F mk P ann ext k) ∧ CallMono (F mk P ann ext k)
  | 0 => ⟨(fun lo f args H r H' h => by cases h), (fun lo f args H r H' h => by cases h)⟩
  | k + 1 => by
    have this := callV_ok (base := base) hm hann k (F_ok (mk := mk) hm hann hx k).1 (F_ok (mk := mk) (base := base) hm hann hx k).2
    have cases' : ∀ {lo f args H r H'}, F mk P ann ext (k + 1) lo f args H = some (r, H') → (ext f args = some r ∧ H' = H) ∨ callV P ann k (F mk P ann ext k) lo f args H = some (r, H') := by
      intro lo f args H r H' h
      replace h : extK ext (callVK mk P ann k (F mk P ann ext k)) lo f args H = some (r, H') := h
      unfold extK at h
      split at h
      · rename_i q hq
        simp only [Option.some.injEq, Prod.mk.injEq] at h
        exact .inl ⟨h.1 ▸ hq, h.2.symm⟩
      · exact .inr (callVK_some h)
    refine ⟨fun lo f args H r H' h hlo ρ w avs hI hd hr hs hgl => ?_, fun lo f args H r H' h => ?_⟩
    · rcases cases' h with ⟨he, rfl⟩ | h
      · refine ((hx f args r he).2 ρ w avs hr).mono ?_
        rintro e w' ⟨v, rfl, hv, hbw⟩
        exact ⟨v, ρ, rfl, ⟨hv, Ren.le_refl ρ, fun _ _ => rfl, hd, hI.below hbw, ⟨hbw.os, hbw.tape, hbw.output, hbw.size, fun c hc _ => hbw.block c hc⟩, fun k c hk e => by
          obtain ⟨j, hj, hl⟩ := hd _ _ e
          cases hj
          omega⟩⟩
      · exact this.1 lo f args H r H' h hlo ρ w avs hI hd hr hs hgl
    · rcases cases' h with ⟨he, rfl⟩ | h
      · exact ⟨(hx f args r he).1, fun _ => ⟨Nat.le_refl _, fun _ _ => rfl⟩⟩
      · exact this.2 lo f args H r H' h
/-- A law: what the plain machine tells of it is so, and nothing that there was is changed. -/
theorem law_of {mk : Mk} {P : Program} (hm : P.follows .mixedOrders = true) {ann : FuncId → Option Ann} (hann : AnnOk P ann) {ext : Ext} (hx : ExtOk P ext) {k : Nat} {f : FuncId} {xs : List Val} {H0 H' : List Blk} {W : World} {avs : List Value} {ρ : Ren}
    (hF : F mk P ann ext k H0.length f xs H0 = some (.bool true, H')) (hd : ∀ b c, ρ b = some c → ∃ k, b = .hp k ∧ k < H0.length)
    (hat : ∀ k c cs, ρ (.hp k) = some c → liveAt H0 k = some cs → cs.all shared = true ∧ ∃ arr ty fr, W.heap[c.blk]? = some (.cells arr ty fr) ∧ cs.length ≤ c.room ∧ c.off + cs.length ≤ arr.size ∧ (∀ i x, getAt i cs = some x → ∃ v, arr[c.off + i]? = some v ∧ cellRel ρ x v))
    (hb : ∀ b c, ρ b = some c → c.blk < W.heap.size) (hr : rels (relV ρ) xs avs) (hgl : GlobOk ρ := by intro _ _ h; cases h) :
    Calls P f avs.toArray W fun e W' => e = .returned (.bool true) ∧ Below W.heap.size W W' := by
  have hnw : ∀ b c, ρ b = some c → ¬ wr H0.length b := fun b c e z => by
    obtain ⟨j, rfl, hj⟩ := hd b c e
    exact absurd hj (Nat.not_lt.2 z)
  have hI : Is H0.length W.heap.size ρ (memH H0) W := by
    refine ⟨fun b c cs e g => ?_, fun b b' c c' e e' g g' ne wb => absurd wb (hnw b c e), hb, Nat.le_refl _, fun j c cs e g => (hat j c cs e g).1, fun b b' c c' e e' ne wb fb => absurd wb (hnw b c e)⟩
    obtain ⟨j, rfl, hj⟩ := hd b c e
    obtain ⟨_, arr, ty, fr, h1, h2, h3, h4⟩ := hat j c cs e g
    exact ⟨arr, ty, fr, h1, h2, h3, h4, fun z => absurd z (hnw _ c e)⟩
  refine ((F_ok hm hann hx k).1 _ f xs H0 _ H' hF (Nat.le_refl _) ρ W avs hI hd hr rfl hgl).mono ?_
  rintro e W' ⟨v, ρ', rfl, hC⟩
  have hv : v = .bool true := hC.val
  subst hv
  refine ⟨rfl, hC.kept.os, hC.kept.tape, hC.kept.output, hC.kept.size, fun c hc => hC.kept.block c hc ?_⟩
  rintro ⟨b, k', e, ⟨j, rfl, hj⟩, _⟩
  exact hnw _ k' e hj
end Go.Proofs.YtponkdimnafppaaDoor.VM
