/- A plain machine for the program's functions: its steps. -/
import Derived.Test.YtponkdimnafppaaDoorVA
namespace Go.Proofs.YtponkdimnafppaaDoor.VM
open Go
set_option linter.unusedVariables false
set_option linter.unusedSimpArgs false
/-- What an operation does with memory: nothing; a new block; a block is read; written; gone on from, as another one; a call (what is below p stays; m blocks there were). -/
inductive D where
  | none
  | new (r : Option Base) (b : Base) (cs : List Val)
  | rd (b : Base)
  | wr (b : Base) (cs : List Val)
  | ap (r : Option Base) (b b' : Base) (cs : List Val)
  | call (p m : Nat) (H : List Blk)
def Mem.app (M : Mem) : D → Mem
  | .none | .rd _ => M
  | .new _ (.lo _) cs => { M with loc := M.loc ++ [cs] }
  | .new _ (.hp _) cs => { M with hp := M.hp ++ [⟨cs, true⟩] }
  | .wr b cs => M.set b cs
  | .ap _ (.hp k) _ cs => { M with hp := M.hp.set k ⟨[], false⟩ ++ [⟨cs, true⟩] }
  | .ap _ (.lo _) _ _ => M
  | .call _ _ H => { M with hp := H }
def pickV (t : Bool) : Val → Val → Option Val
  | .int k a, .int k' b => if k = k' then some (.int k (bif t then a else b)) else bif t then some (.int k a) else some (.int k' b)
  | .bool a, .bool b => some (.bool (bif t then a else b))
  | .str a, .str b => some (.str (bif t then a else b))
  | x, y => bif t then some x else some y
def eqBytes : List UInt8 → List UInt8 → Bool
  | [], [] => true
  | a :: x, b :: y => Nat.beq a.toNat b.toNat && eqBytes x y
  | _, _ => false
/-- Are two strings alike? -/
def eqStr (a b : ByteArray) : Bool := eqBytes a.data.toList b.data.toList
theorem eqBytes_eq : ∀ x y : List UInt8, eqBytes x y = (x == y)
  | [], [] => rfl
  | [], _ :: _ => rfl
  | _ :: _, [] => rfl
  | a :: x, b :: y => by
    have h : Nat.beq a.toNat b.toNat = (a == b) := by
      by_cases e : a = b
      · subst e; simp
      · have : ¬ a.toNat = b.toNat := fun z => e (UInt8.toNat_inj.1 z)
        rw [beq_eq_false_iff_ne.2 e]
        exact Bool.eq_false_iff.2 fun z => this (Nat.eq_of_beq_eq_true z)
    simp only [eqBytes, h, eqBytes_eq x y]
    rfl
/-- Are two values of a type alike? -/
def eqT (P : Program) : Nat → TypeId → Val → Val → Option Bool
  | 0, _, _, _ => none
  | d + 1, t, x, y =>
    match P.underlying t, x, y with
    | some .bool, .bool a, .bool b => some (a == b)
    | some (.int _), .int k a, .int k' b => if k = k' then some (a == b) else none
    | some .string, .str a, .str b => some (eqStr a b)
    | some (.struct fs), .agg xs, .agg ys => if P.stoodInHeld t then none else
        (fs.toList).foldr (fun f r => if f.name ≠ "_" then
          (partV P f.type xs f.offset).bind fun a => (partV P f.type ys f.offset).bind fun b => (eqT P d f.type a b).bind fun e => r.map fun r => e && r
          else r) (some true)
    | some (.array n e), .agg xs, .agg ys => (sizeB P e).bind fun s =>
        (List.range n).foldr (fun i r => (partV P e xs (i * s)).bind fun a => (partV P e ys (i * s)).bind fun b => (eqT P d e a b).bind fun q => r.map fun r => q && r) (some true)
    | _, _, _ => none
def genBin (P : Program) (op : BinOp) (t : TypeId) (x y : Val) : Option Val :=
  match plain x, plain y with
  | some a, some b =>
    match a, b with
    | .agg _, _ => none
    | _, .agg _ => none
    | .nilIface, .nilIface => none
    | _, _ => (det P (binOp op t a b)).bind ofV
  | _, _ => none
/-- May values of a type be unlike in kind within (so that to compare them may fall)? -/
def guardB (P : Program) : Nat → TypeId → Bool
  | 0, _ => true
  | d + 1, t =>
    match P.underlying t with
    | some (.interface ms) => !ms.toList.isEmpty
    | some (.struct fs) => fs.toList.any fun f => f.name != "_" && guardB P d f.type
    | some (.array _ e) => guardB P d e
    | _ => false
theorem guardB_eq (P : Program) : ∀ d t, guardB P d t = P.eqGuardType d t
  | 0, _ => rfl
  | d + 1, t => by
    unfold guardB Program.eqGuardType
    split <;> simp_all [guardB_eq P d]
def absBin (P : Program) (op : BinOp) (t : TypeId) (x y : Val) : Option Val :=
  match op, x, y with
  | .quo, .int k a, .int k' b => if k = k' ∧ b ≠ 0 then some (.int k (k.wrap (a.tdiv b))) else none
  | .rem, .int k a, .int k' b => if k = k' ∧ b ≠ 0 then some (.int k (a.tmod b)) else none
  | .shl, .int k a, .int _ b => if b < 0 then none else some (.int k (k.wrap (a * 2 ^ (min b.toNat k.bits))))
  | .shr, .int k a, .int _ b => if b < 0 then none else some (.int k (a.fdiv (2 ^ (min b.toNat k.bits))))
  | .add, .str a, .str b => if a.size + b.size ≤ 4611686018427387904 then some (.str (a ++ b)) else none
  | .eql, .str a, .str b => some (.bool (eqStr a b))
  | .neq, .str a, .str b => some (.bool !(eqStr a b))
  | .eql, .agg a, .agg b => if guardB P P.depth t then none else (eqT P 40 t (.agg a) (.agg b)).map .bool
  | .neq, .agg a, .agg b => if guardB P P.depth t then none else (eqT P 40 t (.agg a) (.agg b)).map fun r => .bool !r
  | .eql, .sl .., .nils | .eql, .nils, .sl .. => match P.underlying t with | some (.slice _) => some (.bool false) | _ => none
  | .neq, .sl .., .nils | .neq, .nils, .sl .. => match P.underlying t with | some (.slice _) => some (.bool true) | _ => none
  | .eql, .ptr .., .nilp | .eql, .nilp, .ptr .. => match P.underlying t with | some (.pointer _) => some (.bool false) | _ => none
  | .neq, .ptr .., .nilp | .neq, .nilp, .ptr .. => match P.underlying t with | some (.pointer _) => some (.bool true) | _ => none
  | op, x, y => genBin P op t x y
def Mem.top : Mem → Base
  | ⟨_, hp⟩ => .hp hp.length
theorem Mem.top_eq (M : Mem) : M.top = .hp M.hp.length := rfl
/-- A new block, if what is in it may be there. -/
def newV (loc : Bool) (cs : List Val) (M : Mem) : Option Base :=
  if cs.all (if loc then cellLike else shared) then some (bif loc then .lo M.loc.length else M.top) else none
def ptrTo (cs : List Val) (b : Base) : Val × D := (.ptr b 0, .new none b cs)
def slTo (r : Option Base) (cs : List Val) (n s : Nat) (b : Base) : Val × D := (.sl b 0 n s, .new r b cs)
def mayWrite (lo : Nat) : Base → Bool
  | .lo _ => true
  | .hp b => Nat.ble lo b
def likeOf : Base → Val → Bool
  | .lo _ => cellLike
  | .hp _ => shared
def writeV (P : Program) (lo : Nat) (M : Mem) (t : TypeId) (b : Base) (off : Nat) (x : Val) : Option D :=
  if mayWrite lo b = true ∧ sizeB P t = some (cellsOf x).length ∧ 0 < (cellsOf x).length ∧ (cellsOf x).all (likeOf b) = true then
    (M.get b).bind fun cs => (putAt off (cellsOf x) cs).map fun cs' => .wr b cs'
  else none
def intV : Val → Option Int
  | .int _ n => some n
  | _ => none
def optInt (T : List Val) (d : Int) : Option Operand → Option Int
  | none => some d
  | some x => intV (ev T x)
def elemB (P : Program) (t : TypeId) : Option TypeId :=
  match P.underlying t with
  | some (.slice e) => some e
  | _ => none
def sliceV (P : Program) (T : List Val) (t : TypeId) (x : Val) (lo hi : Option Operand) : Option Val :=
  match P.underlying t, x with
  | some .string, .str s =>
    (optInt T s.size hi).bind fun h => (optInt T 0 lo).bind fun l => if 0 ≤ l ∧ l ≤ h ∧ h ≤ s.size then some (.str (s.extract l.toNat h.toNat)) else none
  | some (.slice e), .sl b off len esz =>
    (optInt T len hi).bind fun h => (optInt T 0 lo).bind fun l => if 0 ≤ l ∧ l ≤ h ∧ h ≤ len ∧ sizeB P e = some esz then some (.sl b (off + l.toNat * esz) (h - l).toNat esz) else none
  | some (.slice e), .nils =>
    (optInt T 0 hi).bind fun h => (optInt T 0 lo).bind fun l => if l = 0 ∧ h = 0 ∧ (sizeB P e).isSome = true then some .nils else none
  | _, _ => none
def makeV (P : Program) (M : Mem) (t : TypeId) (l c : Val) : Option (Val × D) :=
  match l, c, elemB P t with
  | .int _ l, .int _ c, some e =>
    match P.info? e, zeroB P e with
    | some i, some z =>
      if 0 ≤ l ∧ l ≤ c ∧ i.bytes * c ≤ 281474976710656 ∧ c ≤ 4611686018427387904 ∧ 0 < i.size ∧ z.length = i.size then
        (newV false (repeatV l.toNat z) M).map (slTo none (repeatV l.toNat z) l.toNat i.size)
      else none
    | _, _ => none
  | _, _, _ => none
/-- The cells of a slice, or of a string. -/
def sliceCells (M : Mem) (esz : Nat) : Val → Option (List Val)
  | .sl b off len e => if e = esz then (M.get b).bind (part? off (len * esz)) else none
  | .nils => some []
  | .str s => if esz = 1 then some (bytesV s) else none
  | _ => none
def readsOf : Val → Option Base
  | .sl b _ _ _ => some b
  | _ => none
def lenV : Val → Option Nat
  | .sl _ _ len _ => some len
  | .nils => some 0
  | .str s => some s.size
  | _ => none
def strOrSl (P : Program) (u : TypeId) : Bool :=
  match P.underlying u with
  | some .string | some (.slice _) => true
  | _ => false
def appendV (P : Program) (lo : Nat) (M : Mem) (t u : TypeId) (s x : Val) : Option (Val × D) :=
  (elemB P t).bind fun e => (P.info? e).bind fun i => (zeroB P e).bind fun z =>
  (sliceCells M i.size x).bind fun new => (lenV x).bind fun n =>
  if strOrSl P u = true ∧ 0 < i.size ∧ z.length = i.size ∧ new.all shared ∧ n * i.size = new.length then
    match s with
    | .nils => if n * i.bytes ≤ 140737488351232 ∧ n ≤ 140737488351232 then
        if n = 0 then some (.nils, .none) else (newV false new M).map (slTo (readsOf x) new n i.size) else none
    | .sl b off len esz =>
      if esz = i.size ∧ mayWrite lo b = true ∧ (len + n) * i.bytes ≤ 140737488351232 ∧ len + n ≤ 140737488351232 then
        match b with
        | .hp k => (M.get (.hp k)).bind fun cs =>
            if off + len * esz = cs.length then some (.sl M.top 0 (len + n) i.size, .ap (readsOf x) b M.top (dropN off cs ++ new)) else none
        | .lo _ => none
      else none
    | _ => none
  else none
def okFn (P : Program) (f : FuncId) : Bool :=
  match P.funcs[f]? with
  | some fn => fn.name != "runtime.NumGoroutine" && fn.body.isSome
  | none => false
def mapT (T : List Val) (xs : Array Operand) : List Val := xs.toList.map (ev T)
def convV (P : Program) (T : List Val) (M : Mem) (o : Oper) (s d : TypeId) (x : Val) : Option (Val × D) :=
  match x, P.underlying s, P.underlying d with
  | .str v, some .string, some (.slice e) =>
    match P.underlying e, sizeB P e with
    | some (.int .u8), some 1 => (newV false (bytesV v) M).map (slTo none (bytesV v) v.size 1)
    | _, _ => none
  | .sl b off len esz, some (.slice e), some .string =>
    match P.underlying e with
    | some (.int .u8) => if esz = 1 then (M.get b).bind fun cs => (part? off len cs).bind fun l => (bytesOf l).map fun l => (.str ⟨l.toArray⟩, .rd b) else none
    | _ => none
  | _, _, _ => (genStep P T o).map fun v => (v, .none)
def stepV (P : Program) (lo : Nat) (quiet : Bool) (call : Nat → FuncId → List Val → List Blk → Option (Val × List Blk)) (locs : List Nat) (T : List Val) (M : Mem) (o : Oper) : Option (Val × D) :=
  let g := (genStep P T o).map fun v => (v, D.none)
  match o.op with
  | .move x | .assign x => some (ev T x, .none)
  | .pick c a b => match ev T c with | .bool t => (pickV t (ev T a) (ev T b)).map fun v => (v, .none) | _ => none
  | .alloc t => (zeroB P t).bind fun cs => (newV (match o.dst with | some d => locs.contains d | none => false) cs M).map (ptrTo cs)
  | .box t x => (newV (match o.dst with | some d => locs.contains d | none => false) (cellsOf (ev T x)) M).map (ptrTo (cellsOf (ev T x)))
  | .build t ps => (zeroB P t).bind fun z => (placeV P t).bind fun pl => (fillV pl z (partsV T ps)).map fun cs => (.agg cs, .none)
  | .buildSlice t n ps => (elemB P t).bind fun e => (sizeB P e).bind fun s => (zeroB P e).bind fun z =>
      if 0 < s ∧ z.length = s ∧ n * s ≤ 16777216 then
        (fillV (fun i => some (i * s, s)) (repeatV n z) (partsV T ps)).bind fun cs => (newV (match o.dst with | some d => locs.contains d | none => false) cs M).map (slTo none cs n s)
      else none
  | .load t a => match ev T a with | .ptr b off => (readV P M t b off).map fun v => (v, .rd b) | _ => none
  | .store t a x => match ev T a with | .ptr b off => (writeV P lo M t b off (ev T x)).map fun d => (.tup [], d) | _ => none
  | .nilCheck x => match ev T x with | .ptr b off => some (.ptr b off, .none) | _ => none
  | .binOp op t x y _ => (absBin P op t (ev T x) (ev T y)).map fun v => (v, .none)
  | .convert s d x => convV P T M o s d (ev T x)
  | .makeSlice t l c => makeV P M t (ev T l) (ev T c)
  | .slice t x l h none => (sliceV P T t (ev T x) l h).map fun v => (v, .none)
  | .fieldAddr s x f => match ev T x, fieldB P s f with
      | .ptr b off, some fd => (match sizeB P fd.type with | some (_ + 1) => some (.ptr b (off + fd.offset), .none) | _ => none)
      | _, _ => none
  | .field t x f => match ev T x, fieldB P t f with
      | .agg cs, some fd => (partV P fd.type cs fd.offset).map fun v => (v, .none)
      | _, _ => none
  | .indexAddr t x ix => match ev T x, ev T ix, P.underlying t with
      | .sl b off len esz, .int _ i, some (.slice e) => if 0 ≤ i ∧ i < len ∧ sizeB P e = some esz then some (.ptr b (off + i.toNat * esz), .none) else none
      | .ptr b off, .int _ i, some (.array n e) => (sizeB P e).bind fun esz => if 0 ≤ i ∧ i < n then some (.ptr b (off + i.toNat * esz), .none) else none
      | _, _, _ => none
  | .index t x ix => match ev T x, ev T ix, P.underlying t with
      | .str s, .int _ i, some .string => if h : 0 ≤ i ∧ i < s.size then some (.int .u8 ((s.data.toList.getD i.toNat 0).toNat), .none) else none
      | .agg cs, .int _ i, some (.array n e) => (sizeB P e).bind fun esz => if 0 ≤ i ∧ i < n then (partV P e cs (i.toNat * esz)).map fun v => (v, .none) else none
      | _, _, _ => none
  | .extract x i => match ev T x with | .tup vs => (getAt i vs).map fun v => (v, .none) | _ => none
  | .call c => match c.callee with
      | .value (.func f) => if okFn P f = true ∧ (mapT T c.args).all sharedV = true then
            (call (if quiet then M.hp.length else lo) f (mapT T c.args) M.hp).map fun r => (r.1, .call (if quiet then M.hp.length else lo) M.hp.length r.2)
          else none
      | .builtin .append => match mapT T c.args, c.argTypes.toList with
          | [s, x], t :: u :: _ => appendV P lo M t u s x
          | _, _ => none
      | .builtin .len => match mapT T c.args, c.argTypes.toList with
          | [.sl _ _ len _], t :: _ => (match P.underlying t with | some (.slice _) => some (.int .i64 len, .none) | _ => none)
          | [.nils], t :: _ => (match P.underlying t with | some (.slice _) => some (.int .i64 0, .none) | _ => none)
          | [.str s], t :: _ => (match P.underlying t with | some .string => some (.int .i64 s.size, .none) | _ => none)
          | _, _ => g
      | .builtin .min => match mapT T c.args with
          | [.int k x, .int k' y] => some (.int k (if y < x then y else x), .none)
          | _ => g
      | .builtin .max => match mapT T c.args with
          | [.int k x, .int k' y] => some (.int k (if y > x then y else x), .none)
          | _ => g
      | _ => none
  | .unOp .. => g
  | _ => none
/-- The block of code, with what is kept at a loop's head, and whether the calls of a region leave what there is. -/
inductive IC where
  | skip
  | region (quiet : Bool) (id : Nat) (ops : Array Oper) (draw : Bool)
  | seq (a b : IC)
  | cond (c : Operand) (thn els : IC)
  | block (id : Nat) (body : IC)
  | loop (keep : List Nat) (body : IC)
  | join (keep : List Nat) (a b : IC)
  | exit (id : Nat)
  | ret
def IC.code : IC → Code
  | .skip => .skip
  | .region _ id ops draw => .region id ops draw
  | .seq a b => .seq a.code b.code
  | .cond c a b => .cond c a.code b.code
  | .block id a => .block id a.code
  | .loop _ a => .loop a.code
  | .join _ a b => .seq a.code b.code
  | .exit id => .exit id
  | .ret => .ret
structure Ann where
  code : IC
  locs : List Nat
inductive Out where
  | normal
  | exit (id : Nat)
  | ret
structure St where
  T : List Val
  M : Mem
/-- May the operation run: true, false; none: that is not known. -/
def wantV (ops : Array Oper) (T : List Val) (o : Oper) : Option Bool :=
  match o.guard with
  | none => some true
  | some (j, want) =>
    match (ops[j]?).bind (·.dst) with
    | none => some false
    | some d => match getAt d T with
      | some (.bool b) => some (b == want)
      | some (.tup _) => some false
      | _ => none
def putT (o : Oper) (v : Val) (T : List Val) : List Val := match o.dst with | some d => setT d v T | none => T
def Base.eqB : Base → Base → Bool
  | .lo a, .lo b => Nat.beq a b
  | .hp a, .hp b => Nat.beq a b
  | _, _ => false
/-- Is it a block that a call leaves as it is? -/
def outOf (p m : Nat) : Base → Bool
  | .lo _ => true
  | .hp b => Nat.blt b p || Nat.ble m b
/-- The blocks that an operation reads, makes, and writes; a call: any. -/
def rdsOf : D → List Base
  | .rd b => [b]
  | .new r _ _ => r.toList
  | .wr b _ => [b]
  | .ap r b _ _ => b :: r.toList
  | _ => []
def newsOf : D → List Base
  | .new _ b _ => [b]
  | .ap _ _ b _ => [b]
  | _ => []
def wrsOf : D → List Base
  | .wr b _ => [b]
  | .ap _ b _ _ => [b]
  | _ => []
def disjB (xs ys : List Base) : Bool := xs.all fun x => ys.all fun y => !Base.eqB x y
def isLoc : Base → Bool
  | .lo _ => true
  | .hp _ => false
/-- Two operations: may they change places? -/
def commB : D → D → Bool
  | .call _ _ _, .call _ _ _ => false
  | .call p _ H, e | e, .call p _ H => (rdsOf e).all (outOf p H.length) && (wrsOf e ++ newsOf e).all isLoc
  | d, e => disjB (wrsOf d ++ newsOf d) (rdsOf e ++ newsOf e) && disjB (wrsOf e ++ newsOf e) (rdsOf d)
/-- The operations that are ahead of one, by the edges that bind: as the bits of a number. -/
def maskOf (acc : List Nat) : List Edge → Nat
  | [] => 0
  | e :: es => match Region.binds .any e with
    | true => (2 ^ e.on ||| (getAt e.on acc).getD 0) ||| maskOf acc es
    | false => maskOf acc es
def masks : List Oper → List Nat → List Nat
  | [], acc => acc
  | o :: os, acc => masks os (acc ++ [maskOf acc o.after.toList])
def isAnc (ops : Array Oper) (i j : Nat) : Bool := ((getAt j (masks ops.toList [])).getD 0).testBit i
/-- One behind the other in the text, but in any order: may they change places? -/
def freeOne (ops : Array Oper) (i : Nat) (d : D) : List (Nat × D) → Bool
  | [] => true
  | (j, e) :: l => (isAnc ops j i || commB e d) && freeOne ops i d l
def freeB (ops : Array Oper) : List (Nat × D) → Bool
  | [] => true
  | (i, d) :: l => freeOne ops i d l && freeB ops l
def lexOk (ops : Array Oper) : Bool :=
  (List.range ops.size).all fun j => (match ops[j]? with
    | none => false
    | some oj => oj.after.all (fun e => !Region.binds .any e || Nat.blt e.on j) && (match oj.op with | .select .. => false | _ => true) &&
      (List.range j).all fun i => match ops[i]? with
        | none => false
        | some oi => oi.dst.isNone || oi.dst != oj.dst) &&
    (List.range j).all fun i => match ops[i]?, ops[j]? with
      | some oi, some oj => isAnc ops i j || oi.apart ops oj
      | _, _ => false
/-- Are the regions that draw in the order that is asked? -/
def IC.lex : IC → Bool
  | .region _ _ ops true => lexOk ops
  | .seq a b => a.lex && b.lex
  | .cond _ a b => a.lex && b.lex
  | .block _ a => a.lex
  | .loop _ a => a.lex
  | .join _ a b => a.lex && b.lex
  | _ => true
def runOps (P : Program) (lo : Nat) (quiet : Bool) (call : Nat → FuncId → List Val → List Blk → Option (Val × List Blk)) (locs : List Nat) (ops : Array Oper) :
    List Oper → Nat → List (Nat × D) → St → Option (List (Nat × D) × St)
  | [], _, l, s => some (l, s)
  | o :: os, i, l, s =>
    match wantV ops s.T o with
    | none => none
    | some b =>
      if b = true then
        match stepV P lo quiet call locs s.T s.M o with
        | none => none
        | some (v, d) => runOps P lo quiet call locs ops os (i + 1) (match d with | .none => l | d => (i, d) :: l) ⟨putT o v s.T, s.M.app d⟩
      else runOps P lo quiet call locs ops os (i + 1) l ⟨putT o (.tup []) s.T, s.M⟩
def runRegion (P : Program) (lo : Nat) (quiet : Bool) (call : Nat → FuncId → List Val → List Blk → Option (Val × List Blk)) (locs : List Nat) (ops : Array Oper) (draw : Bool) (s : St) : Option St :=
  if draw = true then
    match runOps P lo quiet call locs ops ops.toList 0 [] s with
    | some (l, s') => if freeB ops l = true then some s' else none
    | none => none
  else (runOps P lo quiet call locs ops ops.toList 0 [] s).map (·.2)
def maskFrom (keep : List Nat) : Nat → List Val → List Val
  | _, [] => []
  | i, x :: xs => (if keep.contains i then x else .undef) :: maskFrom keep (i + 1) xs
def runLoop (body : St → Option (Out × St)) (keep : List Nat) : Nat → St → Option (Out × St)
  | 0, _ => none
  | n + 1, s =>
    match body ⟨maskFrom keep 0 s.T, s.M⟩ with
    | some (.normal, s') => runLoop body keep n s'
    | r => r
def run (P : Program) (lo : Nat) (call : Nat → FuncId → List Val → List Blk → Option (Val × List Blk)) (locs : List Nat) (fuel : Nat) : IC → St → Option (Out × St)
  | .skip, s => some (.normal, s)
  | .region q id ops draw, s => (runRegion P lo q call locs ops draw s).map fun s' => (.normal, s')
  | .seq a b, s =>
    match run P lo call locs fuel a s with
    | some (.normal, s') => run P lo call locs fuel b s'
    | r => r
  | .cond c a b, s =>
    match ev s.T c with
    | .bool t => if t = true then run P lo call locs fuel a s else run P lo call locs fuel b s
    | _ => none
  | .block id a, s =>
    match run P lo call locs fuel a s with
    | some (.exit j, s') => if j = id then some (.normal, s') else some (.exit j, s')
    | r => r
  | .loop keep a, s => runLoop (run P lo call locs fuel a) keep fuel s
  | .join keep a b, s =>
    match run P lo call locs fuel a s with
    | some (.normal, s') => run P lo call locs fuel b ⟨maskFrom keep 0 s'.T, s'.M⟩
    | r => r
  | .exit id, s => some (.exit id, s)
  | .ret, s => some (.ret, s)
def resV (P : Program) (T : List Val) (M : Mem) : ResultVar → Option Val
  | .tmp t => getAt t T
  | .cell a t => match getAt a T with | some (.ptr b off) => readV P M t b off | _ => none
def resultsV (P : Program) (fn : Func) (s : St) : Option Val :=
  (mapO (resV P s.T s.M) fn.results.toList).map fun | [v] => v | vs => .tup vs
def enterT (fn : Func) (args : List Val) : List Val := args ++ List.replicate (fn.ntmps - args.length) (.tup [])
def callV (P : Program) (ann : FuncId → Option Ann) (k : Nat) (call : Nat → FuncId → List Val → List Blk → Option (Val × List Blk)) (lo : Nat) (f : FuncId) (args : List Val) (H : List Blk) : Option (Val × List Blk) :=
  match ann f, P.funcs[f]? with
  | some an, some fn =>
    match run P lo call an.locs k an.code ⟨enterT fn args, ⟨[], H⟩⟩ with
    | some (.normal, s) | some (.ret, s) => (resultsV P fn s).bind fun v => if sharedV v = true then some (v, s.M.hp) else none
    | _ => none
  | _, _ => none
/-- What a call comes to; none: that is not known, or it takes more than so many rounds, or calls in calls. -/
def E (P : Program) (ann : FuncId → Option Ann) : Nat → Nat → FuncId → List Val → List Blk → Option (Val × List Blk)
  | 0 => fun _ _ _ _ => none
  | k + 1 => callV P ann k (E P ann k)
end Go.Proofs.YtponkdimnafppaaDoor.VM
