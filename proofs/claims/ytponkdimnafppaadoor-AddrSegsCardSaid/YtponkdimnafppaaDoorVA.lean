/- A plain machine for the program's functions: what a call comes to, step by step in the text's order. Definitions. -/
import Derived.Orders
import Derived.WalkKit
namespace Go.Proofs.YtponkdimnafppaaDoor.VM
open Go
set_option linter.unusedVariables false
set_option linter.unusedSimpArgs false
/-- A block: one of the call's own, or one of the memory that all share. -/
inductive Base where
  | lo (k : Nat)
  | hp (b : Nat)
/-- A value: a pointer and a slice name a block; undef: nothing is known. -/
inductive Val where
  | int (k : IntKind) (n : Int)
  | bool (b : Bool)
  | str (s : ByteArray)
  | nilp
  | ptr (b : Base) (off : Nat)
  | nils
  | sl (b : Base) (off len esz : Nat)
  | raw (v : Value)
  | agg (cs : List Val)
  | tup (vs : List Val)
  | undef
structure Blk where
  cells : List Val
  live : Bool
structure Mem where
  loc : List (List Val)
  hp : List Blk
def Mem.get (M : Mem) : Base → Option (List Val)
  | .lo k => M.loc[k]?
  | .hp b => (M.hp[b]?).bind fun k => if k.live then some k.cells else none
def Mem.set (M : Mem) : Base → List Val → Mem
  | .lo k, cs => { M with loc := M.loc.set k cs }
  | .hp b, cs => { M with hp := M.hp.set b ⟨cs, true⟩ }
/-- The first so many of a row, if there are so many. -/
def takeN {α : Type} : Nat → List α → Option (List α)
  | 0, _ => some []
  | _ + 1, [] => none
  | n + 1, x :: xs => (takeN n xs).map (x :: ·)
def getAt {α : Type} : Nat → List α → Option α
  | _, [] => none
  | 0, x :: _ => some x
  | n + 1, _ :: xs => getAt n xs
def dropN {α : Type} : Nat → List α → List α
  | 0, xs => xs
  | _ + 1, [] => []
  | n + 1, _ :: xs => dropN n xs
/-- So many cells of a row from a place on. -/
def part? {α : Type} (off n : Nat) (xs : List α) : Option (List α) := takeN n (dropN off xs)
/-- A row with cells put at a place; none: they do not fit. -/
def putAt {α : Type} : Nat → List α → List α → Option (List α)
  | _, [], xs => some xs
  | 0, _ :: _, [] => none
  | 0, v :: vs, _ :: xs => (putAt 0 vs xs).map (v :: ·)
  | _ + 1, _ :: _, [] => none
  | n + 1, v :: vs, x :: xs => (putAt n (v :: vs) xs).map (x :: ·)
def setT : Nat → Val → List Val → List Val
  | _, _, [] => []
  | 0, v, _ :: xs => v :: xs
  | n + 1, v, x :: xs => x :: setT n v xs
def mapO {α β : Type} (f : α → Option β) : List α → Option (List β)
  | [] => some []
  | x :: xs => (f x).bind fun y => (mapO f xs).map (y :: ·)
def plainCell : Val → Option Value
  | .int k n => some (.int k n)
  | .bool b => some (.bool b)
  | .str s => some (.string s)
  | .nilp => some (.pointer none)
  | .nils => some (.slice none 0 0)
  | .raw v => some v
  | _ => none
def plainD : Val → Option Value
  | .agg cs => (mapO plainCell cs).map fun l => .agg l.toArray
  | x => plainCell x
/-- The value, if it names no block. -/
def plain : Val → Option Value
  | .tup vs => (mapO plainD vs).map fun l => .tuple l.toArray
  | x => plainD x
def ofCell : Value → Option Val
  | .int k n => some (.int k n)
  | .bool b => some (.bool b)
  | .string s => some (.str s)
  | .pointer none => some .nilp
  | .slice none 0 0 => some .nils
  | .nilFunc => some (.raw .nilFunc)
  | .nilIface => some (.raw .nilIface)
  | .float k n => some (.raw (.float k n))
  | .func fn a b => some (.raw (.func fn a b))
  | _ => none
def ofD : Value → Option Val
  | .agg cs => (mapO ofCell cs.toList).map .agg
  | x => ofCell x
def ofV : Value → Option Val
  | .tuple vs => (mapO ofD vs.toList).map .tup
  | x => ofD x
/-- The tables that are only read: each package-level variable, and the block that stands for it. -/
def globs : List (Nat × Nat) := [(0, 0)]
def globI : List (Nat × Nat) → Nat → Option Nat
  | [], _ => none
  | (g, i) :: l, x => match Nat.beq g x with
    | true => some i
    | false => globI l x
def globV (g : Nat) : Val := match globI globs g with
  | some i => .ptr (.hp i) 0
  | none => .undef
def ev (T : List Val) : Operand → Val
  | .tmp t => (getAt t T).getD .undef
  | .const v => (ofV v).getD .undef
  | .global g => globV g
  | .func f => .raw (.func (.func f) #[] #[])
/-- The value that an operation comes to whatever the world is. -/
def det {α : Type} (P : Program) : Sem α → Option α
  | .pure a => some a
  | .program k => det P (k P)
  | .mark _ k => det P k
  | _ => none
def evP (T : List Val) (x : Operand) : Value := (plain (ev T x)).getD undef
def genStep (P : Program) (T : List Val) (o : Oper) : Option Val :=
  if o.op.operands.toList.all fun x => (plain (ev T x)).isSome then
    match det P (execOp (evP T) o) with
    | some (.value v) => ofV v
    | _ => none
  else none
/-- The cells of a value that goes into memory. -/
def cellsOf : Val → List Val
  | .agg cs => cs
  | x => [x]
/-- May it be a cell of the memory that all share? -/
def shared : Val → Bool
  | .ptr (.lo _) _ | .sl (.lo _) _ _ _ | .agg _ | .tup _ | .undef => false
  | _ => true
/-- May it be a cell of a block of the call's own? -/
def cellLike : Val → Bool
  | .agg _ | .tup _ | .undef => false
  | _ => true
def sharedD : Val → Bool
  | .agg cs => cs.all shared
  | x => shared x
def sharedV : Val → Bool
  | .tup vs => vs.all sharedD
  | x => sharedD x
def aggB (P : Program) (t : TypeId) : Option Bool :=
  match P.underlying t with
  | some (.struct _) | some (.array _ _) => some true
  | some _ => some false
  | none => none
def sizeB (P : Program) (t : TypeId) : Option Nat := (P.info? t).map (·.size)
def zeroB (P : Program) (t : TypeId) : Option (List Val) := ((P.info? t).bind (·.zero)).bind fun z => mapO ofCell z.cells.toList
/-- A part of an aggregate. -/
def partV (P : Program) (t : TypeId) (cs : List Val) (off : Nat) : Option Val :=
  match aggB P t, sizeB P t with
  | some true, some n => (part? off n cs).map .agg
  | some false, some _ => getAt off cs
  | _, _ => none
def readV (P : Program) (M : Mem) (t : TypeId) (b : Base) (off : Nat) : Option Val := (M.get b).bind fun cs => partV P t cs off
def fieldB (P : Program) (s : TypeId) (f : Nat) : Option Field :=
  match P.underlying s with
  | some (.struct fs) => fs[f]?
  | _ => none
/-- The parts laid over the cells of noughts. -/
def fillV (place : Nat → Option (Nat × Nat)) (cells : List Val) : List (Nat × Val) → Option (List Val)
  | [] => some cells
  | (i, v) :: rest =>
    match place i with
    | none => none
    | some (off, size) =>
      if (cellsOf v).length = size ∧ 0 < size ∧ (cellsOf v).all cellLike then (putAt off (cellsOf v) cells).bind fun c => fillV place c rest else none
def placeV (P : Program) (t : TypeId) : Option (Nat → Option (Nat × Nat)) :=
  match P.underlying t with
  | some (.struct fs) => (mapO (fun f => (sizeB P f.type).map fun n => (f.offset, n)) fs.toList).map fun l i => getAt i l
  | some (.array _ e) => (sizeB P e).map fun n i => some (i * n, n)
  | _ => none
def partsV (T : List Val) (ps : Array (Nat × Operand)) : List (Nat × Val) := ps.toList.map fun p => (p.1, ev T p.2)
def repeatV (n : Nat) (z : List Val) : List Val := (List.replicate n z).flatten
def bytesV (s : ByteArray) : List Val := s.data.toList.map fun b => .int .u8 b.toNat
def bytesOf : List Val → Option (List UInt8)
  | [] => some []
  | .int .u8 n :: xs => (bytesOf xs).map (UInt8.ofNat n.toNat :: ·)
  | _ => none
def goodSize (n : Nat) : Bool := n ≤ 35184372088832
end Go.Proofs.YtponkdimnafppaaDoor.VM
