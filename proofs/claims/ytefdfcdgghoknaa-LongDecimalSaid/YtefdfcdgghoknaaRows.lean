/-
  No cell of these rows narrows 'for every input' (looked for: loops, veiled, ifaces, maps, wideKeys, modest, calm, conditions, laid).
  DERIVED. THE GIVEN ROWS OF THIS SEAT. 10 by the template 'for every input the law returns true; each argument reads behind the call as it read before'; 0 by the template 'total and deterministic' (their statements: YtefdfcdgghoknaaTotals.lean).
  GIVEN WITH THE SEED: the statements are not yours to turn. If you find one false, say at which input.
  Laid BY PROGRAM, IN A SANDBOX (cutbox-rows.mjs): the forced cells as the released guide's own fill.sh prints them over the translation 9f6046515f0fd407… (all of the seat's roots in one cut). By AI agents, Wed Nov 11 2026. No macro, syntax, notation, axiom, sorry.
-/
import Derived.Test.YtefdfcdgghoknaaChecked
import GoSem.Claim
import GoSem.ClaimJoined
import GoSem.ClaimMapViews
import Derived.JoinedTies
import Derived.KernelRfl
namespace Go.Proofs.Ytefdfcdgghoknaa
/- THE CELL 'sum', in the pinned program and in every row, IS THE sha256 OF THE DUMP (.gsa) THAT YtefdfcdgghoknaaProg.lean LOADS. Nothing in Lean hashes anything: it is a label: what it is worth is what the hold of that sum in a sandbox is worth. -/
noncomputable def Try.pinned : Pinned := { name := "ytefdfcdgghoknaa", sum := "9f6046515f0fd4077078322b7de9c2bbb3826614e7a0b5efed95fff1ccb8ce06", checked := Try.checked }
namespace Rows
def none {H : Type} : Left H := { results := [], args := [] }

/-- 'hansomlaw10.LongDiv': WHATEVER THE INPUT: true; the input reads as it did. -/
def longDivSpec : ChangeSpec := { name := "longDiv", fn := fun _ => fun
  | [d1, d2] => { results := [.lit (.bool true)], args := [d1, d2] }
  | _ => none }
def longDivRow : OpenClaim := { program := "ytefdfcdgghoknaa", sum := "9f6046515f0fd4077078322b7de9c2bbb3826614e7a0b5efed95fff1ccb8ce06", func := "hansom/hansomlaw10.LongDiv", spec := "longDiv", apart := false }
def LongDivSaid : Prop := longDivRow.holds Try.pinned (OpenSpec.ofChange longDivSpec)

/-- ITS FALSE NEIGHBOUR: 'it returns false'. Refute it at one input. -/
def longDivWrong : ChangeSpec := { name := "longDiv", fn := fun _ => fun
  | [d1, d2] => { results := [.lit (.bool false)], args := [d1, d2] }
  | _ => none }
def LongDivWrongFalsely : Prop := longDivRow.holds Try.pinned (OpenSpec.ofChange longDivWrong)

/-- 'hansomlaw10.LongMul': WHATEVER THE INPUT: true; the input reads as it did. -/
def longMulSpec : ChangeSpec := { name := "longMul", fn := fun _ => fun
  | [d1, d2, d3] => { results := [.lit (.bool true)], args := [d1, d2, d3] }
  | _ => none }
def longMulRow : OpenClaim := { program := "ytefdfcdgghoknaa", sum := "9f6046515f0fd4077078322b7de9c2bbb3826614e7a0b5efed95fff1ccb8ce06", func := "hansom/hansomlaw10.LongMul", spec := "longMul", apart := false }
def LongMulSaid : Prop := longMulRow.holds Try.pinned (OpenSpec.ofChange longMulSpec)

/-- ITS FALSE NEIGHBOUR: 'it returns false'. Refute it at one input. -/
def longMulWrong : ChangeSpec := { name := "longMul", fn := fun _ => fun
  | [d1, d2, d3] => { results := [.lit (.bool false)], args := [d1, d2, d3] }
  | _ => none }
def LongMulWrongFalsely : Prop := longMulRow.holds Try.pinned (OpenSpec.ofChange longMulWrong)

/-- 'hansomlaw10.LongDecimal': WHATEVER THE INPUT: true; the input reads as it did. -/
def longDecimalSpec : ChangeSpec := { name := "longDecimal", fn := fun _ => fun
  | [d1, d2, d3] => { results := [.lit (.bool true)], args := [d1, d2, d3] }
  | _ => none }
def longDecimalRow : OpenClaim := { program := "ytefdfcdgghoknaa", sum := "9f6046515f0fd4077078322b7de9c2bbb3826614e7a0b5efed95fff1ccb8ce06", func := "hansom/hansomlaw10.LongDecimal", spec := "longDecimal", apart := false }
def LongDecimalSaid : Prop := longDecimalRow.holds Try.pinned (OpenSpec.ofChange longDecimalSpec)

/-- ITS FALSE NEIGHBOUR: 'it returns false'. Refute it at one input. -/
def longDecimalWrong : ChangeSpec := { name := "longDecimal", fn := fun _ => fun
  | [d1, d2, d3] => { results := [.lit (.bool false)], args := [d1, d2, d3] }
  | _ => none }
def LongDecimalWrongFalsely : Prop := longDecimalRow.holds Try.pinned (OpenSpec.ofChange longDecimalWrong)

/-- 'hansomlaw10.LongDigits': WHATEVER THE INPUT: true; the input reads as it did. -/
def longDigitsSpec : ChangeSpec := { name := "longDigits", fn := fun _ => fun
  | [d1, d2] => { results := [.lit (.bool true)], args := [d1, d2] }
  | _ => none }
def longDigitsRow : OpenClaim := { program := "ytefdfcdgghoknaa", sum := "9f6046515f0fd4077078322b7de9c2bbb3826614e7a0b5efed95fff1ccb8ce06", func := "hansom/hansomlaw10.LongDigits", spec := "longDigits", apart := false }
def LongDigitsSaid : Prop := longDigitsRow.holds Try.pinned (OpenSpec.ofChange longDigitsSpec)

/-- ITS FALSE NEIGHBOUR: 'it returns false'. Refute it at one input. -/
def longDigitsWrong : ChangeSpec := { name := "longDigits", fn := fun _ => fun
  | [d1, d2] => { results := [.lit (.bool false)], args := [d1, d2] }
  | _ => none }
def LongDigitsWrongFalsely : Prop := longDigitsRow.holds Try.pinned (OpenSpec.ofChange longDigitsWrong)

/-- 'hansomlaw08.AluDoes': WHATEVER THE INPUT: true; the input reads as it did. -/
def aluDoesSpec : ChangeSpec := { name := "aluDoes", fn := fun _ => fun
  | [d1, d2, d3] => { results := [.lit (.bool true)], args := [d1, d2, d3] }
  | _ => none }
def aluDoesRow : OpenClaim := { program := "ytefdfcdgghoknaa", sum := "9f6046515f0fd4077078322b7de9c2bbb3826614e7a0b5efed95fff1ccb8ce06", func := "hansom/hansomlaw08.AluDoes", spec := "aluDoes", apart := false }
def AluDoesSaid : Prop := aluDoesRow.holds Try.pinned (OpenSpec.ofChange aluDoesSpec)

/-- ITS FALSE NEIGHBOUR: 'it returns false'. Refute it at one input. -/
def aluDoesWrong : ChangeSpec := { name := "aluDoes", fn := fun _ => fun
  | [d1, d2, d3] => { results := [.lit (.bool false)], args := [d1, d2, d3] }
  | _ => none }
def AluDoesWrongFalsely : Prop := aluDoesRow.holds Try.pinned (OpenSpec.ofChange aluDoesWrong)

/-- 'hansomlaw08.AluOne': WHATEVER THE INPUT: true; the input reads as it did. -/
def aluOneSpec : ChangeSpec := { name := "aluOne", fn := fun _ => fun
  | [d1, d2, d3] => { results := [.lit (.bool true)], args := [d1, d2, d3] }
  | _ => none }
def aluOneRow : OpenClaim := { program := "ytefdfcdgghoknaa", sum := "9f6046515f0fd4077078322b7de9c2bbb3826614e7a0b5efed95fff1ccb8ce06", func := "hansom/hansomlaw08.AluOne", spec := "aluOne", apart := false }
def AluOneSaid : Prop := aluOneRow.holds Try.pinned (OpenSpec.ofChange aluOneSpec)

/-- ITS FALSE NEIGHBOUR: 'it returns false'. Refute it at one input. -/
def aluOneWrong : ChangeSpec := { name := "aluOne", fn := fun _ => fun
  | [d1, d2, d3] => { results := [.lit (.bool false)], args := [d1, d2, d3] }
  | _ => none }
def AluOneWrongFalsely : Prop := aluOneRow.holds Try.pinned (OpenSpec.ofChange aluOneWrong)

/-- 'hansomlaw08.AluBack': WHATEVER THE INPUT: true; the input reads as it did. -/
def aluBackSpec : ChangeSpec := { name := "aluBack", fn := fun _ => fun
  | [d1, d2, d3] => { results := [.lit (.bool true)], args := [d1, d2, d3] }
  | _ => none }
def aluBackRow : OpenClaim := { program := "ytefdfcdgghoknaa", sum := "9f6046515f0fd4077078322b7de9c2bbb3826614e7a0b5efed95fff1ccb8ce06", func := "hansom/hansomlaw08.AluBack", spec := "aluBack", apart := false }
def AluBackSaid : Prop := aluBackRow.holds Try.pinned (OpenSpec.ofChange aluBackSpec)

/-- ITS FALSE NEIGHBOUR: 'it returns false'. Refute it at one input. -/
def aluBackWrong : ChangeSpec := { name := "aluBack", fn := fun _ => fun
  | [d1, d2, d3] => { results := [.lit (.bool false)], args := [d1, d2, d3] }
  | _ => none }
def AluBackWrongFalsely : Prop := aluBackRow.holds Try.pinned (OpenSpec.ofChange aluBackWrong)

/-- 'hansomlaw09.ShiftDoes': WHATEVER THE INPUT: true; the input reads as it did. -/
def shiftDoesSpec : ChangeSpec := { name := "shiftDoes", fn := fun _ => fun
  | [d1, d2] => { results := [.lit (.bool true)], args := [d1, d2] }
  | _ => none }
def shiftDoesRow : OpenClaim := { program := "ytefdfcdgghoknaa", sum := "9f6046515f0fd4077078322b7de9c2bbb3826614e7a0b5efed95fff1ccb8ce06", func := "hansom/hansomlaw09.ShiftDoes", spec := "shiftDoes", apart := false }
def ShiftDoesSaid : Prop := shiftDoesRow.holds Try.pinned (OpenSpec.ofChange shiftDoesSpec)

/-- ITS FALSE NEIGHBOUR: 'it returns false'. Refute it at one input. -/
def shiftDoesWrong : ChangeSpec := { name := "shiftDoes", fn := fun _ => fun
  | [d1, d2] => { results := [.lit (.bool false)], args := [d1, d2] }
  | _ => none }
def ShiftDoesWrongFalsely : Prop := shiftDoesRow.holds Try.pinned (OpenSpec.ofChange shiftDoesWrong)

/-- 'hansomlaw09.ShiftTurns': WHATEVER THE INPUT: true; the input reads as it did. -/
def shiftTurnsSpec : ChangeSpec := { name := "shiftTurns", fn := fun _ => fun
  | [d1, d2, d3] => { results := [.lit (.bool true)], args := [d1, d2, d3] }
  | _ => none }
def shiftTurnsRow : OpenClaim := { program := "ytefdfcdgghoknaa", sum := "9f6046515f0fd4077078322b7de9c2bbb3826614e7a0b5efed95fff1ccb8ce06", func := "hansom/hansomlaw09.ShiftTurns", spec := "shiftTurns", apart := false }
def ShiftTurnsSaid : Prop := shiftTurnsRow.holds Try.pinned (OpenSpec.ofChange shiftTurnsSpec)

/-- ITS FALSE NEIGHBOUR: 'it returns false'. Refute it at one input. -/
def shiftTurnsWrong : ChangeSpec := { name := "shiftTurns", fn := fun _ => fun
  | [d1, d2, d3] => { results := [.lit (.bool false)], args := [d1, d2, d3] }
  | _ => none }
def ShiftTurnsWrongFalsely : Prop := shiftTurnsRow.holds Try.pinned (OpenSpec.ofChange shiftTurnsWrong)

/-- 'hansomlaw09.ShiftOne': WHATEVER THE INPUT: true; the input reads as it did. -/
def shiftOneSpec : ChangeSpec := { name := "shiftOne", fn := fun _ => fun
  | [d1, d2] => { results := [.lit (.bool true)], args := [d1, d2] }
  | _ => none }
def shiftOneRow : OpenClaim := { program := "ytefdfcdgghoknaa", sum := "9f6046515f0fd4077078322b7de9c2bbb3826614e7a0b5efed95fff1ccb8ce06", func := "hansom/hansomlaw09.ShiftOne", spec := "shiftOne", apart := false }
def ShiftOneSaid : Prop := shiftOneRow.holds Try.pinned (OpenSpec.ofChange shiftOneSpec)

/-- ITS FALSE NEIGHBOUR: 'it returns false'. Refute it at one input. -/
def shiftOneWrong : ChangeSpec := { name := "shiftOne", fn := fun _ => fun
  | [d1, d2] => { results := [.lit (.bool false)], args := [d1, d2] }
  | _ => none }
def ShiftOneWrongFalsely : Prop := shiftOneRow.holds Try.pinned (OpenSpec.ofChange shiftOneWrong)

/- THE SECOND FORM. 'bulk': how many values and letters a reading holds, each counted each time it is reached (what is shared counts as often as it is met; a slice's spare places count too). A statement '..UptoSaid' is the law's where the arguments, and the package variables that the reading takes, are together of bulk at most 1048576: NARROWER than '..Said'. Prove '..Said' where nothing that the law and all that it calls make is longer than what came in: it says more and counts as full. Else prove '..UptoSaid'. A law counts once. -/
mutual
def uptoBulk {H : Type} : DataW H → Nat
  | .lit (.string bytes) => bytes.length + 1
  | .lit _ => 1
  | .nil => 1
  | .ptr d => uptoBulk d + 1
  | .slice elems spare => uptoBulkAll elems + uptoBulkAll spare + 1
  | .agg parts => uptoBulkAll parts + 1
  | .iface _ d => uptoBulk d + 1
  | .map entries => uptoBulkEntries entries + 1
  | .held _ => 1
def uptoBulkAll {H : Type} : List (DataW H) → Nat
  | [] => 0
  | d :: r => uptoBulk d + uptoBulkAll r
def uptoBulkEntries {H : Type} : List (Lit × DataW H) → Nat
  | [] => 0
  | x :: r => uptoBulkEntry x + uptoBulkEntries r
def uptoBulkEntry {H : Type} : Lit × DataW H → Nat
  | (.string bytes, d) => bytes.length + uptoBulk d + 1
  | (_, d) => uptoBulk d + 1
 end
def uptoSmall : (H : Type) → List (DataW H) → Bool := fun _ ds => decide (uptoBulkAll ds ≤ 1048576)
def OpenSpec.upto (s : _root_.Go.ChangeSpec) : _root_.Go.OpenSpec := { _root_.Go.OpenSpec.ofChange s with cond := some uptoSmall }

/-- 'hansomlaw10.LongDiv', WHERE WHAT IT READS IS OF BULK AT MOST 1048576: true; the input reads as it did. -/
def longDivUptoRow : OpenClaim := { program := "ytefdfcdgghoknaa", sum := "9f6046515f0fd4077078322b7de9c2bbb3826614e7a0b5efed95fff1ccb8ce06", func := "hansom/hansomlaw10.LongDiv", spec := "longDiv", apart := false, narrowed := true }
def LongDivUptoSaid : Prop := longDivUptoRow.holds Try.pinned (OpenSpec.upto longDivSpec)

/-- 'hansomlaw10.LongMul', WHERE WHAT IT READS IS OF BULK AT MOST 1048576: true; the input reads as it did. -/
def longMulUptoRow : OpenClaim := { program := "ytefdfcdgghoknaa", sum := "9f6046515f0fd4077078322b7de9c2bbb3826614e7a0b5efed95fff1ccb8ce06", func := "hansom/hansomlaw10.LongMul", spec := "longMul", apart := false, narrowed := true }
def LongMulUptoSaid : Prop := longMulUptoRow.holds Try.pinned (OpenSpec.upto longMulSpec)

/-- 'hansomlaw10.LongDecimal', WHERE WHAT IT READS IS OF BULK AT MOST 1048576: true; the input reads as it did. -/
def longDecimalUptoRow : OpenClaim := { program := "ytefdfcdgghoknaa", sum := "9f6046515f0fd4077078322b7de9c2bbb3826614e7a0b5efed95fff1ccb8ce06", func := "hansom/hansomlaw10.LongDecimal", spec := "longDecimal", apart := false, narrowed := true }
def LongDecimalUptoSaid : Prop := longDecimalUptoRow.holds Try.pinned (OpenSpec.upto longDecimalSpec)

/-- 'hansomlaw10.LongDigits', WHERE WHAT IT READS IS OF BULK AT MOST 1048576: true; the input reads as it did. -/
def longDigitsUptoRow : OpenClaim := { program := "ytefdfcdgghoknaa", sum := "9f6046515f0fd4077078322b7de9c2bbb3826614e7a0b5efed95fff1ccb8ce06", func := "hansom/hansomlaw10.LongDigits", spec := "longDigits", apart := false, narrowed := true }
def LongDigitsUptoSaid : Prop := longDigitsUptoRow.holds Try.pinned (OpenSpec.upto longDigitsSpec)

/-- 'hansomlaw08.AluDoes', WHERE WHAT IT READS IS OF BULK AT MOST 1048576: true; the input reads as it did. -/
def aluDoesUptoRow : OpenClaim := { program := "ytefdfcdgghoknaa", sum := "9f6046515f0fd4077078322b7de9c2bbb3826614e7a0b5efed95fff1ccb8ce06", func := "hansom/hansomlaw08.AluDoes", spec := "aluDoes", apart := false, narrowed := true }
def AluDoesUptoSaid : Prop := aluDoesUptoRow.holds Try.pinned (OpenSpec.upto aluDoesSpec)

/-- 'hansomlaw08.AluOne', WHERE WHAT IT READS IS OF BULK AT MOST 1048576: true; the input reads as it did. -/
def aluOneUptoRow : OpenClaim := { program := "ytefdfcdgghoknaa", sum := "9f6046515f0fd4077078322b7de9c2bbb3826614e7a0b5efed95fff1ccb8ce06", func := "hansom/hansomlaw08.AluOne", spec := "aluOne", apart := false, narrowed := true }
def AluOneUptoSaid : Prop := aluOneUptoRow.holds Try.pinned (OpenSpec.upto aluOneSpec)

/-- 'hansomlaw08.AluBack', WHERE WHAT IT READS IS OF BULK AT MOST 1048576: true; the input reads as it did. -/
def aluBackUptoRow : OpenClaim := { program := "ytefdfcdgghoknaa", sum := "9f6046515f0fd4077078322b7de9c2bbb3826614e7a0b5efed95fff1ccb8ce06", func := "hansom/hansomlaw08.AluBack", spec := "aluBack", apart := false, narrowed := true }
def AluBackUptoSaid : Prop := aluBackUptoRow.holds Try.pinned (OpenSpec.upto aluBackSpec)

/-- 'hansomlaw09.ShiftDoes', WHERE WHAT IT READS IS OF BULK AT MOST 1048576: true; the input reads as it did. -/
def shiftDoesUptoRow : OpenClaim := { program := "ytefdfcdgghoknaa", sum := "9f6046515f0fd4077078322b7de9c2bbb3826614e7a0b5efed95fff1ccb8ce06", func := "hansom/hansomlaw09.ShiftDoes", spec := "shiftDoes", apart := false, narrowed := true }
def ShiftDoesUptoSaid : Prop := shiftDoesUptoRow.holds Try.pinned (OpenSpec.upto shiftDoesSpec)

/-- 'hansomlaw09.ShiftTurns', WHERE WHAT IT READS IS OF BULK AT MOST 1048576: true; the input reads as it did. -/
def shiftTurnsUptoRow : OpenClaim := { program := "ytefdfcdgghoknaa", sum := "9f6046515f0fd4077078322b7de9c2bbb3826614e7a0b5efed95fff1ccb8ce06", func := "hansom/hansomlaw09.ShiftTurns", spec := "shiftTurns", apart := false, narrowed := true }
def ShiftTurnsUptoSaid : Prop := shiftTurnsUptoRow.holds Try.pinned (OpenSpec.upto shiftTurnsSpec)

/-- 'hansomlaw09.ShiftOne', WHERE WHAT IT READS IS OF BULK AT MOST 1048576: true; the input reads as it did. -/
def shiftOneUptoRow : OpenClaim := { program := "ytefdfcdgghoknaa", sum := "9f6046515f0fd4077078322b7de9c2bbb3826614e7a0b5efed95fff1ccb8ce06", func := "hansom/hansomlaw09.ShiftOne", spec := "shiftOne", apart := false, narrowed := true }
def ShiftOneUptoSaid : Prop := shiftOneUptoRow.holds Try.pinned (OpenSpec.upto shiftOneSpec)

end Rows
end Go.Proofs.Ytefdfcdgghoknaa
