/-
  No cell of these rows narrows 'for every input' (looked for: loops, veiled, ifaces, maps, wideKeys, modest, calm, conditions, laid).
  DERIVED. THE GIVEN ROWS OF THIS SEAT. 9 by the template 'for every input the law returns true; each argument reads behind the call as it read before'; 0 by the template 'total and deterministic' (their statements: YtdhingmjnhhjnaaTotals.lean).
  GIVEN WITH THE SEED: the statements are not yours to turn. If you find one false, say at which input.
  Laid BY PROGRAM, IN A SANDBOX (cutbox-rows.mjs): the forced cells as the released guide's own fill.sh prints them over the translation d6e92793a9a45056… (all of the seat's roots in one cut). By AI agents, Wed Nov 11 2026. No macro, syntax, notation, axiom, sorry.
-/
import Derived.Test.YtdhingmjnhhjnaaChecked
import GoSem.Claim
import GoSem.ClaimJoined
import GoSem.ClaimMapViews
import Derived.JoinedTies
import Derived.KernelRfl
namespace Go.Proofs.Ytdhingmjnhhjnaa
/- THE CELL 'sum', in the pinned program and in every row, IS THE sha256 OF THE DUMP (.gsa) THAT YtdhingmjnhhjnaaProg.lean LOADS. Nothing in Lean hashes anything: it is a label: what it is worth is what the hold of that sum in a sandbox is worth. -/
noncomputable def Try.pinned : Pinned := { name := "ytdhingmjnhhjnaa", sum := "d6e92793a9a45056229c33bf484e836be5f4e6decba814bda2e84e207dc01e53", checked := Try.checked }
namespace Rows
def none {H : Type} : Left H := { results := [], args := [] }

/-- 'hansomlaw35.FloatQuotient': WHATEVER THE INPUT: true; the input reads as it did. -/
def floatQuotientSpec : ChangeSpec := { name := "floatQuotient", fn := fun _ => fun
  | [d1, d2, d3] => { results := [.lit (.bool true)], args := [d1, d2, d3] }
  | _ => none }
def floatQuotientRow : OpenClaim := { program := "ytdhingmjnhhjnaa", sum := "d6e92793a9a45056229c33bf484e836be5f4e6decba814bda2e84e207dc01e53", func := "hansom/hansomlaw35.FloatQuotient", spec := "floatQuotient", inPlace := ["math.Float64bits", "math.Float64frombits"], apart := false }
def FloatQuotientSaid : Prop := floatQuotientRow.holds Try.pinned (OpenSpec.ofChange floatQuotientSpec)

/-- ITS FALSE NEIGHBOUR: 'it returns false'. Refute it at one input. -/
def floatQuotientWrong : ChangeSpec := { name := "floatQuotient", fn := fun _ => fun
  | [d1, d2, d3] => { results := [.lit (.bool false)], args := [d1, d2, d3] }
  | _ => none }
def FloatQuotientWrongFalsely : Prop := floatQuotientRow.holds Try.pinned (OpenSpec.ofChange floatQuotientWrong)

/-- 'hansomlaw35.FloatLess': WHATEVER THE INPUT: true; the input reads as it did. -/
def floatLessSpec : ChangeSpec := { name := "floatLess", fn := fun _ => fun
  | [d1, d2, d3] => { results := [.lit (.bool true)], args := [d1, d2, d3] }
  | _ => none }
def floatLessRow : OpenClaim := { program := "ytdhingmjnhhjnaa", sum := "d6e92793a9a45056229c33bf484e836be5f4e6decba814bda2e84e207dc01e53", func := "hansom/hansomlaw35.FloatLess", spec := "floatLess", inPlace := ["math.Float64bits", "math.Float64frombits"], apart := false }
def FloatLessSaid : Prop := floatLessRow.holds Try.pinned (OpenSpec.ofChange floatLessSpec)

/-- ITS FALSE NEIGHBOUR: 'it returns false'. Refute it at one input. -/
def floatLessWrong : ChangeSpec := { name := "floatLess", fn := fun _ => fun
  | [d1, d2, d3] => { results := [.lit (.bool false)], args := [d1, d2, d3] }
  | _ => none }
def FloatLessWrongFalsely : Prop := floatLessRow.holds Try.pinned (OpenSpec.ofChange floatLessWrong)

/-- 'hansomlaw35.FloatIs': WHATEVER THE INPUT: true; the input reads as it did. -/
def floatIsSpec : ChangeSpec := { name := "floatIs", fn := fun _ => fun
  | [d1, d2] => { results := [.lit (.bool true)], args := [d1, d2] }
  | _ => none }
def floatIsRow : OpenClaim := { program := "ytdhingmjnhhjnaa", sum := "d6e92793a9a45056229c33bf484e836be5f4e6decba814bda2e84e207dc01e53", func := "hansom/hansomlaw35.FloatIs", spec := "floatIs", inPlace := ["math.Float64frombits", "math.Float64bits"], apart := false }
def FloatIsSaid : Prop := floatIsRow.holds Try.pinned (OpenSpec.ofChange floatIsSpec)

/-- ITS FALSE NEIGHBOUR: 'it returns false'. Refute it at one input. -/
def floatIsWrong : ChangeSpec := { name := "floatIs", fn := fun _ => fun
  | [d1, d2] => { results := [.lit (.bool false)], args := [d1, d2] }
  | _ => none }
def FloatIsWrongFalsely : Prop := floatIsRow.holds Try.pinned (OpenSpec.ofChange floatIsWrong)

/-- 'hansomlaw01.BitsBytes': WHATEVER THE INPUT: true; the input reads as it did. -/
def bitsBytesSpec : ChangeSpec := { name := "bitsBytes", fn := fun _ => fun
  | [d1, d2] => { results := [.lit (.bool true)], args := [d1, d2] }
  | _ => none }
def bitsBytesRow : OpenClaim := { program := "ytdhingmjnhhjnaa", sum := "d6e92793a9a45056229c33bf484e836be5f4e6decba814bda2e84e207dc01e53", func := "hansom/hansomlaw01.BitsBytes", spec := "bitsBytes", apart := false }
def BitsBytesSaid : Prop := bitsBytesRow.holds Try.pinned (OpenSpec.ofChange bitsBytesSpec)

/-- ITS FALSE NEIGHBOUR: 'it returns false'. Refute it at one input. -/
def bitsBytesWrong : ChangeSpec := { name := "bitsBytes", fn := fun _ => fun
  | [d1, d2] => { results := [.lit (.bool false)], args := [d1, d2] }
  | _ => none }
def BitsBytesWrongFalsely : Prop := bitsBytesRow.holds Try.pinned (OpenSpec.ofChange bitsBytesWrong)

/-- 'hansomlaw01.BitsPlaces': WHATEVER THE INPUT: true; the input reads as it did. -/
def bitsPlacesSpec : ChangeSpec := { name := "bitsPlaces", fn := fun _ => fun
  | [d1, d2, d3] => { results := [.lit (.bool true)], args := [d1, d2, d3] }
  | _ => none }
def bitsPlacesRow : OpenClaim := { program := "ytdhingmjnhhjnaa", sum := "d6e92793a9a45056229c33bf484e836be5f4e6decba814bda2e84e207dc01e53", func := "hansom/hansomlaw01.BitsPlaces", spec := "bitsPlaces", apart := false }
def BitsPlacesSaid : Prop := bitsPlacesRow.holds Try.pinned (OpenSpec.ofChange bitsPlacesSpec)

/-- ITS FALSE NEIGHBOUR: 'it returns false'. Refute it at one input. -/
def bitsPlacesWrong : ChangeSpec := { name := "bitsPlaces", fn := fun _ => fun
  | [d1, d2, d3] => { results := [.lit (.bool false)], args := [d1, d2, d3] }
  | _ => none }
def BitsPlacesWrongFalsely : Prop := bitsPlacesRow.holds Try.pinned (OpenSpec.ofChange bitsPlacesWrong)

/-- 'hansomlaw01.BitsSteps': WHATEVER THE INPUT: true; the input reads as it did. -/
def bitsStepsSpec : ChangeSpec := { name := "bitsSteps", fn := fun _ => fun
  | [d1, d2, d3] => { results := [.lit (.bool true)], args := [d1, d2, d3] }
  | _ => none }
def bitsStepsRow : OpenClaim := { program := "ytdhingmjnhhjnaa", sum := "d6e92793a9a45056229c33bf484e836be5f4e6decba814bda2e84e207dc01e53", func := "hansom/hansomlaw01.BitsSteps", spec := "bitsSteps", apart := false }
def BitsStepsSaid : Prop := bitsStepsRow.holds Try.pinned (OpenSpec.ofChange bitsStepsSpec)

/-- ITS FALSE NEIGHBOUR: 'it returns false'. Refute it at one input. -/
def bitsStepsWrong : ChangeSpec := { name := "bitsSteps", fn := fun _ => fun
  | [d1, d2, d3] => { results := [.lit (.bool false)], args := [d1, d2, d3] }
  | _ => none }
def BitsStepsWrongFalsely : Prop := bitsStepsRow.holds Try.pinned (OpenSpec.ofChange bitsStepsWrong)

/-- 'hansomlaw18.RecPuts': WHATEVER THE INPUT: true; the input reads as it did. -/
def recPutsSpec : ChangeSpec := { name := "recPuts", fn := fun _ => fun
  | [d1, d2, d3] => { results := [.lit (.bool true)], args := [d1, d2, d3] }
  | _ => none }
def recPutsRow : OpenClaim := { program := "ytdhingmjnhhjnaa", sum := "d6e92793a9a45056229c33bf484e836be5f4e6decba814bda2e84e207dc01e53", func := "hansom/hansomlaw18.RecPuts", spec := "recPuts", apart := false }
def RecPutsSaid : Prop := recPutsRow.holds Try.pinned (OpenSpec.ofChange recPutsSpec)

/-- ITS FALSE NEIGHBOUR: 'it returns false'. Refute it at one input. -/
def recPutsWrong : ChangeSpec := { name := "recPuts", fn := fun _ => fun
  | [d1, d2, d3] => { results := [.lit (.bool false)], args := [d1, d2, d3] }
  | _ => none }
def RecPutsWrongFalsely : Prop := recPutsRow.holds Try.pinned (OpenSpec.ofChange recPutsWrong)

/-- 'hansomlaw18.RecSums': WHATEVER THE INPUT: true; the input reads as it did. -/
def recSumsSpec : ChangeSpec := { name := "recSums", fn := fun _ => fun
  | [d1, d2, d3] => { results := [.lit (.bool true)], args := [d1, d2, d3] }
  | _ => none }
def recSumsRow : OpenClaim := { program := "ytdhingmjnhhjnaa", sum := "d6e92793a9a45056229c33bf484e836be5f4e6decba814bda2e84e207dc01e53", func := "hansom/hansomlaw18.RecSums", spec := "recSums", apart := false }
def RecSumsSaid : Prop := recSumsRow.holds Try.pinned (OpenSpec.ofChange recSumsSpec)

/-- ITS FALSE NEIGHBOUR: 'it returns false'. Refute it at one input. -/
def recSumsWrong : ChangeSpec := { name := "recSums", fn := fun _ => fun
  | [d1, d2, d3] => { results := [.lit (.bool false)], args := [d1, d2, d3] }
  | _ => none }
def RecSumsWrongFalsely : Prop := recSumsRow.holds Try.pinned (OpenSpec.ofChange recSumsWrong)

/-- 'hansomlaw18.RecAll': WHATEVER THE INPUT: true; the input reads as it did. -/
def recAllSpec : ChangeSpec := { name := "recAll", fn := fun _ => fun
  | [d1, d2] => { results := [.lit (.bool true)], args := [d1, d2] }
  | _ => none }
def recAllRow : OpenClaim := { program := "ytdhingmjnhhjnaa", sum := "d6e92793a9a45056229c33bf484e836be5f4e6decba814bda2e84e207dc01e53", func := "hansom/hansomlaw18.RecAll", spec := "recAll", apart := false }
def RecAllSaid : Prop := recAllRow.holds Try.pinned (OpenSpec.ofChange recAllSpec)

/-- ITS FALSE NEIGHBOUR: 'it returns false'. Refute it at one input. -/
def recAllWrong : ChangeSpec := { name := "recAll", fn := fun _ => fun
  | [d1, d2] => { results := [.lit (.bool false)], args := [d1, d2] }
  | _ => none }
def RecAllWrongFalsely : Prop := recAllRow.holds Try.pinned (OpenSpec.ofChange recAllWrong)

/- THE SECOND FORM. 'bulk': how many values and letters a reading holds, each counted each time it is reached (what is shared counts as often as it is met; a slice's spare places count too). A statement '..UptoSaid' is the law's where the arguments, and the package variables that the reading takes, are together of bulk at most 1048576: NARROWER than '..Said'. Prove '..Said' where nothing that the law and all that it calls make is longer than what came in: it says more and counts as full. Else prove '..UptoSaid'. A law counts once. -/
mutual
def uptoBulk {H : Type} : DataW H → Nat
  | .lit (.string bytes) => bytes.length + 1
  | .lit _ => 1
  | .nil => 1
  | .ptr d => uptoBulk d + 1
  | .slice elems spare => uptoBulkAll elems + uptoBulkAll spare + 1
  | .agg parts => uptoBulkAll parts + 1
  | .iface _ d => uptoBulk d + 1
  | .map entries => uptoBulkEntries entries + 1
  | .held _ => 1
def uptoBulkAll {H : Type} : List (DataW H) → Nat
  | [] => 0
  | d :: r => uptoBulk d + uptoBulkAll r
def uptoBulkEntries {H : Type} : List (Lit × DataW H) → Nat
  | [] => 0
  | x :: r => uptoBulkEntry x + uptoBulkEntries r
def uptoBulkEntry {H : Type} : Lit × DataW H → Nat
  | (.string bytes, d) => bytes.length + uptoBulk d + 1
  | (_, d) => uptoBulk d + 1
 end
def uptoSmall : (H : Type) → List (DataW H) → Bool := fun _ ds => decide (uptoBulkAll ds ≤ 1048576)
def OpenSpec.upto (s : _root_.Go.ChangeSpec) : _root_.Go.OpenSpec := { _root_.Go.OpenSpec.ofChange s with cond := some uptoSmall }

/-- 'hansomlaw35.FloatQuotient', WHERE WHAT IT READS IS OF BULK AT MOST 1048576: true; the input reads as it did. -/
def floatQuotientUptoRow : OpenClaim := { program := "ytdhingmjnhhjnaa", sum := "d6e92793a9a45056229c33bf484e836be5f4e6decba814bda2e84e207dc01e53", func := "hansom/hansomlaw35.FloatQuotient", spec := "floatQuotient", inPlace := ["math.Float64bits", "math.Float64frombits"], apart := false, narrowed := true }
def FloatQuotientUptoSaid : Prop := floatQuotientUptoRow.holds Try.pinned (OpenSpec.upto floatQuotientSpec)

/-- 'hansomlaw35.FloatLess', WHERE WHAT IT READS IS OF BULK AT MOST 1048576: true; the input reads as it did. -/
def floatLessUptoRow : OpenClaim := { program := "ytdhingmjnhhjnaa", sum := "d6e92793a9a45056229c33bf484e836be5f4e6decba814bda2e84e207dc01e53", func := "hansom/hansomlaw35.FloatLess", spec := "floatLess", inPlace := ["math.Float64bits", "math.Float64frombits"], apart := false, narrowed := true }
def FloatLessUptoSaid : Prop := floatLessUptoRow.holds Try.pinned (OpenSpec.upto floatLessSpec)

/-- 'hansomlaw35.FloatIs', WHERE WHAT IT READS IS OF BULK AT MOST 1048576: true; the input reads as it did. -/
def floatIsUptoRow : OpenClaim := { program := "ytdhingmjnhhjnaa", sum := "d6e92793a9a45056229c33bf484e836be5f4e6decba814bda2e84e207dc01e53", func := "hansom/hansomlaw35.FloatIs", spec := "floatIs", inPlace := ["math.Float64frombits", "math.Float64bits"], apart := false, narrowed := true }
def FloatIsUptoSaid : Prop := floatIsUptoRow.holds Try.pinned (OpenSpec.upto floatIsSpec)

/-- 'hansomlaw01.BitsBytes', WHERE WHAT IT READS IS OF BULK AT MOST 1048576: true; the input reads as it did. -/
def bitsBytesUptoRow : OpenClaim := { program := "ytdhingmjnhhjnaa", sum := "d6e92793a9a45056229c33bf484e836be5f4e6decba814bda2e84e207dc01e53", func := "hansom/hansomlaw01.BitsBytes", spec := "bitsBytes", apart := false, narrowed := true }
def BitsBytesUptoSaid : Prop := bitsBytesUptoRow.holds Try.pinned (OpenSpec.upto bitsBytesSpec)

/-- 'hansomlaw01.BitsPlaces', WHERE WHAT IT READS IS OF BULK AT MOST 1048576: true; the input reads as it did. -/
def bitsPlacesUptoRow : OpenClaim := { program := "ytdhingmjnhhjnaa", sum := "d6e92793a9a45056229c33bf484e836be5f4e6decba814bda2e84e207dc01e53", func := "hansom/hansomlaw01.BitsPlaces", spec := "bitsPlaces", apart := false, narrowed := true }
def BitsPlacesUptoSaid : Prop := bitsPlacesUptoRow.holds Try.pinned (OpenSpec.upto bitsPlacesSpec)

/-- 'hansomlaw01.BitsSteps', WHERE WHAT IT READS IS OF BULK AT MOST 1048576: true; the input reads as it did. -/
def bitsStepsUptoRow : OpenClaim := { program := "ytdhingmjnhhjnaa", sum := "d6e92793a9a45056229c33bf484e836be5f4e6decba814bda2e84e207dc01e53", func := "hansom/hansomlaw01.BitsSteps", spec := "bitsSteps", apart := false, narrowed := true }
def BitsStepsUptoSaid : Prop := bitsStepsUptoRow.holds Try.pinned (OpenSpec.upto bitsStepsSpec)

/-- 'hansomlaw18.RecPuts', WHERE WHAT IT READS IS OF BULK AT MOST 1048576: true; the input reads as it did. -/
def recPutsUptoRow : OpenClaim := { program := "ytdhingmjnhhjnaa", sum := "d6e92793a9a45056229c33bf484e836be5f4e6decba814bda2e84e207dc01e53", func := "hansom/hansomlaw18.RecPuts", spec := "recPuts", apart := false, narrowed := true }
def RecPutsUptoSaid : Prop := recPutsUptoRow.holds Try.pinned (OpenSpec.upto recPutsSpec)

/-- 'hansomlaw18.RecSums', WHERE WHAT IT READS IS OF BULK AT MOST 1048576: true; the input reads as it did. -/
def recSumsUptoRow : OpenClaim := { program := "ytdhingmjnhhjnaa", sum := "d6e92793a9a45056229c33bf484e836be5f4e6decba814bda2e84e207dc01e53", func := "hansom/hansomlaw18.RecSums", spec := "recSums", apart := false, narrowed := true }
def RecSumsUptoSaid : Prop := recSumsUptoRow.holds Try.pinned (OpenSpec.upto recSumsSpec)

/-- 'hansomlaw18.RecAll', WHERE WHAT IT READS IS OF BULK AT MOST 1048576: true; the input reads as it did. -/
def recAllUptoRow : OpenClaim := { program := "ytdhingmjnhhjnaa", sum := "d6e92793a9a45056229c33bf484e836be5f4e6decba814bda2e84e207dc01e53", func := "hansom/hansomlaw18.RecAll", spec := "recAll", apart := false, narrowed := true }
def RecAllUptoSaid : Prop := recAllUptoRow.holds Try.pinned (OpenSpec.upto recAllSpec)

end Rows
end Go.Proofs.Ytdhingmjnhhjnaa
