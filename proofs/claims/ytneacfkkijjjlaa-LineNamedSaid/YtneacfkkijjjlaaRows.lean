/-
  No cell of these rows narrows 'for every input' (looked for: loops, veiled, ifaces, maps, wideKeys, modest, calm, conditions, laid).
  DERIVED. THE GIVEN ROWS OF THIS SEAT. 3 by the template 'for every input the law returns true; each argument reads behind the call as it read before'; 0 by the template 'total and deterministic' (their statements: YtneacfkkijjjlaaTotals.lean).
  GIVEN WITH THE SEED: the statements are not yours to turn. If you find one false, say at which input.
  Laid BY PROGRAM, IN A SANDBOX (cutbox-rows.mjs): the forced cells as the released guide's own fill.sh prints them over the translation 6e58a6de45866139… (all of the seat's roots in one cut). By AI agents, Wed Nov 11 2026. No macro, syntax, notation, axiom, sorry.
-/
import Derived.Test.YtneacfkkijjjlaaChecked
import GoSem.Claim
import GoSem.ClaimJoined
import GoSem.ClaimMapViews
import Derived.JoinedTies
import Derived.KernelRfl
namespace Go.Proofs.Ytneacfkkijjjlaa
/- THE CELL 'sum', in the pinned program and in every row, IS THE sha256 OF THE DUMP (.gsa) THAT YtneacfkkijjjlaaProg.lean LOADS. Nothing in Lean hashes anything: it is a label: what it is worth is what the hold of that sum in a sandbox is worth. -/
noncomputable def Try.pinned : Pinned := { name := "ytneacfkkijjjlaa", sum := "6e58a6de4586613961fa41f84330993f04da9a7b225fdfe6a777c9b6d5a29a50", checked := Try.checked }
namespace Rows
def none {H : Type} : Left H := { results := [], args := [] }

/-- 'hansomlaw31.LineParts': WHATEVER THE INPUT: true; the input reads as it did. -/
def linePartsSpec : ChangeSpec := { name := "lineParts", fn := fun _ => fun
  | [d1, d2] => { results := [.lit (.bool true)], args := [d1, d2] }
  | _ => none }
def linePartsRow : OpenClaim := { program := "ytneacfkkijjjlaa", sum := "6e58a6de4586613961fa41f84330993f04da9a7b225fdfe6a777c9b6d5a29a50", func := "hansom/hansomlaw31.LineParts", spec := "lineParts", inPlace := ["internal/bytealg.IndexByteString"], apart := false }
def LinePartsSaid : Prop := linePartsRow.holds Try.pinned (OpenSpec.ofChange linePartsSpec)

/-- ITS FALSE NEIGHBOUR: 'it returns false'. Refute it at one input. -/
def linePartsWrong : ChangeSpec := { name := "lineParts", fn := fun _ => fun
  | [d1, d2] => { results := [.lit (.bool false)], args := [d1, d2] }
  | _ => none }
def LinePartsWrongFalsely : Prop := linePartsRow.holds Try.pinned (OpenSpec.ofChange linePartsWrong)

/-- 'hansomlaw31.LineNamed': WHATEVER THE INPUT: true; the input reads as it did. -/
def lineNamedSpec : ChangeSpec := { name := "lineNamed", fn := fun _ => fun
  | [d1, d2] => { results := [.lit (.bool true)], args := [d1, d2] }
  | _ => none }
def lineNamedRow : OpenClaim := { program := "ytneacfkkijjjlaa", sum := "6e58a6de4586613961fa41f84330993f04da9a7b225fdfe6a777c9b6d5a29a50", func := "hansom/hansomlaw31.LineNamed", spec := "lineNamed", inPlace := ["internal/bytealg.IndexByteString"], apart := false }
def LineNamedSaid : Prop := lineNamedRow.holds Try.pinned (OpenSpec.ofChange lineNamedSpec)

/-- ITS FALSE NEIGHBOUR: 'it returns false'. Refute it at one input. -/
def lineNamedWrong : ChangeSpec := { name := "lineNamed", fn := fun _ => fun
  | [d1, d2] => { results := [.lit (.bool false)], args := [d1, d2] }
  | _ => none }
def LineNamedWrongFalsely : Prop := lineNamedRow.holds Try.pinned (OpenSpec.ofChange lineNamedWrong)

/-- 'hansomlaw31.LineAny': WHATEVER THE INPUT: true; the input reads as it did. -/
def lineAnySpec : ChangeSpec := { name := "lineAny", fn := fun _ => fun
  | [d1, d2] => { results := [.lit (.bool true)], args := [d1, d2] }
  | _ => none }
def lineAnyRow : OpenClaim := { program := "ytneacfkkijjjlaa", sum := "6e58a6de4586613961fa41f84330993f04da9a7b225fdfe6a777c9b6d5a29a50", func := "hansom/hansomlaw31.LineAny", spec := "lineAny", inPlace := ["internal/bytealg.IndexByteString"], apart := false }
def LineAnySaid : Prop := lineAnyRow.holds Try.pinned (OpenSpec.ofChange lineAnySpec)

/-- ITS FALSE NEIGHBOUR: 'it returns false'. Refute it at one input. -/
def lineAnyWrong : ChangeSpec := { name := "lineAny", fn := fun _ => fun
  | [d1, d2] => { results := [.lit (.bool false)], args := [d1, d2] }
  | _ => none }
def LineAnyWrongFalsely : Prop := lineAnyRow.holds Try.pinned (OpenSpec.ofChange lineAnyWrong)

/- THE SECOND FORM. 'bulk': how many values and letters a reading holds, each counted each time it is reached (what is shared counts as often as it is met; a slice's spare places count too). A statement '..UptoSaid' is the law's where the arguments, and the package variables that the reading takes, are together of bulk at most 1048576: NARROWER than '..Said'. Prove '..Said' where nothing that the law and all that it calls make is longer than what came in: it says more and counts as full. Else prove '..UptoSaid'. A law counts once. -/
mutual
def uptoBulk {H : Type} : DataW H → Nat
  | .lit (.string bytes) => bytes.length + 1
  | .lit _ => 1
  | .nil => 1
  | .ptr d => uptoBulk d + 1
  | .slice elems spare => uptoBulkAll elems + uptoBulkAll spare + 1
  | .agg parts => uptoBulkAll parts + 1
  | .iface _ d => uptoBulk d + 1
  | .map entries => uptoBulkEntries entries + 1
  | .held _ => 1
def uptoBulkAll {H : Type} : List (DataW H) → Nat
  | [] => 0
  | d :: r => uptoBulk d + uptoBulkAll r
def uptoBulkEntries {H : Type} : List (Lit × DataW H) → Nat
  | [] => 0
  | x :: r => uptoBulkEntry x + uptoBulkEntries r
def uptoBulkEntry {H : Type} : Lit × DataW H → Nat
  | (.string bytes, d) => bytes.length + uptoBulk d + 1
  | (_, d) => uptoBulk d + 1
 end
def uptoSmall : (H : Type) → List (DataW H) → Bool := fun _ ds => decide (uptoBulkAll ds ≤ 1048576)
def OpenSpec.upto (s : _root_.Go.ChangeSpec) : _root_.Go.OpenSpec := { _root_.Go.OpenSpec.ofChange s with cond := some uptoSmall }

/-- 'hansomlaw31.LineParts', WHERE WHAT IT READS IS OF BULK AT MOST 1048576: true; the input reads as it did. -/
def linePartsUptoRow : OpenClaim := { program := "ytneacfkkijjjlaa", sum := "6e58a6de4586613961fa41f84330993f04da9a7b225fdfe6a777c9b6d5a29a50", func := "hansom/hansomlaw31.LineParts", spec := "lineParts", inPlace := ["internal/bytealg.IndexByteString"], apart := false, narrowed := true }
def LinePartsUptoSaid : Prop := linePartsUptoRow.holds Try.pinned (OpenSpec.upto linePartsSpec)

/-- 'hansomlaw31.LineNamed', WHERE WHAT IT READS IS OF BULK AT MOST 1048576: true; the input reads as it did. -/
def lineNamedUptoRow : OpenClaim := { program := "ytneacfkkijjjlaa", sum := "6e58a6de4586613961fa41f84330993f04da9a7b225fdfe6a777c9b6d5a29a50", func := "hansom/hansomlaw31.LineNamed", spec := "lineNamed", inPlace := ["internal/bytealg.IndexByteString"], apart := false, narrowed := true }
def LineNamedUptoSaid : Prop := lineNamedUptoRow.holds Try.pinned (OpenSpec.upto lineNamedSpec)

/-- 'hansomlaw31.LineAny', WHERE WHAT IT READS IS OF BULK AT MOST 1048576: true; the input reads as it did. -/
def lineAnyUptoRow : OpenClaim := { program := "ytneacfkkijjjlaa", sum := "6e58a6de4586613961fa41f84330993f04da9a7b225fdfe6a777c9b6d5a29a50", func := "hansom/hansomlaw31.LineAny", spec := "lineAny", inPlace := ["internal/bytealg.IndexByteString"], apart := false, narrowed := true }
def LineAnyUptoSaid : Prop := lineAnyUptoRow.holds Try.pinned (OpenSpec.upto lineAnySpec)

end Rows
end Go.Proofs.Ytneacfkkijjjlaa
