/-
  No cell of these rows narrows 'for every input' (looked for: loops, veiled, ifaces, maps, wideKeys, modest, calm, conditions, laid).
  DERIVED. THE GIVEN ROWS OF THIS SEAT. 3 by the template 'for every input the law returns true; each argument reads behind the call as it read before'; 0 by the template 'total and deterministic' (their statements: YtbkniomfegbdaaaTotals.lean).
  GIVEN WITH THE SEED: the statements are not yours to turn. If you find one false, say at which input.
  Laid BY PROGRAM, IN A SANDBOX (cutbox-rows.mjs): the forced cells as the released guide's own fill.sh prints them over the translation b95da4750341e97f… (all of the seat's roots in one cut). By AI agents, Wed Nov 11 2026. No macro, syntax, notation, axiom, sorry.
-/
import Derived.Test.YtbkniomfegbdaaaChecked
import GoSem.Claim
import GoSem.ClaimJoined
import GoSem.ClaimMapViews
import Derived.JoinedTies
import Derived.KernelRfl
namespace Go.Proofs.Ytbkniomfegbdaaa
/- THE CELL 'sum', in the pinned program and in every row, IS THE sha256 OF THE DUMP (.gsa) THAT YtbkniomfegbdaaaProg.lean LOADS. Nothing in Lean hashes anything: it is a label: what it is worth is what the hold of that sum in a sandbox is worth. -/
noncomputable def Try.pinned : Pinned := { name := "ytbkniomfegbdaaa", sum := "b95da4750341e97fedfd385d3cc39d30ad21a28a6c175c9dc0e3c718352c525f", checked := Try.checked }
namespace Rows
def none {H : Type} : Left H := { results := [], args := [] }

/-- 'hansomlaw33.AssumePicks': WHATEVER THE INPUT: true; the input reads as it did. -/
def assumePicksSpec : ChangeSpec := { name := "assumePicks", fn := fun _ => fun
  | [d1, d2, d3] => { results := [.lit (.bool true)], args := [d1, d2, d3] }
  | _ => none }
def assumePicksRow : OpenClaim := { program := "ytbkniomfegbdaaa", sum := "b95da4750341e97fedfd385d3cc39d30ad21a28a6c175c9dc0e3c718352c525f", func := "hansom/hansomlaw33.AssumePicks", spec := "assumePicks", apart := false }
def AssumePicksSaid : Prop := assumePicksRow.holds Try.pinned (OpenSpec.ofChange assumePicksSpec)

/-- ITS FALSE NEIGHBOUR: 'it returns false'. Refute it at one input. -/
def assumePicksWrong : ChangeSpec := { name := "assumePicks", fn := fun _ => fun
  | [d1, d2, d3] => { results := [.lit (.bool false)], args := [d1, d2, d3] }
  | _ => none }
def AssumePicksWrongFalsely : Prop := assumePicksRow.holds Try.pinned (OpenSpec.ofChange assumePicksWrong)

/-- 'hansomlaw32.SymsPlay': WHATEVER THE INPUT: true; the input reads as it did. -/
def symsPlaySpec : ChangeSpec := { name := "symsPlay", fn := fun _ => fun
  | [d] => { results := [.lit (.bool true)], args := [d] }
  | _ => none }
def symsPlayRow : OpenClaim := { program := "ytbkniomfegbdaaa", sum := "b95da4750341e97fedfd385d3cc39d30ad21a28a6c175c9dc0e3c718352c525f", func := "hansom/hansomlaw32.SymsPlay", spec := "symsPlay", apart := false }
def SymsPlaySaid : Prop := symsPlayRow.holds Try.pinned (OpenSpec.ofChange symsPlaySpec)

/-- ITS FALSE NEIGHBOUR: 'it returns false'. Refute it at one input. -/
def symsPlayWrong : ChangeSpec := { name := "symsPlay", fn := fun _ => fun
  | [d] => { results := [.lit (.bool false)], args := [d] }
  | _ => none }
def SymsPlayWrongFalsely : Prop := symsPlayRow.holds Try.pinned (OpenSpec.ofChange symsPlayWrong)

/-- 'hansomlaw32.SymsMost': WHATEVER THE INPUT: true; the input reads as it did. -/
def symsMostSpec : ChangeSpec := { name := "symsMost", fn := fun _ => fun
  | [d1, d2] => { results := [.lit (.bool true)], args := [d1, d2] }
  | _ => none }
def symsMostRow : OpenClaim := { program := "ytbkniomfegbdaaa", sum := "b95da4750341e97fedfd385d3cc39d30ad21a28a6c175c9dc0e3c718352c525f", func := "hansom/hansomlaw32.SymsMost", spec := "symsMost", apart := false }
def SymsMostSaid : Prop := symsMostRow.holds Try.pinned (OpenSpec.ofChange symsMostSpec)

/-- ITS FALSE NEIGHBOUR: 'it returns false'. Refute it at one input. -/
def symsMostWrong : ChangeSpec := { name := "symsMost", fn := fun _ => fun
  | [d1, d2] => { results := [.lit (.bool false)], args := [d1, d2] }
  | _ => none }
def SymsMostWrongFalsely : Prop := symsMostRow.holds Try.pinned (OpenSpec.ofChange symsMostWrong)

/- THE SECOND FORM. 'bulk': how many values and letters a reading holds, each counted each time it is reached (what is shared counts as often as it is met; a slice's spare places count too). A statement '..UptoSaid' is the law's where the arguments, and the package variables that the reading takes, are together of bulk at most 1048576: NARROWER than '..Said'. Prove '..Said' where nothing that the law and all that it calls make is longer than what came in: it says more and counts as full. Else prove '..UptoSaid'. A law counts once. -/
mutual
def uptoBulk {H : Type} : DataW H → Nat
  | .lit (.string bytes) => bytes.length + 1
  | .lit _ => 1
  | .nil => 1
  | .ptr d => uptoBulk d + 1
  | .slice elems spare => uptoBulkAll elems + uptoBulkAll spare + 1
  | .agg parts => uptoBulkAll parts + 1
  | .iface _ d => uptoBulk d + 1
  | .map entries => uptoBulkEntries entries + 1
  | .held _ => 1
def uptoBulkAll {H : Type} : List (DataW H) → Nat
  | [] => 0
  | d :: r => uptoBulk d + uptoBulkAll r
def uptoBulkEntries {H : Type} : List (Lit × DataW H) → Nat
  | [] => 0
  | x :: r => uptoBulkEntry x + uptoBulkEntries r
def uptoBulkEntry {H : Type} : Lit × DataW H → Nat
  | (.string bytes, d) => bytes.length + uptoBulk d + 1
  | (_, d) => uptoBulk d + 1
 end
def uptoSmall : (H : Type) → List (DataW H) → Bool := fun _ ds => decide (uptoBulkAll ds ≤ 1048576)
def OpenSpec.upto (s : _root_.Go.ChangeSpec) : _root_.Go.OpenSpec := { _root_.Go.OpenSpec.ofChange s with cond := some uptoSmall }

/-- 'hansomlaw33.AssumePicks', WHERE WHAT IT READS IS OF BULK AT MOST 1048576: true; the input reads as it did. -/
def assumePicksUptoRow : OpenClaim := { program := "ytbkniomfegbdaaa", sum := "b95da4750341e97fedfd385d3cc39d30ad21a28a6c175c9dc0e3c718352c525f", func := "hansom/hansomlaw33.AssumePicks", spec := "assumePicks", apart := false, narrowed := true }
def AssumePicksUptoSaid : Prop := assumePicksUptoRow.holds Try.pinned (OpenSpec.upto assumePicksSpec)

/-- 'hansomlaw32.SymsPlay', WHERE WHAT IT READS IS OF BULK AT MOST 1048576: true; the input reads as it did. -/
def symsPlayUptoRow : OpenClaim := { program := "ytbkniomfegbdaaa", sum := "b95da4750341e97fedfd385d3cc39d30ad21a28a6c175c9dc0e3c718352c525f", func := "hansom/hansomlaw32.SymsPlay", spec := "symsPlay", apart := false, narrowed := true }
def SymsPlayUptoSaid : Prop := symsPlayUptoRow.holds Try.pinned (OpenSpec.upto symsPlaySpec)

/-- 'hansomlaw32.SymsMost', WHERE WHAT IT READS IS OF BULK AT MOST 1048576: true; the input reads as it did. -/
def symsMostUptoRow : OpenClaim := { program := "ytbkniomfegbdaaa", sum := "b95da4750341e97fedfd385d3cc39d30ad21a28a6c175c9dc0e3c718352c525f", func := "hansom/hansomlaw32.SymsMost", spec := "symsMost", apart := false, narrowed := true }
def SymsMostUptoSaid : Prop := symsMostUptoRow.holds Try.pinned (OpenSpec.upto symsMostSpec)

end Rows
end Go.Proofs.Ytbkniomfegbdaaa
