/-
  No cell of these rows narrows 'for every input' (looked for: loops, veiled, ifaces, maps, wideKeys, modest, calm, conditions, laid).
  DERIVED. THE GIVEN ROWS OF THIS SEAT. 4 by the template 'for every input the law returns true; each argument reads behind the call as it read before'; 0 by the template 'total and deterministic' (their statements: YtkjcipdfciajhaaTotals.lean).
  GIVEN WITH THE SEED: the statements are not yours to turn. If you find one false, say at which input.
  Laid BY PROGRAM, IN A SANDBOX (cutbox-rows.mjs): the forced cells as the released guide's own fill.sh prints them over the translation d1d75b9bba124733… (all of the seat's roots in one cut). By AI agents, Wed Nov 11 2026. No macro, syntax, notation, axiom, sorry.
-/
import Derived.Test.YtkjcipdfciajhaaChecked
import GoSem.Claim
import GoSem.ClaimJoined
import GoSem.ClaimMapViews
import Derived.JoinedTies
import Derived.KernelRfl
namespace Go.Proofs.Ytkjcipdfciajhaa
/- THE CELL 'sum', in the pinned program and in every row, IS THE sha256 OF THE DUMP (.gsa) THAT YtkjcipdfciajhaaProg.lean LOADS. Nothing in Lean hashes anything: it is a label: what it is worth is what the hold of that sum in a sandbox is worth. -/
noncomputable def Try.pinned : Pinned := { name := "ytkjcipdfciajhaa", sum := "d1d75b9bba1247331b4f28d74bf9adab27d7381d37c120b8c7a45a5c8dd61bf6", checked := Try.checked }
namespace Rows
def none {H : Type} : Left H := { results := [], args := [] }

/-- 'hansomlaw13.CoreStack': WHATEVER THE INPUT: true; the input reads as it did. -/
def coreStackSpec : ChangeSpec := { name := "coreStack", fn := fun _ => fun
  | [d1, d2] => { results := [.lit (.bool true)], args := [d1, d2] }
  | _ => none }
def coreStackRow : OpenClaim := { program := "ytkjcipdfciajhaa", sum := "d1d75b9bba1247331b4f28d74bf9adab27d7381d37c120b8c7a45a5c8dd61bf6", func := "hansom/hansomlaw13.CoreStack", spec := "coreStack", apart := false }
def CoreStackSaid : Prop := coreStackRow.holds Try.pinned (OpenSpec.ofChange coreStackSpec)

/-- ITS FALSE NEIGHBOUR: 'it returns false'. Refute it at one input. -/
def coreStackWrong : ChangeSpec := { name := "coreStack", fn := fun _ => fun
  | [d1, d2] => { results := [.lit (.bool false)], args := [d1, d2] }
  | _ => none }
def CoreStackWrongFalsely : Prop := coreStackRow.holds Try.pinned (OpenSpec.ofChange coreStackWrong)

/-- 'hansomlaw13.CoreMemory': WHATEVER THE INPUT: true; the input reads as it did. -/
def coreMemorySpec : ChangeSpec := { name := "coreMemory", fn := fun _ => fun
  | [d1, d2, d3] => { results := [.lit (.bool true)], args := [d1, d2, d3] }
  | _ => none }
def coreMemoryRow : OpenClaim := { program := "ytkjcipdfciajhaa", sum := "d1d75b9bba1247331b4f28d74bf9adab27d7381d37c120b8c7a45a5c8dd61bf6", func := "hansom/hansomlaw13.CoreMemory", spec := "coreMemory", apart := false }
def CoreMemorySaid : Prop := coreMemoryRow.holds Try.pinned (OpenSpec.ofChange coreMemorySpec)

/-- ITS FALSE NEIGHBOUR: 'it returns false'. Refute it at one input. -/
def coreMemoryWrong : ChangeSpec := { name := "coreMemory", fn := fun _ => fun
  | [d1, d2, d3] => { results := [.lit (.bool false)], args := [d1, d2, d3] }
  | _ => none }
def CoreMemoryWrongFalsely : Prop := coreMemoryRow.holds Try.pinned (OpenSpec.ofChange coreMemoryWrong)

/-- 'hansomlaw45.LoadBad': WHATEVER THE INPUT: true; the input reads as it did. -/
def loadBadSpec : ChangeSpec := { name := "loadBad", fn := fun _ => fun
  | [d1, d2] => { results := [.lit (.bool true)], args := [d1, d2] }
  | _ => none }
def loadBadRow : OpenClaim := { program := "ytkjcipdfciajhaa", sum := "d1d75b9bba1247331b4f28d74bf9adab27d7381d37c120b8c7a45a5c8dd61bf6", func := "hansom/hansomlaw45.LoadBad", spec := "loadBad", apart := false }
def LoadBadSaid : Prop := loadBadRow.holds Try.pinned (OpenSpec.ofChange loadBadSpec)

/-- ITS FALSE NEIGHBOUR: 'it returns false'. Refute it at one input. -/
def loadBadWrong : ChangeSpec := { name := "loadBad", fn := fun _ => fun
  | [d1, d2] => { results := [.lit (.bool false)], args := [d1, d2] }
  | _ => none }
def LoadBadWrongFalsely : Prop := loadBadRow.holds Try.pinned (OpenSpec.ofChange loadBadWrong)

/-- 'hansomlaw45.LoadPlaces': WHATEVER THE INPUT: true; the input reads as it did. -/
def loadPlacesSpec : ChangeSpec := { name := "loadPlaces", fn := fun _ => fun
  | [d1, d2] => { results := [.lit (.bool true)], args := [d1, d2] }
  | _ => none }
def loadPlacesRow : OpenClaim := { program := "ytkjcipdfciajhaa", sum := "d1d75b9bba1247331b4f28d74bf9adab27d7381d37c120b8c7a45a5c8dd61bf6", func := "hansom/hansomlaw45.LoadPlaces", spec := "loadPlaces", apart := false }
def LoadPlacesSaid : Prop := loadPlacesRow.holds Try.pinned (OpenSpec.ofChange loadPlacesSpec)

/-- ITS FALSE NEIGHBOUR: 'it returns false'. Refute it at one input. -/
def loadPlacesWrong : ChangeSpec := { name := "loadPlaces", fn := fun _ => fun
  | [d1, d2] => { results := [.lit (.bool false)], args := [d1, d2] }
  | _ => none }
def LoadPlacesWrongFalsely : Prop := loadPlacesRow.holds Try.pinned (OpenSpec.ofChange loadPlacesWrong)

/- THE SECOND FORM. 'bulk': how many values and letters a reading holds, each counted each time it is reached (what is shared counts as often as it is met; a slice's spare places count too). A statement '..UptoSaid' is the law's where the arguments, and the package variables that the reading takes, are together of bulk at most 1048576: NARROWER than '..Said'. Prove '..Said' where nothing that the law and all that it calls make is longer than what came in: it says more and counts as full. Else prove '..UptoSaid'. A law counts once. -/
mutual
def uptoBulk {H : Type} : DataW H → Nat
  | .lit (.string bytes) => bytes.length + 1
  | .lit _ => 1
  | .nil => 1
  | .ptr d => uptoBulk d + 1
  | .slice elems spare => uptoBulkAll elems + uptoBulkAll spare + 1
  | .agg parts => uptoBulkAll parts + 1
  | .iface _ d => uptoBulk d + 1
  | .map entries => uptoBulkEntries entries + 1
  | .held _ => 1
def uptoBulkAll {H : Type} : List (DataW H) → Nat
  | [] => 0
  | d :: r => uptoBulk d + uptoBulkAll r
def uptoBulkEntries {H : Type} : List (Lit × DataW H) → Nat
  | [] => 0
  | x :: r => uptoBulkEntry x + uptoBulkEntries r
def uptoBulkEntry {H : Type} : Lit × DataW H → Nat
  | (.string bytes, d) => bytes.length + uptoBulk d + 1
  | (_, d) => uptoBulk d + 1
 end
def uptoSmall : (H : Type) → List (DataW H) → Bool := fun _ ds => decide (uptoBulkAll ds ≤ 1048576)
def OpenSpec.upto (s : _root_.Go.ChangeSpec) : _root_.Go.OpenSpec := { _root_.Go.OpenSpec.ofChange s with cond := some uptoSmall }

/-- 'hansomlaw13.CoreStack', WHERE WHAT IT READS IS OF BULK AT MOST 1048576: true; the input reads as it did. -/
def coreStackUptoRow : OpenClaim := { program := "ytkjcipdfciajhaa", sum := "d1d75b9bba1247331b4f28d74bf9adab27d7381d37c120b8c7a45a5c8dd61bf6", func := "hansom/hansomlaw13.CoreStack", spec := "coreStack", apart := false, narrowed := true }
def CoreStackUptoSaid : Prop := coreStackUptoRow.holds Try.pinned (OpenSpec.upto coreStackSpec)

/-- 'hansomlaw13.CoreMemory', WHERE WHAT IT READS IS OF BULK AT MOST 1048576: true; the input reads as it did. -/
def coreMemoryUptoRow : OpenClaim := { program := "ytkjcipdfciajhaa", sum := "d1d75b9bba1247331b4f28d74bf9adab27d7381d37c120b8c7a45a5c8dd61bf6", func := "hansom/hansomlaw13.CoreMemory", spec := "coreMemory", apart := false, narrowed := true }
def CoreMemoryUptoSaid : Prop := coreMemoryUptoRow.holds Try.pinned (OpenSpec.upto coreMemorySpec)

/-- 'hansomlaw45.LoadBad', WHERE WHAT IT READS IS OF BULK AT MOST 1048576: true; the input reads as it did. -/
def loadBadUptoRow : OpenClaim := { program := "ytkjcipdfciajhaa", sum := "d1d75b9bba1247331b4f28d74bf9adab27d7381d37c120b8c7a45a5c8dd61bf6", func := "hansom/hansomlaw45.LoadBad", spec := "loadBad", apart := false, narrowed := true }
def LoadBadUptoSaid : Prop := loadBadUptoRow.holds Try.pinned (OpenSpec.upto loadBadSpec)

/-- 'hansomlaw45.LoadPlaces', WHERE WHAT IT READS IS OF BULK AT MOST 1048576: true; the input reads as it did. -/
def loadPlacesUptoRow : OpenClaim := { program := "ytkjcipdfciajhaa", sum := "d1d75b9bba1247331b4f28d74bf9adab27d7381d37c120b8c7a45a5c8dd61bf6", func := "hansom/hansomlaw45.LoadPlaces", spec := "loadPlaces", apart := false, narrowed := true }
def LoadPlacesUptoSaid : Prop := loadPlacesUptoRow.holds Try.pinned (OpenSpec.upto loadPlacesSpec)

end Rows
end Go.Proofs.Ytkjcipdfciajhaa
