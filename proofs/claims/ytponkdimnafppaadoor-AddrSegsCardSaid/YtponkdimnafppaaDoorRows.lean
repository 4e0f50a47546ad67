/-
  NARROWER THAN 'FOR EVERY INPUT', by the rows' own cells (each row's printed sentence says how): AddrOff: laid · AddrSegs: laid · CoreOperands: laid · StropOnce: laid · StropWords: laid · StropRepeats: laid.
  DERIVED. THE GIVEN ROWS OF THIS SEAT. 6 by the template 'for every input the law returns true; each argument reads behind the call as it read before'; 0 by the template 'total and deterministic' (their statements: YtponkdimnafppaaDoorTotals.lean).
  GIVEN WITH THE SEED: the statements are not yours to turn. If you find one false, say at which input.
  Laid BY PROGRAM, IN A SANDBOX (cutbox-rows.mjs): the forced cells as the released guide's own fill.sh prints them over the translation f4b21cd68e43233f… (all of the seat's roots in one cut). By AI agents, Wed Nov 11 2026. No macro, syntax, notation, axiom, sorry.
-/
import Derived.Test.YtponkdimnafppaaDoorChecked
import GoSem.Claim
import GoSem.ClaimJoined
import GoSem.ClaimMapViews
import Derived.JoinedTies
import Derived.KernelRfl
namespace Go.Proofs.YtponkdimnafppaaDoor
/- THE CELL 'sum', in the pinned program and in every row, IS THE sha256 OF THE DUMP (.gsa) THAT YtponkdimnafppaaDoorProg.lean LOADS. Nothing in Lean hashes anything: it is a label: what it is worth is what the hold of that sum in a sandbox is worth. -/
noncomputable def Tryd.pinned : Pinned := { name := "ytponkdimnafppaadoor", sum := "f4b21cd68e43233fed6b0862f6921a9d055253f8da161ea165d13e3c944df8d4", checked := Tryd.checked }
namespace Rows
def none {H : Type} : Left H := { results := [], args := [] }

/- WHAT THE LISTED PACKAGE-LEVEL VARIABLES READ AS WHEN THE CALL BEGINS. Each datum BY PROGRAM (the guide's laid-datum.mjs) off the statement by which the dump's own 'gosem.cut.vars' lays the variable. In a bare row this is a premise. The card (YtponkdimnafppaaDoorCards.lean) ties it to the program's text. -/
def laid_hansom_addr_bases {H : Type} : DataW H := .agg [.agg [.lit (.int .i64 3), .lit (.int .i64 6)], .agg [.lit (.int .i64 3), .lit (.int .i64 7)], .agg [.lit (.int .i64 5), .lit (.int .i64 6)], .agg [.lit (.int .i64 5), .lit (.int .i64 7)], .agg [.lit (.int .i64 6), .lit (.int .i64 (-1))], .agg [.lit (.int .i64 7), .lit (.int .i64 (-1))], .agg [.lit (.int .i64 5), .lit (.int .i64 (-1))], .agg [.lit (.int .i64 3), .lit (.int .i64 (-1))]]

/-- 'hansomlaw11.AddrOff': WHATEVER THE INPUT: true; the input reads as it did. -/
def addrOffSpec : ChangeSpec := { name := "addrOff", fn := fun _ => fun
  | [d1, d2, d3] => { results := [.lit (.bool true)], args := [d1, d2, d3] }
  | _ => none }
def addrOffRow : OpenClaim := { program := "ytponkdimnafppaadoor", sum := "f4b21cd68e43233fed6b0862f6921a9d055253f8da161ea165d13e3c944df8d4", func := "hansom/hansomlaw11.AddrOff", spec := "addrOff", named := ["hansom/addr.bases"], apart := false, laid := [("hansom/addr.bases", laid_hansom_addr_bases)] }
def AddrOffSaid : Prop := addrOffRow.holds Tryd.pinned (OpenSpec.ofChange addrOffSpec)

/-- ITS FALSE NEIGHBOUR: 'it returns false'. Refute it at one input. -/
def addrOffWrong : ChangeSpec := { name := "addrOff", fn := fun _ => fun
  | [d1, d2, d3] => { results := [.lit (.bool false)], args := [d1, d2, d3] }
  | _ => none }
def AddrOffWrongFalsely : Prop := addrOffRow.holds Tryd.pinned (OpenSpec.ofChange addrOffWrong)

/-- 'hansomlaw11.AddrSegs': WHATEVER THE INPUT: true; the input reads as it did. -/
def addrSegsSpec : ChangeSpec := { name := "addrSegs", fn := fun _ => fun
  | [d1, d2] => { results := [.lit (.bool true)], args := [d1, d2] }
  | _ => none }
def addrSegsRow : OpenClaim := { program := "ytponkdimnafppaadoor", sum := "f4b21cd68e43233fed6b0862f6921a9d055253f8da161ea165d13e3c944df8d4", func := "hansom/hansomlaw11.AddrSegs", spec := "addrSegs", named := ["hansom/addr.bases"], apart := false, laid := [("hansom/addr.bases", laid_hansom_addr_bases)] }
def AddrSegsSaid : Prop := addrSegsRow.holds Tryd.pinned (OpenSpec.ofChange addrSegsSpec)

/-- ITS FALSE NEIGHBOUR: 'it returns false'. Refute it at one input. -/
def addrSegsWrong : ChangeSpec := { name := "addrSegs", fn := fun _ => fun
  | [d1, d2] => { results := [.lit (.bool false)], args := [d1, d2] }
  | _ => none }
def AddrSegsWrongFalsely : Prop := addrSegsRow.holds Tryd.pinned (OpenSpec.ofChange addrSegsWrong)

/-- 'hansomlaw13.CoreOperands': WHATEVER THE INPUT: true; the input reads as it did. -/
def coreOperandsSpec : ChangeSpec := { name := "coreOperands", fn := fun _ => fun
  | [d1, d2, d3] => { results := [.lit (.bool true)], args := [d1, d2, d3] }
  | _ => none }
def coreOperandsRow : OpenClaim := { program := "ytponkdimnafppaadoor", sum := "f4b21cd68e43233fed6b0862f6921a9d055253f8da161ea165d13e3c944df8d4", func := "hansom/hansomlaw13.CoreOperands", spec := "coreOperands", named := ["hansom/addr.bases"], apart := false, laid := [("hansom/addr.bases", laid_hansom_addr_bases)] }
def CoreOperandsSaid : Prop := coreOperandsRow.holds Tryd.pinned (OpenSpec.ofChange coreOperandsSpec)

/-- ITS FALSE NEIGHBOUR: 'it returns false'. Refute it at one input. -/
def coreOperandsWrong : ChangeSpec := { name := "coreOperands", fn := fun _ => fun
  | [d1, d2, d3] => { results := [.lit (.bool false)], args := [d1, d2, d3] }
  | _ => none }
def CoreOperandsWrongFalsely : Prop := coreOperandsRow.holds Tryd.pinned (OpenSpec.ofChange coreOperandsWrong)

/-- 'hansomlaw15.StropOnce': WHATEVER THE INPUT: true; the input reads as it did. -/
def stropOnceSpec : ChangeSpec := { name := "stropOnce", fn := fun _ => fun
  | [d1, d2, d3] => { results := [.lit (.bool true)], args := [d1, d2, d3] }
  | _ => none }
def stropOnceRow : OpenClaim := { program := "ytponkdimnafppaadoor", sum := "f4b21cd68e43233fed6b0862f6921a9d055253f8da161ea165d13e3c944df8d4", func := "hansom/hansomlaw15.StropOnce", spec := "stropOnce", named := ["hansom/addr.bases"], apart := false, laid := [("hansom/addr.bases", laid_hansom_addr_bases)] }
def StropOnceSaid : Prop := stropOnceRow.holds Tryd.pinned (OpenSpec.ofChange stropOnceSpec)

/-- ITS FALSE NEIGHBOUR: 'it returns false'. Refute it at one input. -/
def stropOnceWrong : ChangeSpec := { name := "stropOnce", fn := fun _ => fun
  | [d1, d2, d3] => { results := [.lit (.bool false)], args := [d1, d2, d3] }
  | _ => none }
def StropOnceWrongFalsely : Prop := stropOnceRow.holds Tryd.pinned (OpenSpec.ofChange stropOnceWrong)

/-- 'hansomlaw15.StropWords': WHATEVER THE INPUT: true; the input reads as it did. -/
def stropWordsSpec : ChangeSpec := { name := "stropWords", fn := fun _ => fun
  | [d1, d2] => { results := [.lit (.bool true)], args := [d1, d2] }
  | _ => none }
def stropWordsRow : OpenClaim := { program := "ytponkdimnafppaadoor", sum := "f4b21cd68e43233fed6b0862f6921a9d055253f8da161ea165d13e3c944df8d4", func := "hansom/hansomlaw15.StropWords", spec := "stropWords", named := ["hansom/addr.bases"], apart := false, laid := [("hansom/addr.bases", laid_hansom_addr_bases)] }
def StropWordsSaid : Prop := stropWordsRow.holds Tryd.pinned (OpenSpec.ofChange stropWordsSpec)

/-- ITS FALSE NEIGHBOUR: 'it returns false'. Refute it at one input. -/
def stropWordsWrong : ChangeSpec := { name := "stropWords", fn := fun _ => fun
  | [d1, d2] => { results := [.lit (.bool false)], args := [d1, d2] }
  | _ => none }
def StropWordsWrongFalsely : Prop := stropWordsRow.holds Tryd.pinned (OpenSpec.ofChange stropWordsWrong)

/-- 'hansomlaw15.StropRepeats': WHATEVER THE INPUT: true; the input reads as it did. -/
def stropRepeatsSpec : ChangeSpec := { name := "stropRepeats", fn := fun _ => fun
  | [d1, d2, d3] => { results := [.lit (.bool true)], args := [d1, d2, d3] }
  | _ => none }
def stropRepeatsRow : OpenClaim := { program := "ytponkdimnafppaadoor", sum := "f4b21cd68e43233fed6b0862f6921a9d055253f8da161ea165d13e3c944df8d4", func := "hansom/hansomlaw15.StropRepeats", spec := "stropRepeats", named := ["hansom/addr.bases"], apart := false, laid := [("hansom/addr.bases", laid_hansom_addr_bases)] }
def StropRepeatsSaid : Prop := stropRepeatsRow.holds Tryd.pinned (OpenSpec.ofChange stropRepeatsSpec)

/-- ITS FALSE NEIGHBOUR: 'it returns false'. Refute it at one input. -/
def stropRepeatsWrong : ChangeSpec := { name := "stropRepeats", fn := fun _ => fun
  | [d1, d2, d3] => { results := [.lit (.bool false)], args := [d1, d2, d3] }
  | _ => none }
def StropRepeatsWrongFalsely : Prop := stropRepeatsRow.holds Tryd.pinned (OpenSpec.ofChange stropRepeatsWrong)

/- THE SECOND FORM. 'bulk': how many values and letters a reading holds, each counted each time it is reached (what is shared counts as often as it is met; a slice's spare places count too). A statement '..UptoSaid' is the law's where the arguments, and the package variables that the reading takes, are together of bulk at most 1048576: NARROWER than '..Said'. Prove '..Said' where nothing that the law and all that it calls make is longer than what came in: it says more and counts as full. Else prove '..UptoSaid'. A law counts once. -/
mutual
def uptoBulk {H : Type} : DataW H → Nat
  | .lit (.string bytes) => bytes.length + 1
  | .lit _ => 1
  | .nil => 1
  | .ptr d => uptoBulk d + 1
  | .slice elems spare => uptoBulkAll elems + uptoBulkAll spare + 1
  | .agg parts => uptoBulkAll parts + 1
  | .iface _ d => uptoBulk d + 1
  | .map entries => uptoBulkEntries entries + 1
  | .held _ => 1
def uptoBulkAll {H : Type} : List (DataW H) → Nat
  | [] => 0
  | d :: r => uptoBulk d + uptoBulkAll r
def uptoBulkEntries {H : Type} : List (Lit × DataW H) → Nat
  | [] => 0
  | x :: r => uptoBulkEntry x + uptoBulkEntries r
def uptoBulkEntry {H : Type} : Lit × DataW H → Nat
  | (.string bytes, d) => bytes.length + uptoBulk d + 1
  | (_, d) => uptoBulk d + 1
 end
def uptoSmall : (H : Type) → List (DataW H) → Bool := fun _ ds => decide (uptoBulkAll ds ≤ 1048576)
def OpenSpec.upto (s : _root_.Go.ChangeSpec) : _root_.Go.OpenSpec := { _root_.Go.OpenSpec.ofChange s with cond := some uptoSmall }

/-- 'hansomlaw11.AddrOff', WHERE WHAT IT READS IS OF BULK AT MOST 1048576: true; the input reads as it did. -/
def addrOffUptoRow : OpenClaim := { program := "ytponkdimnafppaadoor", sum := "f4b21cd68e43233fed6b0862f6921a9d055253f8da161ea165d13e3c944df8d4", func := "hansom/hansomlaw11.AddrOff", spec := "addrOff", named := ["hansom/addr.bases"], apart := false, laid := [("hansom/addr.bases", laid_hansom_addr_bases)], narrowed := true }
def AddrOffUptoSaid : Prop := addrOffUptoRow.holds Tryd.pinned (OpenSpec.upto addrOffSpec)

/-- 'hansomlaw11.AddrSegs', WHERE WHAT IT READS IS OF BULK AT MOST 1048576: true; the input reads as it did. -/
def addrSegsUptoRow : OpenClaim := { program := "ytponkdimnafppaadoor", sum := "f4b21cd68e43233fed6b0862f6921a9d055253f8da161ea165d13e3c944df8d4", func := "hansom/hansomlaw11.AddrSegs", spec := "addrSegs", named := ["hansom/addr.bases"], apart := false, laid := [("hansom/addr.bases", laid_hansom_addr_bases)], narrowed := true }
def AddrSegsUptoSaid : Prop := addrSegsUptoRow.holds Tryd.pinned (OpenSpec.upto addrSegsSpec)

/-- 'hansomlaw13.CoreOperands', WHERE WHAT IT READS IS OF BULK AT MOST 1048576: true; the input reads as it did. -/
def coreOperandsUptoRow : OpenClaim := { program := "ytponkdimnafppaadoor", sum := "f4b21cd68e43233fed6b0862f6921a9d055253f8da161ea165d13e3c944df8d4", func := "hansom/hansomlaw13.CoreOperands", spec := "coreOperands", named := ["hansom/addr.bases"], apart := false, laid := [("hansom/addr.bases", laid_hansom_addr_bases)], narrowed := true }
def CoreOperandsUptoSaid : Prop := coreOperandsUptoRow.holds Tryd.pinned (OpenSpec.upto coreOperandsSpec)

/-- 'hansomlaw15.StropOnce', WHERE WHAT IT READS IS OF BULK AT MOST 1048576: true; the input reads as it did. -/
def stropOnceUptoRow : OpenClaim := { program := "ytponkdimnafppaadoor", sum := "f4b21cd68e43233fed6b0862f6921a9d055253f8da161ea165d13e3c944df8d4", func := "hansom/hansomlaw15.StropOnce", spec := "stropOnce", named := ["hansom/addr.bases"], apart := false, laid := [("hansom/addr.bases", laid_hansom_addr_bases)], narrowed := true }
def StropOnceUptoSaid : Prop := stropOnceUptoRow.holds Tryd.pinned (OpenSpec.upto stropOnceSpec)

/-- 'hansomlaw15.StropWords', WHERE WHAT IT READS IS OF BULK AT MOST 1048576: true; the input reads as it did. -/
def stropWordsUptoRow : OpenClaim := { program := "ytponkdimnafppaadoor", sum := "f4b21cd68e43233fed6b0862f6921a9d055253f8da161ea165d13e3c944df8d4", func := "hansom/hansomlaw15.StropWords", spec := "stropWords", named := ["hansom/addr.bases"], apart := false, laid := [("hansom/addr.bases", laid_hansom_addr_bases)], narrowed := true }
def StropWordsUptoSaid : Prop := stropWordsUptoRow.holds Tryd.pinned (OpenSpec.upto stropWordsSpec)

/-- 'hansomlaw15.StropRepeats', WHERE WHAT IT READS IS OF BULK AT MOST 1048576: true; the input reads as it did. -/
def stropRepeatsUptoRow : OpenClaim := { program := "ytponkdimnafppaadoor", sum := "f4b21cd68e43233fed6b0862f6921a9d055253f8da161ea165d13e3c944df8d4", func := "hansom/hansomlaw15.StropRepeats", spec := "stropRepeats", named := ["hansom/addr.bases"], apart := false, laid := [("hansom/addr.bases", laid_hansom_addr_bases)], narrowed := true }
def StropRepeatsUptoSaid : Prop := stropRepeatsUptoRow.holds Tryd.pinned (OpenSpec.upto stropRepeatsSpec)

end Rows
end Go.Proofs.YtponkdimnafppaaDoor
