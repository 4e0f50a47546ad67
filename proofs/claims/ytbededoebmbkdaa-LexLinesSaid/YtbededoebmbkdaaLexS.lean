/- The walk of the law LexLines: it returns true at every input. -/
import Derived.Test.YtbededoebmbkdaaLexR
namespace Go.Proofs.Ytbededoebmbkdaa.QLexLines
open Go.RowKit Go.Proofs.YtbededoebmbkdaaW.PrintWords Go.Proofs.YtbededoebmbkdaaW.PrintLast Go.Proofs.YtbededoebmbkdaaW.PrintMore
set_option linter.unusedVariables false
set_option linter.unusedSimpArgs false
theorem lexLines_w (A0 : Option Addr) (c0 : Nat) (l0 : List Int) (A1 : Option Addr) (c1 : Nat) (l1 : List ByteArray) (A2 : Option Addr) (c2 : Nat) (l2 : List Int) (w : World)
    (hr0 : ReadsInt w .i64 A0 l0.length l0) (hc0 : l0.length ≤ c0) (hw0 : ∀ x ∈ l0, (Lit.int .i64 x).wf = true) (hr1 : ReadsOf Value.string ByteArray.empty w A1 l1.length l1) (hc1 : l1.length ≤ c1) (hr2 : ReadsInt w .u64 A2 l2.length l2) (hc2 : l2.length ≤ c2) (hw2 : ∀ x ∈ l2, (Lit.int .u64 x).wf = true) :
    Calls Try.prog 3 #[.slice A0 l0.length c0, .slice A1 l1.length c1, .slice A2 l2.length c2] w fun e w' => e = .returned (.bool true) ∧ Below w.heap.size w w' := by
  refine hansomlaw28_LexLines.calls 1200 A0 c0 l0 A1 c1 l1 A2 c2 l2 true w (Kd.C_of_reads (d := (0 : Int)) (h1 := fun _ => rfl) hr0) hc0 (Kd.C_of_reads (d := ByteArray.empty) (h1 := fun _ => rfl) hr1) hc1 (Kd.C_of_reads (d := (0 : Int)) (h1 := fun _ => rfl) hr2) hc2 (lines_true l0 l1 l2 fun i => ?_)
  unfold rd
  rw [List.getD_eq_getElem?_getD]
  cases h : l2[i.toNat]? with
  | none => simp
  | some x =>
    have hx := hw2 x (List.mem_of_getElem? h)
    simp only [Option.getD_some]
    simp [Lit.wf] at hx
    exact hx.1
end Go.Proofs.Ytbededoebmbkdaa.QLexLines
