/- A plain machine for the program's functions: what is told beside each. -/
import Derived.Test.YtkjcipdfciajhaaVQ
import Derived.Test.YtkjcipdfciajhaaProg
import Derived.KernelRfl
namespace Go.Proofs.Ytkjcipdfciajhaa.VM
open Go Go.RowKit
set_option linter.unusedVariables false
set_option linter.unusedSimpArgs false
def notes : List Note := [⟨[], [], []⟩,
   ⟨[], [], []⟩,
   ⟨[], [], []⟩,
   ⟨[], [[0, 1, 5, 6, 7], [0, 1, 5, 6, 8, 9]], []⟩,
   ⟨[4, 9, 11, 13], [], []⟩,
   ⟨[2, 5, 8], [], []⟩,
   ⟨[2, 5, 14, 17, 19], [[1, 5, 6, 7, 10, 11, 12], [1, 5, 6, 7, 10, 17, 18, 19, 20]], [24]⟩,
   ⟨[], [], []⟩,
   ⟨[3], [], []⟩,
   ⟨[], [], []⟩,
   ⟨[2], [], []⟩,
   ⟨[2, 4], [], []⟩,
   ⟨[4], [[0, 4, 8, 9]], []⟩,
   ⟨[4, 5, 6], [], []⟩,
   ⟨[6, 10], [], []⟩,
   ⟨[3, 4, 5], [], []⟩,
   ⟨[4], [], []⟩,
   ⟨[3], [], []⟩,
   ⟨[1, 2, 45], [[1, 2, 3, 4]], []⟩,
   ⟨[3, 14], [[1, 2, 3, 8, 9, 39, 40, 41]], [19, 20]⟩,
   ⟨[], [], []⟩,
   ⟨[2], [], []⟩,
   ⟨[], [], []⟩,
   ⟨[1], [], []⟩,
   ⟨[], [], []⟩,
   ⟨[], [], []⟩,
   ⟨[], [], []⟩,
   ⟨[], [], []⟩,
   ⟨[], [], []⟩,
   ⟨[], [], []⟩,
   ⟨[7], [[0, 1, 2, 7, 8]], []⟩,
   ⟨[3], [], []⟩,
   ⟨[2, 4], [], []⟩,
   ⟨[4], [], []⟩,
   ⟨[3, 5, 6], [], []⟩,
   ⟨[], [], []⟩,
   ⟨[4], [], [1]⟩,
   ⟨[], [], []⟩,
   ⟨[7], [], []⟩,
   ⟨[], [], []⟩,
   ⟨[], [], []⟩,
   ⟨[], [], []⟩,
   ⟨[3], [], []⟩,
   ⟨[], [], []⟩,
   ⟨[], [], []⟩,
   ⟨[1], [[1, 31, 32, 33]], []⟩,
   ⟨[4], [], []⟩,
   ⟨[], [[0, 1, 8, 9, 10]], []⟩,
   ⟨[], [], []⟩,
   ⟨[4], [], []⟩,
   ⟨[3, 5, 6], [], []⟩,
   ⟨[], [], []⟩,
   ⟨[], [], []⟩,
   ⟨[3], [], []⟩,
   ⟨[], [], []⟩,
   ⟨[2, 4], [], []⟩,
   ⟨[], [], []⟩,
   ⟨[], [], []⟩,
   ⟨[], [], []⟩,
   ⟨[], [], []⟩,
   ⟨[], [], []⟩,
   ⟨[], [], []⟩,
   ⟨[], [], []⟩,
   ⟨[], [], []⟩,
   ⟨[], [], []⟩,
   ⟨[], [], []⟩,
   ⟨[], [], []⟩,
   ⟨[], [], []⟩,
   ⟨[], [], []⟩,
   ⟨[], [], []⟩,
   ⟨[], [], []⟩,
   ⟨[], [], []⟩,
   ⟨[], [], []⟩,
   ⟨[], [], []⟩,
   ⟨[], [], []⟩,
   ⟨[], [], []⟩]
def tbl (f : FuncId) : Note := (getAt f notes).getD ⟨[], [], []⟩
noncomputable def ann : FuncId → Option Ann := annOf Try.prog tbl
theorem follows : Try.prog.follows .mixedOrders = true := by kernel_rfl
theorem annok : AnnOk Try.prog ann := annOf_ok _ _ (by decide +kernel)
/-- Functions told by contracts of the kit: none here. -/
def ext : Ext := fun _ _ => none
theorem extok : ExtOk Try.prog ext := noExt_ok _
noncomputable abbrev FF (mk : Mk) (k lo : Nat) (f : FuncId) (args : List Val) (H : List Blk) : Option (Val × List Blk) := F mk Try.prog ann ext k lo f args H
end Go.Proofs.Ytkjcipdfciajhaa.VM
