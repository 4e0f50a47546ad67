/- A plain machine for the program's functions: what is told beside each. -/
import Derived.Test.YtbkniomfegbdaaaVQ
import Derived.Test.YtbkniomfegbdaaaProg
import Derived.KernelRfl
namespace Go.Proofs.Ytbkniomfegbdaaa.VM
open Go Go.RowKit
set_option linter.unusedVariables false
set_option linter.unusedSimpArgs false
def notes : List Note := [⟨[], [], []⟩,
   ⟨[], [], []⟩,
   ⟨[], [], []⟩,
   ⟨[3, 4, 7, 12, 68, 72, 110], [[2, 3, 4, 7, 8, 9], [2, 3, 4, 7, 8, 9, 10, 11], [3, 7, 8, 12, 13, 14], [3, 7, 8, 12, 13, 15, 16, 110, 111, 112]], []⟩,
   ⟨[4, 9, 10, 15, 17, 20, 22, 23, 44, 125, 213, 254], [[0, 3, 4, 5, 6], [0, 3, 4, 5, 6, 7, 8, 9, 10, 11, 12], [0, 3, 4, 5, 6, 13, 14], [0, 3, 4, 5, 6, 17, 18, 19]], []⟩,
   ⟨[10, 30], [[0, 5, 6, 7]], []⟩,
   ⟨[1, 2, 3], [[1, 2, 3, 4]], []⟩,
   ⟨[4, 6, 9], [], []⟩,
   ⟨[4, 6], [[3, 6, 10, 11, 12]], []⟩,
   ⟨[4, 6], [[1, 3, 4, 6, 28, 29]], []⟩,
   ⟨[3, 5], [], []⟩,
   ⟨[1], [], []⟩,
   ⟨[], [], []⟩,
   ⟨[], [[0, 3, 12, 13]], []⟩,
   ⟨[6, 31, 38], [], []⟩,
   ⟨[3, 4, 5, 8, 34, 39], [[0, 4, 5, 18, 19, 20]], []⟩,
   ⟨[4], [], []⟩,
   ⟨[], [], []⟩,
   ⟨[5], [], []⟩,
   ⟨[4, 8], [], []⟩,
   ⟨[], [], []⟩,
   ⟨[], [], []⟩,
   ⟨[], [[0, 1, 7, 8]], []⟩,
   ⟨[], [[0, 1, 7, 8]], []⟩,
   ⟨[], [], []⟩,
   ⟨[], [], []⟩,
   ⟨[], [], []⟩,
   ⟨[], [], []⟩,
   ⟨[], [], []⟩,
   ⟨[], [], []⟩,
   ⟨[], [], []⟩,
   ⟨[], [], []⟩,
   ⟨[], [], []⟩,
   ⟨[], [], []⟩,
   ⟨[], [], []⟩,
   ⟨[], [], []⟩,
   ⟨[], [], []⟩,
   ⟨[], [], []⟩,
   ⟨[], [], []⟩,
   ⟨[], [], []⟩]
def tbl (f : FuncId) : Note := (getAt f notes).getD ⟨[], [], []⟩
noncomputable def ann : FuncId → Option Ann := annOf Try.prog tbl
theorem follows : Try.prog.follows .mixedOrders = true := by kernel_rfl
theorem annok : AnnOk Try.prog ann := annOf_ok _ _ (by decide +kernel)
/-- Functions told by contracts of the kit: none here. -/
def ext : Ext := fun _ _ => none
theorem extok : ExtOk Try.prog ext := noExt_ok _
noncomputable abbrev FF (mk : Mk) (k lo : Nat) (f : FuncId) (args : List Val) (H : List Blk) : Option (Val × List Blk) := F mk Try.prog ann ext k lo f args H
end Go.Proofs.Ytbkniomfegbdaaa.VM
