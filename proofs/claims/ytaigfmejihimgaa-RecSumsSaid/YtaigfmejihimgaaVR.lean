/- A plain machine for the program's functions: what is told beside each. -/
import Derived.Test.YtaigfmejihimgaaVQ
import Derived.Test.YtaigfmejihimgaaProg
import Derived.KernelRfl
namespace Go.Proofs.Ytaigfmejihimgaa.VM
open Go Go.RowKit
set_option linter.unusedVariables false
set_option linter.unusedSimpArgs false
def notes : List Note := [⟨[], [], []⟩,
   ⟨[], [], []⟩,
   ⟨[], [], []⟩,
   ⟨[10, 13], [], [6]⟩,
   ⟨[5, 10, 16], [], []⟩,
   ⟨[14, 17, 54, 138], [[0, 1, 5, 6, 7], [1, 5, 6, 9, 13]], []⟩,
   ⟨[7, 20], [], []⟩,
   ⟨[1, 27], [], []⟩,
   ⟨[2], [], []⟩,
   ⟨[2], [], []⟩,
   ⟨[], [[3, 6, 7, 8]], []⟩,
   ⟨[], [[0, 3, 4]], []⟩,
   ⟨[5, 22], [[0, 4]], []⟩,
   ⟨[6], [[4, 8, 9, 10]], []⟩,
   ⟨[16], [[0, 1, 5, 6]], []⟩,
   ⟨[], [], []⟩,
   ⟨[], [], []⟩,
   ⟨[], [], []⟩,
   ⟨[], [], []⟩,
   ⟨[], [], []⟩,
   ⟨[], [], []⟩,
   ⟨[], [], []⟩,
   ⟨[], [], []⟩,
   ⟨[], [], []⟩,
   ⟨[], [], []⟩,
   ⟨[], [], []⟩,
   ⟨[], [], []⟩,
   ⟨[], [], []⟩,
   ⟨[], [], []⟩,
   ⟨[], [], []⟩,
   ⟨[], [], []⟩,
   ⟨[], [], []⟩,
   ⟨[], [], []⟩,
   ⟨[], [], []⟩]
def tbl (f : FuncId) : Note := (getAt f notes).getD ⟨[], [], []⟩
noncomputable def ann : FuncId → Option Ann := annOf Try.prog tbl
theorem follows : Try.prog.follows .mixedOrders = true := by kernel_rfl
theorem annok : AnnOk Try.prog ann := annOf_ok _ _ (by decide +kernel)
/-- Functions told by contracts of the kit: none here. -/
def ext : Ext := fun _ _ => none
theorem extok : ExtOk Try.prog ext := noExt_ok _
noncomputable abbrev FF (mk : Mk) (k lo : Nat) (f : FuncId) (args : List Val) (H : List Blk) : Option (Val × List Blk) := F mk Try.prog ann ext k lo f args H
end Go.Proofs.Ytaigfmejihimgaa.VM
