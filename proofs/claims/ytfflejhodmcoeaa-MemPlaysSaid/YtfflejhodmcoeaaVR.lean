/- A plain machine for the program's functions: what is told beside each. -/
import Derived.Test.YtfflejhodmcoeaaVQ
import Derived.Test.YtfflejhodmcoeaaProg
import Derived.KernelRfl
namespace Go.Proofs.Ytfflejhodmcoeaa.VM
open Go Go.RowKit
set_option linter.unusedVariables false
set_option linter.unusedSimpArgs false
def notes : List Note := [⟨[], [], []⟩,
   ⟨[], [], []⟩,
   ⟨[], [], []⟩,
   ⟨[6, 19, 85, 102, 138], [[0, 3, 4, 5], [0, 3, 4, 5, 7, 8, 9, 10, 13, 14]], []⟩,
   ⟨[15], [[0, 7, 8, 9, 10, 11, 12]], []⟩,
   ⟨[], [[0, 1, 5, 6, 7], [0, 1, 5, 6, 8, 9]], [13]⟩,
   ⟨[4, 9, 11, 13], [], []⟩,
   ⟨[], [], []⟩,
   ⟨[2], [], []⟩,
   ⟨[], [], []⟩,
   ⟨[7], [], []⟩,
   ⟨[], [], []⟩,
   ⟨[], [[0, 1, 8, 9, 10]], []⟩,
   ⟨[], [[0, 1, 6]], []⟩,
   ⟨[6, 10], [], []⟩,
   ⟨[], [], []⟩,
   ⟨[], [], []⟩,
   ⟨[], [], []⟩,
   ⟨[2, 4], [], []⟩,
   ⟨[], [], []⟩,
   ⟨[], [], []⟩,
   ⟨[], [], []⟩,
   ⟨[3], [], []⟩,
   ⟨[], [], []⟩,
   ⟨[2], [], []⟩,
   ⟨[2, 4], [], []⟩,
   ⟨[4], [[0, 4, 8, 9]], []⟩,
   ⟨[4, 5, 6], [], []⟩,
   ⟨[3, 4, 5], [], []⟩,
   ⟨[4], [], []⟩,
   ⟨[3], [], []⟩,
   ⟨[], [], []⟩,
   ⟨[], [], []⟩,
   ⟨[], [], []⟩,
   ⟨[], [], []⟩,
   ⟨[], [], []⟩,
   ⟨[], [], []⟩,
   ⟨[], [], []⟩,
   ⟨[7], [[0, 1, 2, 7, 8]], []⟩,
   ⟨[3], [], []⟩,
   ⟨[2, 4], [], []⟩,
   ⟨[4], [], []⟩,
   ⟨[3, 5, 6], [], []⟩,
   ⟨[], [], []⟩,
   ⟨[4], [], [1]⟩,
   ⟨[], [], []⟩,
   ⟨[3], [], []⟩,
   ⟨[], [], []⟩,
   ⟨[3], [], []⟩,
   ⟨[], [], []⟩,
   ⟨[2, 4], [], []⟩,
   ⟨[], [], []⟩,
   ⟨[], [], []⟩,
   ⟨[], [], []⟩,
   ⟨[], [], []⟩,
   ⟨[], [], []⟩,
   ⟨[], [], []⟩,
   ⟨[], [], []⟩,
   ⟨[], [], []⟩,
   ⟨[], [], []⟩,
   ⟨[], [], []⟩,
   ⟨[], [], []⟩,
   ⟨[], [], []⟩,
   ⟨[], [], []⟩,
   ⟨[], [], []⟩,
   ⟨[], [], []⟩,
   ⟨[], [], []⟩,
   ⟨[], [], []⟩]
def tbl (f : FuncId) : Note := (getAt f notes).getD ⟨[], [], []⟩
noncomputable def ann : FuncId → Option Ann := annOf Try.prog tbl
theorem follows : Try.prog.follows .mixedOrders = true := by kernel_rfl
theorem annok : AnnOk Try.prog ann := annOf_ok _ _ (by decide +kernel)
/-- Functions told by contracts of the kit: none here. -/
def ext : Ext := fun _ _ => none
theorem extok : ExtOk Try.prog ext := noExt_ok _
noncomputable abbrev FF (mk : Mk) (k lo : Nat) (f : FuncId) (args : List Val) (H : List Blk) : Option (Val × List Blk) := F mk Try.prog ann ext k lo f args H
end Go.Proofs.Ytfflejhodmcoeaa.VM
