/- A plain machine for the program's functions: what is told beside each. -/
import Derived.Test.YtndgcjkmikhchaaVQ
import Derived.Test.YtndgcjkmikhchaaProg
import Derived.KernelRfl
namespace Go.Proofs.Ytndgcjkmikhchaa.VM
open Go Go.RowKit
set_option linter.unusedVariables false
set_option linter.unusedSimpArgs false
def notes : List Note := [⟨[], [], []⟩,
   ⟨[], [], []⟩,
   ⟨[], [], []⟩,
   ⟨[2], [], []⟩,
   ⟨[], [[0, 1, 3, 4, 13, 14, 35, 36]], []⟩,
   ⟨[36], [[0, 1, 2, 3, 4, 12, 13, 14], [0, 2, 4, 12, 13, 15, 16, 17, 18], [0, 2, 4, 12, 13, 15, 16, 17, 18, 19, 20, 21, 22]], []⟩,
   ⟨[], [], []⟩,
   ⟨[], [], []⟩,
   ⟨[], [], []⟩,
   ⟨[], [], []⟩,
   ⟨[], [], []⟩,
   ⟨[], [], []⟩,
   ⟨[], [[0, 1, 5]], []⟩,
   ⟨[], [[0, 3, 4, 5]], []⟩,
   ⟨[], [], []⟩,
   ⟨[], [], []⟩,
   ⟨[], [], []⟩,
   ⟨[], [], []⟩,
   ⟨[], [], []⟩,
   ⟨[], [[0, 1, 5, 6]], []⟩,
   ⟨[], [], []⟩,
   ⟨[], [], []⟩,
   ⟨[], [], []⟩,
   ⟨[], [], []⟩,
   ⟨[], [], []⟩,
   ⟨[], [], []⟩,
   ⟨[], [], []⟩,
   ⟨[], [], []⟩,
   ⟨[], [], []⟩,
   ⟨[], [], []⟩,
   ⟨[], [], []⟩,
   ⟨[], [], []⟩,
   ⟨[], [], []⟩,
   ⟨[], [], []⟩,
   ⟨[], [], []⟩,
   ⟨[], [], []⟩]
def tbl (f : FuncId) : Note := (getAt f notes).getD ⟨[], [], []⟩
noncomputable def ann : FuncId → Option Ann := annOf Try.prog tbl
theorem follows : Try.prog.follows .mixedOrders = true := by kernel_rfl
theorem annok : AnnOk Try.prog ann := annOf_ok _ _ (by decide +kernel)
/-- Functions told by contracts of the kit: none here. -/
def ext : Ext := fun _ _ => none
theorem extok : ExtOk Try.prog ext := noExt_ok _
noncomputable abbrev FF (mk : Mk) (k lo : Nat) (f : FuncId) (args : List Val) (H : List Blk) : Option (Val × List Blk) := F mk Try.prog ann ext k lo f args H
end Go.Proofs.Ytndgcjkmikhchaa.VM
