/- LineNamed by the plain machine: what a call comes to, reckoned in the kernel. -/
import Derived.Test.YtneacfkkijjjlaaVX
namespace Go.Proofs.Ytneacfkkijjjlaa.VM
open Go Go.RowKit
set_option linter.unusedVariables false
set_option linter.unusedSimpArgs false
set_option maxRecDepth 100000
set_option maxHeartbeats 3200000
def isTrue (o : Option (Val × List Blk)) : Bool := match o with
  | some (.bool b, _) => b
  | _ => false
theorem ends_true {o : Option (Val × List Blk)} (h : isTrue o = true) : Ends o (fun r => r.1 = .bool true) := by
  unfold isTrue at h
  split at h
  · subst h; exact ⟨_, rfl, rfl⟩
  · cases h
end Go.Proofs.Ytneacfkkijjjlaa.VM
