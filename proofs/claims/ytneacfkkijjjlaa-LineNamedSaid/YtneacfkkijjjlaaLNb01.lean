/- LineNamed by the plain machine: some cases, colon false. -/
import Derived.Test.YtneacfkkijjjlaaLNa
namespace Go.Proofs.Ytneacfkkijjjlaa.VM
open Go Go.RowKit
set_option linter.unusedVariables false
set_option linter.unusedSimpArgs false
set_option maxRecDepth 100000
set_option maxHeartbeats 3200000
theorem lineNamed_false_4 (n : Int) (h : (IntKind.i64.wrap ((BitVec.ofInt IntKind.i64.bits n &&& BitVec.ofInt IntKind.i64.bits 255).toNat : Nat)).tmod 13 = 4) : Ends (FF Mk.plain 90 0 4 [.int .i64 n, .bool false] []) (fun r => r.1 = .bool true) := by
  conv => enter [1]; whnf
  rw [h]
  exact ends_true (by kernel_rfl)
theorem lineNamed_false_5 (n : Int) (h : (IntKind.i64.wrap ((BitVec.ofInt IntKind.i64.bits n &&& BitVec.ofInt IntKind.i64.bits 255).toNat : Nat)).tmod 13 = 5) : Ends (FF Mk.plain 90 0 4 [.int .i64 n, .bool false] []) (fun r => r.1 = .bool true) := by
  conv => enter [1]; whnf
  rw [h]
  exact ends_true (by kernel_rfl)
theorem lineNamed_false_6 (n : Int) (h : (IntKind.i64.wrap ((BitVec.ofInt IntKind.i64.bits n &&& BitVec.ofInt IntKind.i64.bits 255).toNat : Nat)).tmod 13 = 6) : Ends (FF Mk.plain 90 0 4 [.int .i64 n, .bool false] []) (fun r => r.1 = .bool true) := by
  conv => enter [1]; whnf
  rw [h]
  exact ends_true (by kernel_rfl)
theorem lineNamed_false_7 (n : Int) (h : (IntKind.i64.wrap ((BitVec.ofInt IntKind.i64.bits n &&& BitVec.ofInt IntKind.i64.bits 255).toNat : Nat)).tmod 13 = 7) : Ends (FF Mk.plain 90 0 4 [.int .i64 n, .bool false] []) (fun r => r.1 = .bool true) := by
  conv => enter [1]; whnf
  rw [h]
  exact ends_true (by kernel_rfl)
end Go.Proofs.Ytneacfkkijjjlaa.VM
