/- Registers' bytes as the plain machine has them. -/
import Derived.Test.YtkjcipdfciajhaaWA
namespace Go.Proofs.Ytkjcipdfciajhaa.VM
open Go Go.RowKit
set_option linter.unusedVariables false
set_option linter.unusedSimpArgs false
set_option maxRecDepth 40000
/-- A register's byte. -/
def byteOf (g : Nat → VT) (n : Int) : Int := if 3 < n then (g (n.toNat % 4)).1 / 256 else (g (n.toNat % 4)).1 % 256
/-- A word with another byte. -/
def withByte (g : Nat → VT) (n b : Int) : Int := if 3 < n then (g (n.toNat % 4)).1 % 256 + 256 * b else b + 256 * ((g (n.toNat % 4)).1 / 256)
theorem i8cases {n : Int} (h : 0 ≤ n ∧ n < 8) : n = 0 ∨ n = 1 ∨ n = 2 ∨ n = 3 ∨ n = 4 ∨ n = 5 ∨ n = 6 ∨ n = 7 := by omega
theorem u8_low (x : Int) : U8 (x % 256) := by unfold U8; omega
theorem u8_high {x : Int} (h : U16 x) : U8 (x / 256) := by unfold U8; unfold U16 at h; omega
theorem eqBadRegs (mk : Mk) : mk.bad Try.prog 34 = false := (mk.bad_ok _ _).trans (by kernel_rfl)
theorem eqBadVal (mk : Mk) : mk.bad Try.prog 28 = false := (mk.bad_ok _ _).trans (by kernel_rfl)
end Go.Proofs.Ytkjcipdfciajhaa.VM
