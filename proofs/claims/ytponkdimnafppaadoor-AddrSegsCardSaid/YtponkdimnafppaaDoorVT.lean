/- Whole numbers as the plain machine tells them. -/
import Derived.Test.YtponkdimnafppaaDoorVS
namespace Go.Proofs.YtponkdimnafppaaDoor.VM
open Go Go.RowKit
set_option linter.unusedVariables false
set_option linter.unusedSimpArgs false
theorem w64 (x : Int) : IntKind.i64.wrap x = (x + 9223372036854775808) % 18446744073709551616 - 9223372036854775808 := by
  unfold IntKind.wrap IntKind.signed IntKind.bits; simp; omega
theorem w32 (x : Int) : IntKind.i32.wrap x = (x + 2147483648) % 4294967296 - 2147483648 := by
  unfold IntKind.wrap IntKind.signed IntKind.bits; simp; omega
theorem wu8 (x : Int) : IntKind.u8.wrap x = x % 256 := by
  unfold IntKind.wrap IntKind.signed IntKind.bits; simp
theorem wu16 (x : Int) : IntKind.u16.wrap x = x % 65536 := by
  unfold IntKind.wrap IntKind.signed IntKind.bits; simp
theorem wu32 (x : Int) : IntKind.u32.wrap x = x % 4294967296 := by
  unfold IntKind.wrap IntKind.signed IntKind.bits; simp
theorem wu64 (x : Int) : IntKind.u64.wrap x = x % 18446744073709551616 := by
  unfold IntKind.wrap IntKind.signed IntKind.bits; simp
/-- A number that an int can be. -/
def I64 (x : Int) : Prop := -9223372036854775808 ≤ x ∧ x ≤ 9223372036854775807
theorem w64_id {x : Int} (h : I64 x) : IntKind.i64.wrap x = x := by rw [w64]; unfold I64 at h; omega
theorem tmod_pos (n c : Int) (hc : 0 < c) : n.tmod c = if 0 ≤ n then n % c else -((-n) % c) := by
  split
  · rename_i h; exact Int.tmod_eq_emod_of_nonneg h
  · rename_i h
    have : n = -(-n) := by omega
    rw [this, Int.neg_tmod, Int.tmod_eq_emod_of_nonneg (by omega)]
    simp
theorem tdiv_pos (n c : Int) (hc : 0 < c) : n.tdiv c = if 0 ≤ n then n / c else -((-n) / c) := by
  split
  · rename_i h; exact Int.tdiv_eq_ediv_of_nonneg h
  · rename_i h
    have : n = -(-n) := by omega
    rw [this, Int.neg_tdiv, Int.tdiv_eq_ediv_of_nonneg (by omega)]
    simp
theorem fdiv_pos (n c : Int) (hc : 0 < c) : n.fdiv c = n / c := Int.fdiv_eq_ediv_of_nonneg n (Int.le_of_lt hc)
/-- The lowest bits of a number. -/
theorem and_low (b : Nat) (x : Int) (m : Nat) (hm : m < b) : (BitVec.ofInt b x &&& BitVec.ofInt b (((2 ^ m - 1 : Nat)) : Int)).toNat = (x % (2 ^ m : Nat)).toNat := by
  have h2 : (2 : Nat) ^ m < 2 ^ b := Nat.pow_lt_pow_right (by decide) hm
  have h0 : 0 < (2 : Nat) ^ m := Nat.pow_pos (by decide)
  rw [BitVec.toNat_and, BitVec.toNat_ofInt, BitVec.toNat_ofInt]
  have e1 : ((((2 ^ m - 1 : Nat)) : Int) % ((2 ^ b : Nat) : Int)).toNat = 2 ^ m - 1 := by
    show (((2 ^ m - 1) % 2 ^ b : Nat) : Int).toNat = _
    rw [Int.toNat_natCast, Nat.mod_eq_of_lt (by omega)]
  rw [e1, Nat.and_two_pow_sub_one_eq_mod]
  have hx : 0 ≤ x % ((2 ^ b : Nat) : Int) := Int.emod_nonneg _ (by have : 0 < (2 : Nat) ^ b := Nat.pow_pos (by decide); omega)
  obtain ⟨y, hy⟩ := Int.eq_ofNat_of_zero_le hx
  have hdvd : ((2 ^ m : Nat) : Int) ∣ ((2 ^ b : Nat) : Int) := by
    rw [Int.natCast_dvd_natCast]
    exact Nat.pow_dvd_pow 2 (Nat.le_of_lt hm)
  rw [hy, Int.toNat_natCast]
  have : x % ((2 ^ m : Nat) : Int) = (y : Int) % ((2 ^ m : Nat) : Int) := by
    rw [← hy, Int.emod_emod_of_dvd _ hdvd]
  rw [this]
  show _ = ((y % 2 ^ m : Nat) : Int).toNat
  rw [Int.toNat_natCast]
theorem and64_1 (x : Int) : IntKind.i64.wrap ((BitVec.ofInt IntKind.i64.bits x &&& BitVec.ofInt IntKind.i64.bits 1).toNat : Nat) = x % 2 := by
  have h := and_low 64 x 1 (by decide)
  have e : (BitVec.ofInt IntKind.i64.bits x &&& BitVec.ofInt IntKind.i64.bits 1).toNat = (x % ((2 ^ 1 : Nat) : Int)).toNat := h
  rw [e, w64, show ((2 ^ 1 : Nat) : Int) = 2 from rfl]
  omega
theorem and64_3 (x : Int) : IntKind.i64.wrap ((BitVec.ofInt IntKind.i64.bits x &&& BitVec.ofInt IntKind.i64.bits 3).toNat : Nat) = x % 4 := by
  have h := and_low 64 x 2 (by decide)
  have e : (BitVec.ofInt IntKind.i64.bits x &&& BitVec.ofInt IntKind.i64.bits 3).toNat = (x % ((2 ^ 2 : Nat) : Int)).toNat := h
  rw [e, w64, show ((2 ^ 2 : Nat) : Int) = 4 from rfl]
  omega
theorem and64_7 (x : Int) : IntKind.i64.wrap ((BitVec.ofInt IntKind.i64.bits x &&& BitVec.ofInt IntKind.i64.bits 7).toNat : Nat) = x % 8 := by
  have h := and_low 64 x 3 (by decide)
  have e : (BitVec.ofInt IntKind.i64.bits x &&& BitVec.ofInt IntKind.i64.bits 7).toNat = (x % ((2 ^ 3 : Nat) : Int)).toNat := h
  rw [e, w64, show ((2 ^ 3 : Nat) : Int) = 8 from rfl]
  omega
theorem and64_15 (x : Int) : IntKind.i64.wrap ((BitVec.ofInt IntKind.i64.bits x &&& BitVec.ofInt IntKind.i64.bits 15).toNat : Nat) = x % 16 := by
  have h := and_low 64 x 4 (by decide)
  have e : (BitVec.ofInt IntKind.i64.bits x &&& BitVec.ofInt IntKind.i64.bits 15).toNat = (x % ((2 ^ 4 : Nat) : Int)).toNat := h
  rw [e, w64, show ((2 ^ 4 : Nat) : Int) = 16 from rfl]
  omega
theorem and64_31 (x : Int) : IntKind.i64.wrap ((BitVec.ofInt IntKind.i64.bits x &&& BitVec.ofInt IntKind.i64.bits 31).toNat : Nat) = x % 32 := by
  have h := and_low 64 x 5 (by decide)
  have e : (BitVec.ofInt IntKind.i64.bits x &&& BitVec.ofInt IntKind.i64.bits 31).toNat = (x % ((2 ^ 5 : Nat) : Int)).toNat := h
  rw [e, w64, show ((2 ^ 5 : Nat) : Int) = 32 from rfl]
  omega
theorem and64_255 (x : Int) : IntKind.i64.wrap ((BitVec.ofInt IntKind.i64.bits x &&& BitVec.ofInt IntKind.i64.bits 255).toNat : Nat) = x % 256 := by
  have h := and_low 64 x 8 (by decide)
  have e : (BitVec.ofInt IntKind.i64.bits x &&& BitVec.ofInt IntKind.i64.bits 255).toNat = (x % ((2 ^ 8 : Nat) : Int)).toNat := h
  rw [e, w64, show ((2 ^ 8 : Nat) : Int) = 256 from rfl]
  omega
theorem and16_1 (x : Int) : IntKind.u16.wrap ((BitVec.ofInt IntKind.u16.bits x &&& BitVec.ofInt IntKind.u16.bits 1).toNat : Nat) = x % 2 := by
  have h := and_low 16 x 1 (by decide)
  have e : (BitVec.ofInt IntKind.u16.bits x &&& BitVec.ofInt IntKind.u16.bits 1).toNat = (x % ((2 ^ 1 : Nat) : Int)).toNat := h
  rw [e, wu16, show ((2 ^ 1 : Nat) : Int) = 2 from rfl]
  omega
theorem and16_7 (x : Int) : IntKind.u16.wrap ((BitVec.ofInt IntKind.u16.bits x &&& BitVec.ofInt IntKind.u16.bits 7).toNat : Nat) = x % 8 := by
  have h := and_low 16 x 3 (by decide)
  have e : (BitVec.ofInt IntKind.u16.bits x &&& BitVec.ofInt IntKind.u16.bits 7).toNat = (x % ((2 ^ 3 : Nat) : Int)).toNat := h
  rw [e, wu16, show ((2 ^ 3 : Nat) : Int) = 8 from rfl]
  omega
theorem and16_15 (x : Int) : IntKind.u16.wrap ((BitVec.ofInt IntKind.u16.bits x &&& BitVec.ofInt IntKind.u16.bits 15).toNat : Nat) = x % 16 := by
  have h := and_low 16 x 4 (by decide)
  have e : (BitVec.ofInt IntKind.u16.bits x &&& BitVec.ofInt IntKind.u16.bits 15).toNat = (x % ((2 ^ 4 : Nat) : Int)).toNat := h
  rw [e, wu16, show ((2 ^ 4 : Nat) : Int) = 16 from rfl]
  omega
end Go.Proofs.YtponkdimnafppaaDoor.VM
