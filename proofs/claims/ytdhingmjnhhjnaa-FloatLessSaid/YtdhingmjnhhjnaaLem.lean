/- Plain facts on words and bits: no program. -/
import Derived.Laws.BitsLemmas
import Derived.Laws.BitsAllLaws
import Derived.RowKit
namespace Go.Proofs.Ytdhingmjnhhjnaa.My
open Go.RowKit
theorem wf_u8 {a : Int} (h : (Lit.int .u8 a).wf = true) : 0 ≤ a ∧ a < 256 := by
  simp [Lit.wf, IntKind.min, IntKind.max, IntKind.signed, IntKind.bits] at h; omega
theorem wf_u16 {a : Int} (h : (Lit.int .u16 a).wf = true) : 0 ≤ a ∧ a < 65536 := by
  simp [Lit.wf, IntKind.min, IntKind.max, IntKind.signed, IntKind.bits] at h; omega
theorem wf_u32 {a : Int} (h : (Lit.int .u32 a).wf = true) : 0 ≤ a ∧ a < 4294967296 := by
  simp [Lit.wf, IntKind.min, IntKind.max, IntKind.signed, IntKind.bits] at h; omega
theorem wf_u64 {a : Int} (h : (Lit.int .u64 a).wf = true) : 0 ≤ a ∧ a < 18446744073709551616 := by
  simp [Lit.wf, IntKind.min, IntKind.max, IntKind.signed, IntKind.bits] at h; omega
theorem wf_i64 {a : Int} (h : (Lit.int .i64 a).wf = true) : -9223372036854775808 ≤ a ∧ a ≤ 9223372036854775807 := by
  simp [Lit.wf, IntKind.min, IntKind.max, IntKind.signed, IntKind.bits] at h; omega
theorem i64_small (n : Nat) (h : n < 2 ^ 63) : IntKind.i64.wrap (n : Int) = n := by
  rw [IntKind.wrap_i64]; omega
/-- The lowest bits of a whole number, whatever its sign. -/
theorem i64_mask (m : Nat) (hm : m ≤ 62) (x : Int) : Go.bits .and .i64 x (2 ^ m - 1) = x % 2 ^ m := by
  have hp : 2 ^ m ≤ 2 ^ 62 := Nat.pow_le_pow_right (by decide) hm
  have hq : 0 < 2 ^ m := Nat.two_pow_pos m
  have hc : ((2 : Int) ^ m - 1) = ((2 ^ m - 1 : Nat) : Int) := by rw [Int.natCast_sub hq]; simp
  have hb : (2 ^ m - 1) % 2 ^ 64 = 2 ^ m - 1 := Nat.mod_eq_of_lt (by omega)
  have key : Go.bits .and .i64 x (2 ^ m - 1) = IntKind.i64.wrap (((x % 2 ^ 64).toNat % 2 ^ m : Nat) : Int) := by
    rw [hc]
    show IntKind.i64.wrap (((BitVec.ofInt 64 x &&& BitVec.ofInt 64 ((2 ^ m - 1 : Nat) : Int)).toNat : Nat) : Int) = _
    rw [BitVec.ofInt_natCast, BitVec.toNat_and, BitVec.toNat_ofInt, BitVec.toNat_ofNat, hb, Nat.and_two_pow_sub_one_eq_mod]
    rfl
  rw [key, i64_small _ (Nat.lt_of_lt_of_le (Nat.mod_lt _ hq) (by omega))]
  rw [Int.natCast_emod, Int.toNat_of_nonneg (by omega)]
  have hd : ((2 ^ m : Nat) : Int) ∣ 2 ^ 64 := by
    have : 2 ^ m ∣ 2 ^ 64 := Nat.pow_dvd_pow 2 (by omega)
    exact_mod_cast Int.natCast_dvd_natCast.2 this
  rw [Int.emod_emod_of_dvd _ hd]
  simp
/-- Without the lowest bits: a multiple. -/
theorem i64_clear (m : Nat) (hm : m ≤ 62) (n : Nat) (hn : n < 2 ^ 63) : Go.bits .andNot .i64 n (2 ^ m - 1) = ((n / 2 ^ m * 2 ^ m : Nat) : Int) := by
  have hp : 2 ^ m ≤ 2 ^ 62 := Nat.pow_le_pow_right (by decide) hm
  have hq : 0 < 2 ^ m := Nat.two_pow_pos m
  have hc : ((2 : Int) ^ m - 1) = ((2 ^ m - 1 : Nat) : Int) := by rw [Int.natCast_sub hq]; simp
  have e : (BitVec.ofNat 64 n &&& ~~~BitVec.ofNat 64 (2 ^ m - 1)) = BitVec.ofNat 64 n >>> m <<< m := by
    apply BitVec.eq_of_getLsbD_eq
    intro i hi
    simp only [BitVec.getLsbD_and, BitVec.getLsbD_not, BitVec.getLsbD_shiftLeft, BitVec.getLsbD_ushiftRight, BitVec.getLsbD_ofNat, Nat.testBit_two_pow_sub_one, hi, decide_true, Bool.true_and]
    by_cases h : i < m
    · simp [h]
    · simp [h]
      have : m + (i - m) = i := by omega
      rw [this]
      simp [hi]
  have hle : n / 2 ^ m * 2 ^ m ≤ n := Nat.div_mul_le_self n _
  have key : Go.bits .andNot .i64 n (2 ^ m - 1) = IntKind.i64.wrap ((n / 2 ^ m * 2 ^ m : Nat) : Int) := by
    rw [hc]
    show IntKind.i64.wrap (((BitVec.ofInt 64 (n : Int) &&& ~~~BitVec.ofInt 64 ((2 ^ m - 1 : Nat) : Int)).toNat : Nat) : Int) = _
    rw [BitVec.ofInt_natCast, BitVec.ofInt_natCast, e]
    congr 2
    simp only [BitVec.toNat_shiftLeft, BitVec.toNat_ushiftRight, BitVec.toNat_ofNat, Nat.shiftLeft_eq, Nat.shiftRight_eq_div_pow]
    rw [Nat.mod_eq_of_lt (a := n) (by omega), Nat.mod_eq_of_lt (by omega)]
  rw [key, i64_small _ (by omega)]
end Go.Proofs.Ytdhingmjnhhjnaa.My
