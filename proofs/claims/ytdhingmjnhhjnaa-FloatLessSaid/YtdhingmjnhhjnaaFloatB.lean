/- Contract of the walk of hansomref35.Bits: it answers what the format's division answers. -/
import Derived.Test.YtdhingmjnhhjnaaFloatE
import Derived.Test.YtdhingmjnhhjnaaFloatQ
namespace Go.Proofs.Ytdhingmjnhhjnaa.My
open Go.RowKit Go.Proofs.YtdhingmjnhhjnaaW.PrintWords Go.Proofs.YtdhingmjnhhjnaaW.PrintLast Go.Proofs.YtdhingmjnhhjnaaW.PrintMore
set_option linter.unusedVariables false
set_option linter.unusedSimpArgs false
theorem twice_hi (r d : Nat) (h : r < d) (hd : d ≤ 18014398509481984) (ht : d < 2 * r) (w : World) : Calls Try.prog 48 #[.int .u64 r, .int .u64 d] w fun e w' => e = .returned (.int .i64 1) ∧ w = w' := by
  go_enter Try.func48, Try.ntmps48
  go_wp2_with fail
  go_ret
  exact ⟨rfl, rfl⟩
theorem twice_eq (r d : Nat) (h : r < d) (hd : d ≤ 18014398509481984) (ht : d = 2 * r) (w : World) : Calls Try.prog 48 #[.int .u64 r, .int .u64 d] w fun e w' => e = .returned (.int .i64 0) ∧ w = w' := by
  go_enter Try.func48, Try.ntmps48
  go_wp2_with fail
  go_ret
  exact ⟨rfl, rfl⟩
theorem twice_lo (r d : Nat) (h : r < d) (hd : d ≤ 18014398509481984) (ht : 2 * r < d) (w : World) : Calls Try.prog 48 #[.int .u64 r, .int .u64 d] w fun e w' => e = .returned (.int .i64 (-1)) ∧ w = w' := by
  go_enter Try.func48, Try.ntmps48
  go_wp2_with fail
  go_ret
  exact ⟨rfl, rfl⟩
theorem pow_le_53 (q Y : Nat) (h : 2 ^ q ≤ Y) (hY : Y ≤ 9007199254740992) : q ≤ 53 := by
  apply Nat.le_of_not_lt
  intro hq
  have : 2 ^ 54 ≤ 2 ^ q := Nat.pow_le_pow_right (by decide) hq
  have e : (2 : Nat) ^ 54 = 18014398509481984 := by decide +kernel
  omega
theorem step_div (X Y i m r : Nat) (h : X * 2 ^ i = Y * m + r) : X * 2 ^ (i + 1) = Y * (2 * m) + 2 * r := by
  rw [Nat.pow_succ, ← Nat.mul_assoc, h, Nat.add_mul, Nat.mul_assoc, Nat.mul_comm m 2, Nat.mul_comm r 2]
theorem step_div1 (X Y i m r : Nat) (h : X * 2 ^ i = Y * m + r) (hr : Y ≤ 2 * r) : X * 2 ^ (i + 1) = Y * (2 * m + 1) + (2 * r - Y) := by
  rw [step_div X Y i m r h, Nat.mul_add, Nat.mul_one]; omega
theorem m_lt (X Y i m r : Nat) (h : X * 2 ^ i = Y * m + r) (hX : X < Y) (hi : i ≤ 53) : m < 9007199254740992 := by
  have h1 : X * 2 ^ i < Y * 2 ^ i := Nat.mul_lt_mul_of_pos_right hX (Nat.two_pow_pos _)
  have h2 : Y * m < Y * 2 ^ i := by omega
  have h3 : m < 2 ^ i := Nat.lt_of_mul_lt_mul_left h2
  have h4 : 2 ^ i ≤ 2 ^ 53 := Nat.pow_le_pow_right (by decide) hi
  rw [pow53] at h4; omega
theorem rne_of (X Y m r : Nat) (h : X * 2 ^ 53 = Y * m + r) (hr : r < Y) : rne (X * 9007199254740992) Y = m + (if Y < 2 * r ∨ (Y = 2 * r ∧ m % 2 = 1) then 1 else 0) := by
  rw [pow53] at h
  unfold rne
  have hd : (Y * m + r) / Y = m := by rw [Nat.mul_add_div (by omega), Nat.div_eq_of_lt hr, Nat.add_zero]
  have hm : (Y * m + r) % Y = r := by rw [Nat.mul_add_mod, Nat.mod_eq_of_lt hr]
  rw [h, hd, hm]
end Go.Proofs.Ytdhingmjnhhjnaa.My
