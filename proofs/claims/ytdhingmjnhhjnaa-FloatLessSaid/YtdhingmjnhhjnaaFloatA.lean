/- Contracts of the walk of layer 35 (float): what bits are. -/
import Derived.Test.YtdhingmjnhhjnaaBitsW
import Derived.Test.YtdhingmjnhhjnaaFloatP
namespace Go.Proofs.Ytdhingmjnhhjnaa.My
open Go.RowKit Go.Proofs.YtdhingmjnhhjnaaW.PrintWords Go.Proofs.YtdhingmjnhhjnaaW.PrintLast Go.Proofs.YtdhingmjnhhjnaaW.PrintMore
set_option linter.unusedVariables false
set_option linter.unusedSimpArgs false
theorem fb_run (n : Int) (w : World) : (callFunc 49 #[.int .u64 n]).run Try.prog w = .ok (.value (.float .f64 n.toNat)) w := by kernel_rfl
theorem bf_run (n : Nat) (w : World) : (callFunc 47 #[.float .f64 n]).run Try.prog w = .ok (.value (.int .u64 n)) w := by kernel_rfl
theorem less_c (a b : Int) (w : World) : Calls Try.prog 16 #[.int .u64 a, .int .u64 b] w fun e w' => e = .returned (.bool (ordF a.toNat b.toNat == some .lt)) ∧ w = w' := by
  have h1 := fb_run
  go_enter Try.func16, Try.ntmps16
  go_wp2_with fail
  go_ret
  exact ⟨rfl, rfl⟩
theorem isnan_c (a : Nat) (w : World) : Calls Try.prog 46 #[.float .f64 a] w fun e w' => e = .returned (.bool (decide (kindF a = 2))) ∧ w = w' := by
  have h := ord_self a
  have H := Aside0.mk h
  clear h
  go_enter Try.func46, Try.ntmps46
  go_wp2_with fail
  go_ret
  exact ⟨rb H.out, rfl⟩
def signF (a : Nat) : Bool := decide (wrap64 (a : Int) < 0)
theorem signbit_c (a : Nat) (w : World) : Calls Try.prog 50 #[.float .f64 a] w fun e w' => e = .returned (.bool (signF a)) ∧ w = w' := by
  have h1 := bf_run
  go_enter Try.func50, Try.ntmps50
  go_wp2_with fail
  go_ret
  exact ⟨rfl, rfl⟩
theorem abs_c (a : Nat) (w : World) : Calls Try.prog 53 #[.float .f64 a] w fun e w' => e = .returned (.float .f64 (Go.bits .andNot .u64 (a : Int) 9223372036854775808).toNat) ∧ w = w' := by
  have h1 := bf_run
  have h2 := fb_run
  go_enter Try.func53, Try.ntmps53
  go_wp2_with fail
  go_ret
  exact ⟨rfl, rfl⟩
theorem abs_mod (a : Nat) (h : a < 18446744073709551616) : (Go.bits .andNot .u64 (a : Int) 9223372036854775808).toNat = a % 9223372036854775808 := by
  have := u64_andNot_nat a 9223372036854775808 h (by omega)
  rw [show ((9223372036854775808 : Nat) : Int) = 9223372036854775808 from rfl] at this
  rw [this, Int.toNat_natCast, show 18446744073709551615 - 9223372036854775808 = 2 ^ 63 - 1 from rfl, Nat.and_two_pow_sub_one_eq_mod]
theorem abs_m (a : Nat) (h : a < 18446744073709551616) (w : World) : Calls Try.prog 53 #[.float .f64 a] w fun e w' => e = .returned (.float .f64 (a % 9223372036854775808)) ∧ w = w' := by
  have := abs_c a w
  rw [abs_mod a h] at this; exact this
theorem kind_abs (a : Nat) : kindF (a % 9223372036854775808) = kindF a := by unfold kindF; rw [Nat.mod_mod]
theorem isinf_c (a : Nat) (h : a < 18446744073709551616) (w : World) : Calls Try.prog 51 #[.float .f64 a, .int .i64 0] w fun e w' => e = .returned (.bool (decide (kindF a = 1))) ∧ w = w' := by
  have HA := Aside0.mk (abs_m a h)
  have H := Aside0.mk (ord_max (a % 9223372036854775808) (Nat.mod_lt _ (by omega)))
  rw [kind_abs] at H
  clear h
  generalize a % 9223372036854775808 = x at *
  go_enter Try.func51, Try.ntmps51
  go_wp2_with (go_at_call 53; (with_reducible refine (HA.out _).mono ?_); rintro e w' ⟨rfl, rfl⟩)
  go_ret
  exact ⟨rb H.out, rfl⟩
theorem is_c (b : Nat) (h : b < 18446744073709551616) (w : World) : Calls Try.prog 17 #[.int .u64 b] w fun e w' => e = .returned (.tuple #[.int .i64 (kindF b : Nat), .bool (signF b)]) ∧ w = w' := by
  have h1 := fb_run
  have HN := Aside0.mk (isnan_c b)
  have HI := Aside0.mk (isinf_c b h)
  have HS := Aside0.mk (signbit_c b)
  clear h
  have h3 : kindF b = 0 ∨ kindF b = 1 ∨ kindF b = 2 := by unfold kindF; split; exact Or.inl rfl; split; exact Or.inr (Or.inl rfl); exact Or.inr (Or.inr rfl)
  generalize kindF b = k at *
  generalize signF b = s at *
  rcases h3 with rfl | rfl | rfl
  all_goals
    go_enter Try.func17, Try.ntmps17
    go_wp2_with (first
      | (go_at_call 46; (with_reducible refine (HN.out _).mono ?_); rintro e w' ⟨rfl, rfl⟩)
      | (go_at_call 51; (with_reducible refine (HI.out _).mono ?_); rintro e w' ⟨rfl, rfl⟩)
      | (go_at_call 50; (with_reducible refine (HS.out _).mono ?_); rintro e w' ⟨rfl, rfl⟩))
    go_ret2
    exact ⟨rfl, rfl⟩
end Go.Proofs.Ytdhingmjnhhjnaa.My
