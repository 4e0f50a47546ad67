/- Contracts of the walk of layer 9 (shift): one step, and so many. -/
import Derived.Test.YtefdfcdgghoknaaShiftP
namespace Go.Proofs.Ytefdfcdgghoknaa.My
open Go.RowKit Go.Proofs.YtefdfcdgghoknaaW.PrintWords Go.Proofs.YtefdfcdgghoknaaW.PrintLast Go.Proofs.YtefdfcdgghoknaaW.PrintMore
set_option linter.unusedVariables false
set_option linter.unusedSimpArgs false
/-- A step's number as the program has it ahead of the cut. -/
def stepR (name : Int) (v : Nat) (c wide : Bool) : Nat :=
  if name = 63 then 2 * v % 65536 + v / HH wide
  else if name = 65 then 2 * v % 65536 + b2n c
  else if name = 67 then 2 * v % 65536
  else stepV name v c wide
theorem stepR_lt (name : Int) (v : Nat) (c wide : Bool) (h : v < MM wide) : stepR name v c wide < 65536 := by
  have hb := b2n_le c
  have h1 := (top_01 v wide h).1
  have h2 := stepV_lt name v c wide h
  have h3 := MM_le wide
  unfold stepR
  repeat' split
  all_goals omega
theorem stepR_cut (name : Int) (v : Nat) (c wide : Bool) (h : v < MM wide) : cutN (stepR name v c wide) wide = stepV name v c wide := by
  have hb := b2n_le c
  have h1 := (top_01 v wide h).1
  have h2 := stepV_lt name v c wide h
  unfold stepR cutN
  split
  · rename_i e; subst e; simp only [stepV]; simp
    generalize v / HH wide = x at *
    unfold MM; cases wide <;> simp <;> omega
  split
  · rename_i e; subst e; simp only [stepV]; simp
    generalize b2n c = x at *
    unfold MM; cases wide <;> simp <;> omega
  split
  · rename_i e; subst e; simp only [stepV]; simp
    unfold MM; cases wide <;> simp <;> omega
  · exact Nat.mod_eq_of_lt h2
theorem r2b {k : IntKind} {a b : Int} {x y : Bool} (h : a = b) (h2 : x = y) : Ending.returned (.tuple #[.int k a, .bool x]) = Ending.returned (.tuple #[.int k b, .bool y]) := by rw [h, h2]
theorem shl_or (v x : Nat) (hx : x ≤ 1) : Go.bits .or .u16 (IntKind.u16.wrap ((v : Int) * 2)) (x : Int) = ((2 * v % 65536 + x : Nat) : Int) := by
  rw [show IntKind.u16.wrap ((v : Int) * 2) = ((2 * v % 65536 : Nat) : Int) by rw [IntKind.wrap_u16]; omega]
  rw [u16_or_nat _ _ (by omega) (by omega), nat_join 1 _ _ (by omega) (by omega)]
theorem shl_no (v : Nat) : IntKind.u16.wrap ((v : Int) * 2) = ((2 * v % 65536 : Nat) : Int) := by rw [IntKind.wrap_u16]; omega
theorem shr_or (v x : Nat) (wide : Bool) (hv : v < MM wide) (hx : x ≤ 1) : Go.bits .or .u16 ((v : Int) / 2) ((x : Int) * (HH wide : Nat)) = ((v / 2 + x * HH wide : Nat) : Int) := by
  have hm := MM_HH wide
  have hl := MM_le wide
  have hs := sz_b wide
  have k1 : x * HH wide ≤ HH wide := mul_le1 hx
  rw [show (v : Int) / 2 = ((v / 2 : Nat) : Int) by omega, show (x : Int) * (HH wide : Nat) = ((x * HH wide : Nat) : Int) by simp]
  rw [u16_or_nat _ _ (by omega) (by omega), Nat.or_comm, nat_join (szN wide - 1) _ _ (by rw [← HH_pow]; exact Nat.mul_mod_left _ _) (by rw [← HH_pow]; omega), Nat.add_comm]
theorem one_eq (x : Nat) : (((x : Nat) : Int) == 1) = decide (x = 1) := by rw [Bool.eq_iff_iff]; simp; omega

theorem step_63_t_t (v : Nat) (hv : v < MM true) (w : World) : Calls Try.prog 47 #[.int .i64 63, .int .u16 v, .bool true, .bool true] w fun e w' => e = .returned (.tuple #[.int .u16 (stepR 63 v true true : Nat), .bool (stepC 63 v true)]) ∧ Drawn0 w w' := by
  have ht := (top_01 v true hv).1
  obtain ⟨L, hL⟩ : ∃ L, v % 2 = L := ⟨_, rfl⟩
  obtain ⟨H, hH⟩ : ∃ H, v / HH true = H := ⟨_, rfl⟩
  rw [hH] at ht
  have lL : L ≤ 1 := by omega
  have hv' : v < 65536 := Nat.lt_of_lt_of_le hv (MM_le true)
  have E1 : Go.bits .and .u16 (v : Int) 1 = (L : Int) := by
    have := u16_and_nat v 1 hv' (by omega)
    rw [nat_mask1, hL] at this; exact this
  have E2 : Go.bits .and .u16 ((v : Int) / 32768) 1 = (H : Int) := by
    have := u16_and_nat H 1 (by omega) (by omega)
    rw [nat_mask1, show H % 2 = H by omega] at this
    rw [show (v : Int) / 32768 = ((v / 32768 : Nat) : Int) by omega, show v / 32768 = H from hH]; exact this
  have HV := Aside0.mk hv
  have HL := Aside0.mk hL
  have HHH := Aside0.mk hH
  clear hL hH hv
  go_enter Try.func47, Try.ntmps47
  go_wp2
  go_quiet (fail)
  go_wp2
  go_ret2
  refine ⟨r2b ?_ ?_, ⟨nq, rfl⟩⟩
  · rw [show stepR 63 v true true = 2 * v % 65536 + v / HH true from rfl]
    exact (shl_or v H ht).trans (by rw [HHH.out])
  · rw [show stepC 63 v true = decide (v / HH true = 1) from rfl, HHH.out]
    exact one_eq H
theorem step_63_t_f (v : Nat) (hv : v < MM true) (w : World) : Calls Try.prog 47 #[.int .i64 63, .int .u16 v, .bool false, .bool true] w fun e w' => e = .returned (.tuple #[.int .u16 (stepR 63 v false true : Nat), .bool (stepC 63 v true)]) ∧ Drawn0 w w' := by
  have ht := (top_01 v true hv).1
  obtain ⟨L, hL⟩ : ∃ L, v % 2 = L := ⟨_, rfl⟩
  obtain ⟨H, hH⟩ : ∃ H, v / HH true = H := ⟨_, rfl⟩
  rw [hH] at ht
  have lL : L ≤ 1 := by omega
  have hv' : v < 65536 := Nat.lt_of_lt_of_le hv (MM_le true)
  have E1 : Go.bits .and .u16 (v : Int) 1 = (L : Int) := by
    have := u16_and_nat v 1 hv' (by omega)
    rw [nat_mask1, hL] at this; exact this
  have E2 : Go.bits .and .u16 ((v : Int) / 32768) 1 = (H : Int) := by
    have := u16_and_nat H 1 (by omega) (by omega)
    rw [nat_mask1, show H % 2 = H by omega] at this
    rw [show (v : Int) / 32768 = ((v / 32768 : Nat) : Int) by omega, show v / 32768 = H from hH]; exact this
  have HV := Aside0.mk hv
  have HL := Aside0.mk hL
  have HHH := Aside0.mk hH
  clear hL hH hv
  go_enter Try.func47, Try.ntmps47
  go_wp2
  go_quiet (fail)
  go_wp2
  go_ret2
  refine ⟨r2b ?_ ?_, ⟨nq, rfl⟩⟩
  · rw [show stepR 63 v false true = 2 * v % 65536 + v / HH true from rfl]
    exact (shl_or v H ht).trans (by rw [HHH.out])
  · rw [show stepC 63 v true = decide (v / HH true = 1) from rfl, HHH.out]
    exact one_eq H
theorem step_63_f_t (v : Nat) (hv : v < MM false) (w : World) : Calls Try.prog 47 #[.int .i64 63, .int .u16 v, .bool true, .bool false] w fun e w' => e = .returned (.tuple #[.int .u16 (stepR 63 v true false : Nat), .bool (stepC 63 v false)]) ∧ Drawn0 w w' := by
  have ht := (top_01 v false hv).1
  obtain ⟨L, hL⟩ : ∃ L, v % 2 = L := ⟨_, rfl⟩
  obtain ⟨H, hH⟩ : ∃ H, v / HH false = H := ⟨_, rfl⟩
  rw [hH] at ht
  have lL : L ≤ 1 := by omega
  have hv' : v < 65536 := Nat.lt_of_lt_of_le hv (MM_le false)
  have E1 : Go.bits .and .u16 (v : Int) 1 = (L : Int) := by
    have := u16_and_nat v 1 hv' (by omega)
    rw [nat_mask1, hL] at this; exact this
  have E2 : Go.bits .and .u16 ((v : Int) / 128) 1 = (H : Int) := by
    have := u16_and_nat H 1 (by omega) (by omega)
    rw [nat_mask1, show H % 2 = H by omega] at this
    rw [show (v : Int) / 128 = ((v / 128 : Nat) : Int) by omega, show v / 128 = H from hH]; exact this
  have HV := Aside0.mk hv
  have HL := Aside0.mk hL
  have HHH := Aside0.mk hH
  clear hL hH hv
  go_enter Try.func47, Try.ntmps47
  go_wp2
  go_quiet (fail)
  go_wp2
  go_ret2
  refine ⟨r2b ?_ ?_, ⟨nq, rfl⟩⟩
  · rw [show stepR 63 v true false = 2 * v % 65536 + v / HH false from rfl]
    exact (shl_or v H ht).trans (by rw [HHH.out])
  · rw [show stepC 63 v false = decide (v / HH false = 1) from rfl, HHH.out]
    exact one_eq H
theorem step_63_f_f (v : Nat) (hv : v < MM false) (w : World) : Calls Try.prog 47 #[.int .i64 63, .int .u16 v, .bool false, .bool false] w fun e w' => e = .returned (.tuple #[.int .u16 (stepR 63 v false false : Nat), .bool (stepC 63 v false)]) ∧ Drawn0 w w' := by
  have ht := (top_01 v false hv).1
  obtain ⟨L, hL⟩ : ∃ L, v % 2 = L := ⟨_, rfl⟩
  obtain ⟨H, hH⟩ : ∃ H, v / HH false = H := ⟨_, rfl⟩
  rw [hH] at ht
  have lL : L ≤ 1 := by omega
  have hv' : v < 65536 := Nat.lt_of_lt_of_le hv (MM_le false)
  have E1 : Go.bits .and .u16 (v : Int) 1 = (L : Int) := by
    have := u16_and_nat v 1 hv' (by omega)
    rw [nat_mask1, hL] at this; exact this
  have E2 : Go.bits .and .u16 ((v : Int) / 128) 1 = (H : Int) := by
    have := u16_and_nat H 1 (by omega) (by omega)
    rw [nat_mask1, show H % 2 = H by omega] at this
    rw [show (v : Int) / 128 = ((v / 128 : Nat) : Int) by omega, show v / 128 = H from hH]; exact this
  have HV := Aside0.mk hv
  have HL := Aside0.mk hL
  have HHH := Aside0.mk hH
  clear hL hH hv
  go_enter Try.func47, Try.ntmps47
  go_wp2
  go_quiet (fail)
  go_wp2
  go_ret2
  refine ⟨r2b ?_ ?_, ⟨nq, rfl⟩⟩
  · rw [show stepR 63 v false false = 2 * v % 65536 + v / HH false from rfl]
    exact (shl_or v H ht).trans (by rw [HHH.out])
  · rw [show stepC 63 v false = decide (v / HH false = 1) from rfl, HHH.out]
    exact one_eq H
theorem step_64_t_t (v : Nat) (hv : v < MM true) (w : World) : Calls Try.prog 47 #[.int .i64 64, .int .u16 v, .bool true, .bool true] w fun e w' => e = .returned (.tuple #[.int .u16 (stepR 64 v true true : Nat), .bool (stepC 64 v true)]) ∧ Drawn0 w w' := by
  have ht := (top_01 v true hv).1
  obtain ⟨L, hL⟩ : ∃ L, v % 2 = L := ⟨_, rfl⟩
  obtain ⟨H, hH⟩ : ∃ H, v / HH true = H := ⟨_, rfl⟩
  rw [hH] at ht
  have lL : L ≤ 1 := by omega
  have hv' : v < 65536 := Nat.lt_of_lt_of_le hv (MM_le true)
  have E1 : Go.bits .and .u16 (v : Int) 1 = (L : Int) := by
    have := u16_and_nat v 1 hv' (by omega)
    rw [nat_mask1, hL] at this; exact this
  have E2 : Go.bits .and .u16 ((v : Int) / 32768) 1 = (H : Int) := by
    have := u16_and_nat H 1 (by omega) (by omega)
    rw [nat_mask1, show H % 2 = H by omega] at this
    rw [show (v : Int) / 32768 = ((v / 32768 : Nat) : Int) by omega, show v / 32768 = H from hH]; exact this
  have HV := Aside0.mk hv
  have HL := Aside0.mk hL
  have HHH := Aside0.mk hH
  clear hL hH hv
  go_enter Try.func47, Try.ntmps47
  go_wp2
  go_quiet (fail)
  go_wp2
  go_ret2
  refine ⟨r2b ?_ ?_, ⟨nq, rfl⟩⟩
  · rw [show stepR 64 v true true = v / 2 + v % 2 * HH true from rfl]
    exact (shr_or v L true HV.out lL).trans (by rw [HL.out])
  · rw [show stepC 64 v true = decide (v % 2 = 1) from rfl, HL.out]
    exact one_eq L
theorem step_64_t_f (v : Nat) (hv : v < MM true) (w : World) : Calls Try.prog 47 #[.int .i64 64, .int .u16 v, .bool false, .bool true] w fun e w' => e = .returned (.tuple #[.int .u16 (stepR 64 v false true : Nat), .bool (stepC 64 v true)]) ∧ Drawn0 w w' := by
  have ht := (top_01 v true hv).1
  obtain ⟨L, hL⟩ : ∃ L, v % 2 = L := ⟨_, rfl⟩
  obtain ⟨H, hH⟩ : ∃ H, v / HH true = H := ⟨_, rfl⟩
  rw [hH] at ht
  have lL : L ≤ 1 := by omega
  have hv' : v < 65536 := Nat.lt_of_lt_of_le hv (MM_le true)
  have E1 : Go.bits .and .u16 (v : Int) 1 = (L : Int) := by
    have := u16_and_nat v 1 hv' (by omega)
    rw [nat_mask1, hL] at this; exact this
  have E2 : Go.bits .and .u16 ((v : Int) / 32768) 1 = (H : Int) := by
    have := u16_and_nat H 1 (by omega) (by omega)
    rw [nat_mask1, show H % 2 = H by omega] at this
    rw [show (v : Int) / 32768 = ((v / 32768 : Nat) : Int) by omega, show v / 32768 = H from hH]; exact this
  have HV := Aside0.mk hv
  have HL := Aside0.mk hL
  have HHH := Aside0.mk hH
  clear hL hH hv
  go_enter Try.func47, Try.ntmps47
  go_wp2
  go_quiet (fail)
  go_wp2
  go_ret2
  refine ⟨r2b ?_ ?_, ⟨nq, rfl⟩⟩
  · rw [show stepR 64 v false true = v / 2 + v % 2 * HH true from rfl]
    exact (shr_or v L true HV.out lL).trans (by rw [HL.out])
  · rw [show stepC 64 v true = decide (v % 2 = 1) from rfl, HL.out]
    exact one_eq L
theorem step_64_f_t (v : Nat) (hv : v < MM false) (w : World) : Calls Try.prog 47 #[.int .i64 64, .int .u16 v, .bool true, .bool false] w fun e w' => e = .returned (.tuple #[.int .u16 (stepR 64 v true false : Nat), .bool (stepC 64 v false)]) ∧ Drawn0 w w' := by
  have ht := (top_01 v false hv).1
  obtain ⟨L, hL⟩ : ∃ L, v % 2 = L := ⟨_, rfl⟩
  obtain ⟨H, hH⟩ : ∃ H, v / HH false = H := ⟨_, rfl⟩
  rw [hH] at ht
  have lL : L ≤ 1 := by omega
  have hv' : v < 65536 := Nat.lt_of_lt_of_le hv (MM_le false)
  have E1 : Go.bits .and .u16 (v : Int) 1 = (L : Int) := by
    have := u16_and_nat v 1 hv' (by omega)
    rw [nat_mask1, hL] at this; exact this
  have E2 : Go.bits .and .u16 ((v : Int) / 128) 1 = (H : Int) := by
    have := u16_and_nat H 1 (by omega) (by omega)
    rw [nat_mask1, show H % 2 = H by omega] at this
    rw [show (v : Int) / 128 = ((v / 128 : Nat) : Int) by omega, show v / 128 = H from hH]; exact this
  have HV := Aside0.mk hv
  have HL := Aside0.mk hL
  have HHH := Aside0.mk hH
  clear hL hH hv
  go_enter Try.func47, Try.ntmps47
  go_wp2
  go_quiet (fail)
  go_wp2
  go_ret2
  refine ⟨r2b ?_ ?_, ⟨nq, rfl⟩⟩
  · rw [show stepR 64 v true false = v / 2 + v % 2 * HH false from rfl]
    exact (shr_or v L false HV.out lL).trans (by rw [HL.out])
  · rw [show stepC 64 v false = decide (v % 2 = 1) from rfl, HL.out]
    exact one_eq L
theorem step_64_f_f (v : Nat) (hv : v < MM false) (w : World) : Calls Try.prog 47 #[.int .i64 64, .int .u16 v, .bool false, .bool false] w fun e w' => e = .returned (.tuple #[.int .u16 (stepR 64 v false false : Nat), .bool (stepC 64 v false)]) ∧ Drawn0 w w' := by
  have ht := (top_01 v false hv).1
  obtain ⟨L, hL⟩ : ∃ L, v % 2 = L := ⟨_, rfl⟩
  obtain ⟨H, hH⟩ : ∃ H, v / HH false = H := ⟨_, rfl⟩
  rw [hH] at ht
  have lL : L ≤ 1 := by omega
  have hv' : v < 65536 := Nat.lt_of_lt_of_le hv (MM_le false)
  have E1 : Go.bits .and .u16 (v : Int) 1 = (L : Int) := by
    have := u16_and_nat v 1 hv' (by omega)
    rw [nat_mask1, hL] at this; exact this
  have E2 : Go.bits .and .u16 ((v : Int) / 128) 1 = (H : Int) := by
    have := u16_and_nat H 1 (by omega) (by omega)
    rw [nat_mask1, show H % 2 = H by omega] at this
    rw [show (v : Int) / 128 = ((v / 128 : Nat) : Int) by omega, show v / 128 = H from hH]; exact this
  have HV := Aside0.mk hv
  have HL := Aside0.mk hL
  have HHH := Aside0.mk hH
  clear hL hH hv
  go_enter Try.func47, Try.ntmps47
  go_wp2
  go_quiet (fail)
  go_wp2
  go_ret2
  refine ⟨r2b ?_ ?_, ⟨nq, rfl⟩⟩
  · rw [show stepR 64 v false false = v / 2 + v % 2 * HH false from rfl]
    exact (shr_or v L false HV.out lL).trans (by rw [HL.out])
  · rw [show stepC 64 v false = decide (v % 2 = 1) from rfl, HL.out]
    exact one_eq L
theorem step_65_t_t (v : Nat) (hv : v < MM true) (w : World) : Calls Try.prog 47 #[.int .i64 65, .int .u16 v, .bool true, .bool true] w fun e w' => e = .returned (.tuple #[.int .u16 (stepR 65 v true true : Nat), .bool (stepC 65 v true)]) ∧ Drawn0 w w' := by
  have ht := (top_01 v true hv).1
  obtain ⟨L, hL⟩ : ∃ L, v % 2 = L := ⟨_, rfl⟩
  obtain ⟨H, hH⟩ : ∃ H, v / HH true = H := ⟨_, rfl⟩
  rw [hH] at ht
  have lL : L ≤ 1 := by omega
  have hv' : v < 65536 := Nat.lt_of_lt_of_le hv (MM_le true)
  have E1 : Go.bits .and .u16 (v : Int) 1 = (L : Int) := by
    have := u16_and_nat v 1 hv' (by omega)
    rw [nat_mask1, hL] at this; exact this
  have E2 : Go.bits .and .u16 ((v : Int) / 32768) 1 = (H : Int) := by
    have := u16_and_nat H 1 (by omega) (by omega)
    rw [nat_mask1, show H % 2 = H by omega] at this
    rw [show (v : Int) / 32768 = ((v / 32768 : Nat) : Int) by omega, show v / 32768 = H from hH]; exact this
  have HV := Aside0.mk hv
  have HL := Aside0.mk hL
  have HHH := Aside0.mk hH
  clear hL hH hv
  go_enter Try.func47, Try.ntmps47
  go_wp2
  go_quiet (fail)
  go_wp2
  go_ret2
  refine ⟨r2b ?_ ?_, ⟨nq, rfl⟩⟩
  · rw [show stepR 65 v true true = 2 * v % 65536 + b2n true from rfl]
    exact (shl_or v 1 (by omega)).trans rfl
  · rw [show stepC 65 v true = decide (v / HH true = 1) from rfl, HHH.out]
    exact one_eq H
theorem step_65_t_f (v : Nat) (hv : v < MM true) (w : World) : Calls Try.prog 47 #[.int .i64 65, .int .u16 v, .bool false, .bool true] w fun e w' => e = .returned (.tuple #[.int .u16 (stepR 65 v false true : Nat), .bool (stepC 65 v true)]) ∧ Drawn0 w w' := by
  have ht := (top_01 v true hv).1
  obtain ⟨L, hL⟩ : ∃ L, v % 2 = L := ⟨_, rfl⟩
  obtain ⟨H, hH⟩ : ∃ H, v / HH true = H := ⟨_, rfl⟩
  rw [hH] at ht
  have lL : L ≤ 1 := by omega
  have hv' : v < 65536 := Nat.lt_of_lt_of_le hv (MM_le true)
  have E1 : Go.bits .and .u16 (v : Int) 1 = (L : Int) := by
    have := u16_and_nat v 1 hv' (by omega)
    rw [nat_mask1, hL] at this; exact this
  have E2 : Go.bits .and .u16 ((v : Int) / 32768) 1 = (H : Int) := by
    have := u16_and_nat H 1 (by omega) (by omega)
    rw [nat_mask1, show H % 2 = H by omega] at this
    rw [show (v : Int) / 32768 = ((v / 32768 : Nat) : Int) by omega, show v / 32768 = H from hH]; exact this
  have HV := Aside0.mk hv
  have HL := Aside0.mk hL
  have HHH := Aside0.mk hH
  clear hL hH hv
  go_enter Try.func47, Try.ntmps47
  go_wp2
  go_quiet (fail)
  go_wp2
  go_ret2
  refine ⟨r2b ?_ ?_, ⟨nq, rfl⟩⟩
  · rw [show stepR 65 v false true = 2 * v % 65536 + b2n false from rfl]
    exact (shl_or v 0 (by omega)).trans rfl
  · rw [show stepC 65 v true = decide (v / HH true = 1) from rfl, HHH.out]
    exact one_eq H
theorem step_65_f_t (v : Nat) (hv : v < MM false) (w : World) : Calls Try.prog 47 #[.int .i64 65, .int .u16 v, .bool true, .bool false] w fun e w' => e = .returned (.tuple #[.int .u16 (stepR 65 v true false : Nat), .bool (stepC 65 v false)]) ∧ Drawn0 w w' := by
  have ht := (top_01 v false hv).1
  obtain ⟨L, hL⟩ : ∃ L, v % 2 = L := ⟨_, rfl⟩
  obtain ⟨H, hH⟩ : ∃ H, v / HH false = H := ⟨_, rfl⟩
  rw [hH] at ht
  have lL : L ≤ 1 := by omega
  have hv' : v < 65536 := Nat.lt_of_lt_of_le hv (MM_le false)
  have E1 : Go.bits .and .u16 (v : Int) 1 = (L : Int) := by
    have := u16_and_nat v 1 hv' (by omega)
    rw [nat_mask1, hL] at this; exact this
  have E2 : Go.bits .and .u16 ((v : Int) / 128) 1 = (H : Int) := by
    have := u16_and_nat H 1 (by omega) (by omega)
    rw [nat_mask1, show H % 2 = H by omega] at this
    rw [show (v : Int) / 128 = ((v / 128 : Nat) : Int) by omega, show v / 128 = H from hH]; exact this
  have HV := Aside0.mk hv
  have HL := Aside0.mk hL
  have HHH := Aside0.mk hH
  clear hL hH hv
  go_enter Try.func47, Try.ntmps47
  go_wp2
  go_quiet (fail)
  go_wp2
  go_ret2
  refine ⟨r2b ?_ ?_, ⟨nq, rfl⟩⟩
  · rw [show stepR 65 v true false = 2 * v % 65536 + b2n true from rfl]
    exact (shl_or v 1 (by omega)).trans rfl
  · rw [show stepC 65 v false = decide (v / HH false = 1) from rfl, HHH.out]
    exact one_eq H
theorem step_65_f_f (v : Nat) (hv : v < MM false) (w : World) : Calls Try.prog 47 #[.int .i64 65, .int .u16 v, .bool false, .bool false] w fun e w' => e = .returned (.tuple #[.int .u16 (stepR 65 v false false : Nat), .bool (stepC 65 v false)]) ∧ Drawn0 w w' := by
  have ht := (top_01 v false hv).1
  obtain ⟨L, hL⟩ : ∃ L, v % 2 = L := ⟨_, rfl⟩
  obtain ⟨H, hH⟩ : ∃ H, v / HH false = H := ⟨_, rfl⟩
  rw [hH] at ht
  have lL : L ≤ 1 := by omega
  have hv' : v < 65536 := Nat.lt_of_lt_of_le hv (MM_le false)
  have E1 : Go.bits .and .u16 (v : Int) 1 = (L : Int) := by
    have := u16_and_nat v 1 hv' (by omega)
    rw [nat_mask1, hL] at this; exact this
  have E2 : Go.bits .and .u16 ((v : Int) / 128) 1 = (H : Int) := by
    have := u16_and_nat H 1 (by omega) (by omega)
    rw [nat_mask1, show H % 2 = H by omega] at this
    rw [show (v : Int) / 128 = ((v / 128 : Nat) : Int) by omega, show v / 128 = H from hH]; exact this
  have HV := Aside0.mk hv
  have HL := Aside0.mk hL
  have HHH := Aside0.mk hH
  clear hL hH hv
  go_enter Try.func47, Try.ntmps47
  go_wp2
  go_quiet (fail)
  go_wp2
  go_ret2
  refine ⟨r2b ?_ ?_, ⟨nq, rfl⟩⟩
  · rw [show stepR 65 v false false = 2 * v % 65536 + b2n false from rfl]
    exact (shl_or v 0 (by omega)).trans rfl
  · rw [show stepC 65 v false = decide (v / HH false = 1) from rfl, HHH.out]
    exact one_eq H
theorem step_66_t_t (v : Nat) (hv : v < MM true) (w : World) : Calls Try.prog 47 #[.int .i64 66, .int .u16 v, .bool true, .bool true] w fun e w' => e = .returned (.tuple #[.int .u16 (stepR 66 v true true : Nat), .bool (stepC 66 v true)]) ∧ Drawn0 w w' := by
  have ht := (top_01 v true hv).1
  obtain ⟨L, hL⟩ : ∃ L, v % 2 = L := ⟨_, rfl⟩
  obtain ⟨H, hH⟩ : ∃ H, v / HH true = H := ⟨_, rfl⟩
  rw [hH] at ht
  have lL : L ≤ 1 := by omega
  have hv' : v < 65536 := Nat.lt_of_lt_of_le hv (MM_le true)
  have E1 : Go.bits .and .u16 (v : Int) 1 = (L : Int) := by
    have := u16_and_nat v 1 hv' (by omega)
    rw [nat_mask1, hL] at this; exact this
  have E2 : Go.bits .and .u16 ((v : Int) / 32768) 1 = (H : Int) := by
    have := u16_and_nat H 1 (by omega) (by omega)
    rw [nat_mask1, show H % 2 = H by omega] at this
    rw [show (v : Int) / 32768 = ((v / 32768 : Nat) : Int) by omega, show v / 32768 = H from hH]; exact this
  have HV := Aside0.mk hv
  have HL := Aside0.mk hL
  have HHH := Aside0.mk hH
  clear hL hH hv
  go_enter Try.func47, Try.ntmps47
  go_wp2
  go_quiet (fail)
  go_wp2
  go_ret2
  refine ⟨r2b ?_ ?_, ⟨nq, rfl⟩⟩
  · rw [show stepR 66 v true true = v / 2 + b2n true * HH true from rfl]
    first | (exact (shr_or v 1 true HV.out (by omega)).trans rfl) | (rw [show ((v : Int) / 2) = ((v / 2 : Nat) : Int) by omega]; exact (u16_or_nat (v / 2) 32768 (by omega) (by omega)).trans (by rw [Nat.or_comm, nat_join 15 _ _ (by omega) (by have := HV.out; simp [MM] at this; omega)]; simp [b2n, HH] <;> omega))
  · rw [show stepC 66 v true = decide (v % 2 = 1) from rfl, HL.out]
    exact one_eq L
theorem step_66_t_f (v : Nat) (hv : v < MM true) (w : World) : Calls Try.prog 47 #[.int .i64 66, .int .u16 v, .bool false, .bool true] w fun e w' => e = .returned (.tuple #[.int .u16 (stepR 66 v false true : Nat), .bool (stepC 66 v true)]) ∧ Drawn0 w w' := by
  have ht := (top_01 v true hv).1
  obtain ⟨L, hL⟩ : ∃ L, v % 2 = L := ⟨_, rfl⟩
  obtain ⟨H, hH⟩ : ∃ H, v / HH true = H := ⟨_, rfl⟩
  rw [hH] at ht
  have lL : L ≤ 1 := by omega
  have hv' : v < 65536 := Nat.lt_of_lt_of_le hv (MM_le true)
  have E1 : Go.bits .and .u16 (v : Int) 1 = (L : Int) := by
    have := u16_and_nat v 1 hv' (by omega)
    rw [nat_mask1, hL] at this; exact this
  have E2 : Go.bits .and .u16 ((v : Int) / 32768) 1 = (H : Int) := by
    have := u16_and_nat H 1 (by omega) (by omega)
    rw [nat_mask1, show H % 2 = H by omega] at this
    rw [show (v : Int) / 32768 = ((v / 32768 : Nat) : Int) by omega, show v / 32768 = H from hH]; exact this
  have HV := Aside0.mk hv
  have HL := Aside0.mk hL
  have HHH := Aside0.mk hH
  clear hL hH hv
  go_enter Try.func47, Try.ntmps47
  go_wp2
  go_quiet (fail)
  go_wp2
  go_ret2
  refine ⟨r2b ?_ ?_, ⟨nq, rfl⟩⟩
  · rw [show stepR 66 v false true = v / 2 + b2n false * HH true from rfl]
    first | (exact (shr_or v 0 true HV.out (by omega)).trans rfl) | (rw [show ((v : Int) / 2) = ((v / 2 : Nat) : Int) by omega]; exact (u16_or_nat (v / 2) 0 (by omega) (by omega)).trans (by rw [Nat.or_comm, nat_join 15 _ _ (by omega) (by have := HV.out; simp [MM] at this; omega)]; simp [b2n, HH] <;> omega))
  · rw [show stepC 66 v true = decide (v % 2 = 1) from rfl, HL.out]
    exact one_eq L
theorem step_66_f_t (v : Nat) (hv : v < MM false) (w : World) : Calls Try.prog 47 #[.int .i64 66, .int .u16 v, .bool true, .bool false] w fun e w' => e = .returned (.tuple #[.int .u16 (stepR 66 v true false : Nat), .bool (stepC 66 v false)]) ∧ Drawn0 w w' := by
  have ht := (top_01 v false hv).1
  obtain ⟨L, hL⟩ : ∃ L, v % 2 = L := ⟨_, rfl⟩
  obtain ⟨H, hH⟩ : ∃ H, v / HH false = H := ⟨_, rfl⟩
  rw [hH] at ht
  have lL : L ≤ 1 := by omega
  have hv' : v < 65536 := Nat.lt_of_lt_of_le hv (MM_le false)
  have E1 : Go.bits .and .u16 (v : Int) 1 = (L : Int) := by
    have := u16_and_nat v 1 hv' (by omega)
    rw [nat_mask1, hL] at this; exact this
  have E2 : Go.bits .and .u16 ((v : Int) / 128) 1 = (H : Int) := by
    have := u16_and_nat H 1 (by omega) (by omega)
    rw [nat_mask1, show H % 2 = H by omega] at this
    rw [show (v : Int) / 128 = ((v / 128 : Nat) : Int) by omega, show v / 128 = H from hH]; exact this
  have HV := Aside0.mk hv
  have HL := Aside0.mk hL
  have HHH := Aside0.mk hH
  clear hL hH hv
  go_enter Try.func47, Try.ntmps47
  go_wp2
  go_quiet (fail)
  go_wp2
  go_ret2
  refine ⟨r2b ?_ ?_, ⟨nq, rfl⟩⟩
  · rw [show stepR 66 v true false = v / 2 + b2n true * HH false from rfl]
    first | (exact (shr_or v 1 false HV.out (by omega)).trans rfl) | (rw [show ((v : Int) / 2) = ((v / 2 : Nat) : Int) by omega]; exact (u16_or_nat (v / 2) 128 (by omega) (by omega)).trans (by rw [Nat.or_comm, nat_join 7 _ _ (by omega) (by have := HV.out; simp [MM] at this; omega)]; simp [b2n, HH] <;> omega))
  · rw [show stepC 66 v false = decide (v % 2 = 1) from rfl, HL.out]
    exact one_eq L
theorem step_66_f_f (v : Nat) (hv : v < MM false) (w : World) : Calls Try.prog 47 #[.int .i64 66, .int .u16 v, .bool false, .bool false] w fun e w' => e = .returned (.tuple #[.int .u16 (stepR 66 v false false : Nat), .bool (stepC 66 v false)]) ∧ Drawn0 w w' := by
  have ht := (top_01 v false hv).1
  obtain ⟨L, hL⟩ : ∃ L, v % 2 = L := ⟨_, rfl⟩
  obtain ⟨H, hH⟩ : ∃ H, v / HH false = H := ⟨_, rfl⟩
  rw [hH] at ht
  have lL : L ≤ 1 := by omega
  have hv' : v < 65536 := Nat.lt_of_lt_of_le hv (MM_le false)
  have E1 : Go.bits .and .u16 (v : Int) 1 = (L : Int) := by
    have := u16_and_nat v 1 hv' (by omega)
    rw [nat_mask1, hL] at this; exact this
  have E2 : Go.bits .and .u16 ((v : Int) / 128) 1 = (H : Int) := by
    have := u16_and_nat H 1 (by omega) (by omega)
    rw [nat_mask1, show H % 2 = H by omega] at this
    rw [show (v : Int) / 128 = ((v / 128 : Nat) : Int) by omega, show v / 128 = H from hH]; exact this
  have HV := Aside0.mk hv
  have HL := Aside0.mk hL
  have HHH := Aside0.mk hH
  clear hL hH hv
  go_enter Try.func47, Try.ntmps47
  go_wp2
  go_quiet (fail)
  go_wp2
  go_ret2
  refine ⟨r2b ?_ ?_, ⟨nq, rfl⟩⟩
  · rw [show stepR 66 v false false = v / 2 + b2n false * HH false from rfl]
    first | (exact (shr_or v 0 false HV.out (by omega)).trans rfl) | (rw [show ((v : Int) / 2) = ((v / 2 : Nat) : Int) by omega]; exact (u16_or_nat (v / 2) 0 (by omega) (by omega)).trans (by rw [Nat.or_comm, nat_join 7 _ _ (by omega) (by have := HV.out; simp [MM] at this; omega)]; simp [b2n, HH] <;> omega))
  · rw [show stepC 66 v false = decide (v % 2 = 1) from rfl, HL.out]
    exact one_eq L
theorem step_67_t_t (v : Nat) (hv : v < MM true) (w : World) : Calls Try.prog 47 #[.int .i64 67, .int .u16 v, .bool true, .bool true] w fun e w' => e = .returned (.tuple #[.int .u16 (stepR 67 v true true : Nat), .bool (stepC 67 v true)]) ∧ Drawn0 w w' := by
  have ht := (top_01 v true hv).1
  obtain ⟨L, hL⟩ : ∃ L, v % 2 = L := ⟨_, rfl⟩
  obtain ⟨H, hH⟩ : ∃ H, v / HH true = H := ⟨_, rfl⟩
  rw [hH] at ht
  have lL : L ≤ 1 := by omega
  have hv' : v < 65536 := Nat.lt_of_lt_of_le hv (MM_le true)
  have E1 : Go.bits .and .u16 (v : Int) 1 = (L : Int) := by
    have := u16_and_nat v 1 hv' (by omega)
    rw [nat_mask1, hL] at this; exact this
  have E2 : Go.bits .and .u16 ((v : Int) / 32768) 1 = (H : Int) := by
    have := u16_and_nat H 1 (by omega) (by omega)
    rw [nat_mask1, show H % 2 = H by omega] at this
    rw [show (v : Int) / 32768 = ((v / 32768 : Nat) : Int) by omega, show v / 32768 = H from hH]; exact this
  have HV := Aside0.mk hv
  have HL := Aside0.mk hL
  have HHH := Aside0.mk hH
  clear hL hH hv
  go_enter Try.func47, Try.ntmps47
  go_wp2
  go_quiet (fail)
  go_wp2
  go_ret2
  refine ⟨r2b ?_ ?_, ⟨nq, rfl⟩⟩
  · rw [show stepR 67 v true true = 2 * v % 65536 from rfl]
    exact shl_no v
  · rw [show stepC 67 v true = decide (v / HH true = 1) from rfl, HHH.out]
    exact one_eq H
theorem step_67_t_f (v : Nat) (hv : v < MM true) (w : World) : Calls Try.prog 47 #[.int .i64 67, .int .u16 v, .bool false, .bool true] w fun e w' => e = .returned (.tuple #[.int .u16 (stepR 67 v false true : Nat), .bool (stepC 67 v true)]) ∧ Drawn0 w w' := by
  have ht := (top_01 v true hv).1
  obtain ⟨L, hL⟩ : ∃ L, v % 2 = L := ⟨_, rfl⟩
  obtain ⟨H, hH⟩ : ∃ H, v / HH true = H := ⟨_, rfl⟩
  rw [hH] at ht
  have lL : L ≤ 1 := by omega
  have hv' : v < 65536 := Nat.lt_of_lt_of_le hv (MM_le true)
  have E1 : Go.bits .and .u16 (v : Int) 1 = (L : Int) := by
    have := u16_and_nat v 1 hv' (by omega)
    rw [nat_mask1, hL] at this; exact this
  have E2 : Go.bits .and .u16 ((v : Int) / 32768) 1 = (H : Int) := by
    have := u16_and_nat H 1 (by omega) (by omega)
    rw [nat_mask1, show H % 2 = H by omega] at this
    rw [show (v : Int) / 32768 = ((v / 32768 : Nat) : Int) by omega, show v / 32768 = H from hH]; exact this
  have HV := Aside0.mk hv
  have HL := Aside0.mk hL
  have HHH := Aside0.mk hH
  clear hL hH hv
  go_enter Try.func47, Try.ntmps47
  go_wp2
  go_quiet (fail)
  go_wp2
  go_ret2
  refine ⟨r2b ?_ ?_, ⟨nq, rfl⟩⟩
  · rw [show stepR 67 v false true = 2 * v % 65536 from rfl]
    exact shl_no v
  · rw [show stepC 67 v true = decide (v / HH true = 1) from rfl, HHH.out]
    exact one_eq H
theorem step_67_f_t (v : Nat) (hv : v < MM false) (w : World) : Calls Try.prog 47 #[.int .i64 67, .int .u16 v, .bool true, .bool false] w fun e w' => e = .returned (.tuple #[.int .u16 (stepR 67 v true false : Nat), .bool (stepC 67 v false)]) ∧ Drawn0 w w' := by
  have ht := (top_01 v false hv).1
  obtain ⟨L, hL⟩ : ∃ L, v % 2 = L := ⟨_, rfl⟩
  obtain ⟨H, hH⟩ : ∃ H, v / HH false = H := ⟨_, rfl⟩
  rw [hH] at ht
  have lL : L ≤ 1 := by omega
  have hv' : v < 65536 := Nat.lt_of_lt_of_le hv (MM_le false)
  have E1 : Go.bits .and .u16 (v : Int) 1 = (L : Int) := by
    have := u16_and_nat v 1 hv' (by omega)
    rw [nat_mask1, hL] at this; exact this
  have E2 : Go.bits .and .u16 ((v : Int) / 128) 1 = (H : Int) := by
    have := u16_and_nat H 1 (by omega) (by omega)
    rw [nat_mask1, show H % 2 = H by omega] at this
    rw [show (v : Int) / 128 = ((v / 128 : Nat) : Int) by omega, show v / 128 = H from hH]; exact this
  have HV := Aside0.mk hv
  have HL := Aside0.mk hL
  have HHH := Aside0.mk hH
  clear hL hH hv
  go_enter Try.func47, Try.ntmps47
  go_wp2
  go_quiet (fail)
  go_wp2
  go_ret2
  refine ⟨r2b ?_ ?_, ⟨nq, rfl⟩⟩
  · rw [show stepR 67 v true false = 2 * v % 65536 from rfl]
    exact shl_no v
  · rw [show stepC 67 v false = decide (v / HH false = 1) from rfl, HHH.out]
    exact one_eq H
theorem step_67_f_f (v : Nat) (hv : v < MM false) (w : World) : Calls Try.prog 47 #[.int .i64 67, .int .u16 v, .bool false, .bool false] w fun e w' => e = .returned (.tuple #[.int .u16 (stepR 67 v false false : Nat), .bool (stepC 67 v false)]) ∧ Drawn0 w w' := by
  have ht := (top_01 v false hv).1
  obtain ⟨L, hL⟩ : ∃ L, v % 2 = L := ⟨_, rfl⟩
  obtain ⟨H, hH⟩ : ∃ H, v / HH false = H := ⟨_, rfl⟩
  rw [hH] at ht
  have lL : L ≤ 1 := by omega
  have hv' : v < 65536 := Nat.lt_of_lt_of_le hv (MM_le false)
  have E1 : Go.bits .and .u16 (v : Int) 1 = (L : Int) := by
    have := u16_and_nat v 1 hv' (by omega)
    rw [nat_mask1, hL] at this; exact this
  have E2 : Go.bits .and .u16 ((v : Int) / 128) 1 = (H : Int) := by
    have := u16_and_nat H 1 (by omega) (by omega)
    rw [nat_mask1, show H % 2 = H by omega] at this
    rw [show (v : Int) / 128 = ((v / 128 : Nat) : Int) by omega, show v / 128 = H from hH]; exact this
  have HV := Aside0.mk hv
  have HL := Aside0.mk hL
  have HHH := Aside0.mk hH
  clear hL hH hv
  go_enter Try.func47, Try.ntmps47
  go_wp2
  go_quiet (fail)
  go_wp2
  go_ret2
  refine ⟨r2b ?_ ?_, ⟨nq, rfl⟩⟩
  · rw [show stepR 67 v false false = 2 * v % 65536 from rfl]
    exact shl_no v
  · rw [show stepC 67 v false = decide (v / HH false = 1) from rfl, HHH.out]
    exact one_eq H
theorem step_68_t_t (v : Nat) (hv : v < MM true) (w : World) : Calls Try.prog 47 #[.int .i64 68, .int .u16 v, .bool true, .bool true] w fun e w' => e = .returned (.tuple #[.int .u16 (stepR 68 v true true : Nat), .bool (stepC 68 v true)]) ∧ Drawn0 w w' := by
  have ht := (top_01 v true hv).1
  obtain ⟨L, hL⟩ : ∃ L, v % 2 = L := ⟨_, rfl⟩
  obtain ⟨H, hH⟩ : ∃ H, v / HH true = H := ⟨_, rfl⟩
  rw [hH] at ht
  have lL : L ≤ 1 := by omega
  have hv' : v < 65536 := Nat.lt_of_lt_of_le hv (MM_le true)
  have E1 : Go.bits .and .u16 (v : Int) 1 = (L : Int) := by
    have := u16_and_nat v 1 hv' (by omega)
    rw [nat_mask1, hL] at this; exact this
  have E2 : Go.bits .and .u16 ((v : Int) / 32768) 1 = (H : Int) := by
    have := u16_and_nat H 1 (by omega) (by omega)
    rw [nat_mask1, show H % 2 = H by omega] at this
    rw [show (v : Int) / 32768 = ((v / 32768 : Nat) : Int) by omega, show v / 32768 = H from hH]; exact this
  have HV := Aside0.mk hv
  have HL := Aside0.mk hL
  have HHH := Aside0.mk hH
  clear hL hH hv
  go_enter Try.func47, Try.ntmps47
  go_wp2
  go_quiet (fail)
  go_wp2
  go_ret2
  refine ⟨r2b ?_ ?_, ⟨nq, rfl⟩⟩
  · rw [show stepR 68 v true true = v / 2 from rfl]
    omega
  · rw [show stepC 68 v true = decide (v % 2 = 1) from rfl, HL.out]
    exact one_eq L
theorem step_68_t_f (v : Nat) (hv : v < MM true) (w : World) : Calls Try.prog 47 #[.int .i64 68, .int .u16 v, .bool false, .bool true] w fun e w' => e = .returned (.tuple #[.int .u16 (stepR 68 v false true : Nat), .bool (stepC 68 v true)]) ∧ Drawn0 w w' := by
  have ht := (top_01 v true hv).1
  obtain ⟨L, hL⟩ : ∃ L, v % 2 = L := ⟨_, rfl⟩
  obtain ⟨H, hH⟩ : ∃ H, v / HH true = H := ⟨_, rfl⟩
  rw [hH] at ht
  have lL : L ≤ 1 := by omega
  have hv' : v < 65536 := Nat.lt_of_lt_of_le hv (MM_le true)
  have E1 : Go.bits .and .u16 (v : Int) 1 = (L : Int) := by
    have := u16_and_nat v 1 hv' (by omega)
    rw [nat_mask1, hL] at this; exact this
  have E2 : Go.bits .and .u16 ((v : Int) / 32768) 1 = (H : Int) := by
    have := u16_and_nat H 1 (by omega) (by omega)
    rw [nat_mask1, show H % 2 = H by omega] at this
    rw [show (v : Int) / 32768 = ((v / 32768 : Nat) : Int) by omega, show v / 32768 = H from hH]; exact this
  have HV := Aside0.mk hv
  have HL := Aside0.mk hL
  have HHH := Aside0.mk hH
  clear hL hH hv
  go_enter Try.func47, Try.ntmps47
  go_wp2
  go_quiet (fail)
  go_wp2
  go_ret2
  refine ⟨r2b ?_ ?_, ⟨nq, rfl⟩⟩
  · rw [show stepR 68 v false true = v / 2 from rfl]
    omega
  · rw [show stepC 68 v true = decide (v % 2 = 1) from rfl, HL.out]
    exact one_eq L
theorem step_68_f_t (v : Nat) (hv : v < MM false) (w : World) : Calls Try.prog 47 #[.int .i64 68, .int .u16 v, .bool true, .bool false] w fun e w' => e = .returned (.tuple #[.int .u16 (stepR 68 v true false : Nat), .bool (stepC 68 v false)]) ∧ Drawn0 w w' := by
  have ht := (top_01 v false hv).1
  obtain ⟨L, hL⟩ : ∃ L, v % 2 = L := ⟨_, rfl⟩
  obtain ⟨H, hH⟩ : ∃ H, v / HH false = H := ⟨_, rfl⟩
  rw [hH] at ht
  have lL : L ≤ 1 := by omega
  have hv' : v < 65536 := Nat.lt_of_lt_of_le hv (MM_le false)
  have E1 : Go.bits .and .u16 (v : Int) 1 = (L : Int) := by
    have := u16_and_nat v 1 hv' (by omega)
    rw [nat_mask1, hL] at this; exact this
  have E2 : Go.bits .and .u16 ((v : Int) / 128) 1 = (H : Int) := by
    have := u16_and_nat H 1 (by omega) (by omega)
    rw [nat_mask1, show H % 2 = H by omega] at this
    rw [show (v : Int) / 128 = ((v / 128 : Nat) : Int) by omega, show v / 128 = H from hH]; exact this
  have HV := Aside0.mk hv
  have HL := Aside0.mk hL
  have HHH := Aside0.mk hH
  clear hL hH hv
  go_enter Try.func47, Try.ntmps47
  go_wp2
  go_quiet (fail)
  go_wp2
  go_ret2
  refine ⟨r2b ?_ ?_, ⟨nq, rfl⟩⟩
  · rw [show stepR 68 v true false = v / 2 from rfl]
    omega
  · rw [show stepC 68 v false = decide (v % 2 = 1) from rfl, HL.out]
    exact one_eq L
theorem step_68_f_f (v : Nat) (hv : v < MM false) (w : World) : Calls Try.prog 47 #[.int .i64 68, .int .u16 v, .bool false, .bool false] w fun e w' => e = .returned (.tuple #[.int .u16 (stepR 68 v false false : Nat), .bool (stepC 68 v false)]) ∧ Drawn0 w w' := by
  have ht := (top_01 v false hv).1
  obtain ⟨L, hL⟩ : ∃ L, v % 2 = L := ⟨_, rfl⟩
  obtain ⟨H, hH⟩ : ∃ H, v / HH false = H := ⟨_, rfl⟩
  rw [hH] at ht
  have lL : L ≤ 1 := by omega
  have hv' : v < 65536 := Nat.lt_of_lt_of_le hv (MM_le false)
  have E1 : Go.bits .and .u16 (v : Int) 1 = (L : Int) := by
    have := u16_and_nat v 1 hv' (by omega)
    rw [nat_mask1, hL] at this; exact this
  have E2 : Go.bits .and .u16 ((v : Int) / 128) 1 = (H : Int) := by
    have := u16_and_nat H 1 (by omega) (by omega)
    rw [nat_mask1, show H % 2 = H by omega] at this
    rw [show (v : Int) / 128 = ((v / 128 : Nat) : Int) by omega, show v / 128 = H from hH]; exact this
  have HV := Aside0.mk hv
  have HL := Aside0.mk hL
  have HHH := Aside0.mk hH
  clear hL hH hv
  go_enter Try.func47, Try.ntmps47
  go_wp2
  go_quiet (fail)
  go_wp2
  go_ret2
  refine ⟨r2b ?_ ?_, ⟨nq, rfl⟩⟩
  · rw [show stepR 68 v false false = v / 2 from rfl]
    omega
  · rw [show stepC 68 v false = decide (v % 2 = 1) from rfl, HL.out]
    exact one_eq L
theorem step_69_t_t (v : Nat) (hv : v < MM true) (w : World) : Calls Try.prog 47 #[.int .i64 69, .int .u16 v, .bool true, .bool true] w fun e w' => e = .returned (.tuple #[.int .u16 (stepR 69 v true true : Nat), .bool (stepC 69 v true)]) ∧ Drawn0 w w' := by
  have ht := (top_01 v true hv).1
  obtain ⟨L, hL⟩ : ∃ L, v % 2 = L := ⟨_, rfl⟩
  obtain ⟨H, hH⟩ : ∃ H, v / HH true = H := ⟨_, rfl⟩
  rw [hH] at ht
  have lL : L ≤ 1 := by omega
  have hv' : v < 65536 := Nat.lt_of_lt_of_le hv (MM_le true)
  have E1 : Go.bits .and .u16 (v : Int) 1 = (L : Int) := by
    have := u16_and_nat v 1 hv' (by omega)
    rw [nat_mask1, hL] at this; exact this
  have E2 : Go.bits .and .u16 ((v : Int) / 32768) 1 = (H : Int) := by
    have := u16_and_nat H 1 (by omega) (by omega)
    rw [nat_mask1, show H % 2 = H by omega] at this
    rw [show (v : Int) / 32768 = ((v / 32768 : Nat) : Int) by omega, show v / 32768 = H from hH]; exact this
  have HV := Aside0.mk hv
  have HL := Aside0.mk hL
  have HHH := Aside0.mk hH
  clear hL hH hv
  go_enter Try.func47, Try.ntmps47
  go_wp2
  go_quiet (fail)
  go_wp2
  go_ret2
  refine ⟨r2b ?_ ?_, ⟨nq, rfl⟩⟩
  · rw [show stepR 69 v true true = v / 2 + v / HH true * HH true from rfl]
    exact (shr_or v H true HV.out ht).trans (by rw [HHH.out])
  · rw [show stepC 69 v true = decide (v % 2 = 1) from rfl, HL.out]
    exact one_eq L
theorem step_69_t_f (v : Nat) (hv : v < MM true) (w : World) : Calls Try.prog 47 #[.int .i64 69, .int .u16 v, .bool false, .bool true] w fun e w' => e = .returned (.tuple #[.int .u16 (stepR 69 v false true : Nat), .bool (stepC 69 v true)]) ∧ Drawn0 w w' := by
  have ht := (top_01 v true hv).1
  obtain ⟨L, hL⟩ : ∃ L, v % 2 = L := ⟨_, rfl⟩
  obtain ⟨H, hH⟩ : ∃ H, v / HH true = H := ⟨_, rfl⟩
  rw [hH] at ht
  have lL : L ≤ 1 := by omega
  have hv' : v < 65536 := Nat.lt_of_lt_of_le hv (MM_le true)
  have E1 : Go.bits .and .u16 (v : Int) 1 = (L : Int) := by
    have := u16_and_nat v 1 hv' (by omega)
    rw [nat_mask1, hL] at this; exact this
  have E2 : Go.bits .and .u16 ((v : Int) / 32768) 1 = (H : Int) := by
    have := u16_and_nat H 1 (by omega) (by omega)
    rw [nat_mask1, show H % 2 = H by omega] at this
    rw [show (v : Int) / 32768 = ((v / 32768 : Nat) : Int) by omega, show v / 32768 = H from hH]; exact this
  have HV := Aside0.mk hv
  have HL := Aside0.mk hL
  have HHH := Aside0.mk hH
  clear hL hH hv
  go_enter Try.func47, Try.ntmps47
  go_wp2
  go_quiet (fail)
  go_wp2
  go_ret2
  refine ⟨r2b ?_ ?_, ⟨nq, rfl⟩⟩
  · rw [show stepR 69 v false true = v / 2 + v / HH true * HH true from rfl]
    exact (shr_or v H true HV.out ht).trans (by rw [HHH.out])
  · rw [show stepC 69 v true = decide (v % 2 = 1) from rfl, HL.out]
    exact one_eq L
theorem step_69_f_t (v : Nat) (hv : v < MM false) (w : World) : Calls Try.prog 47 #[.int .i64 69, .int .u16 v, .bool true, .bool false] w fun e w' => e = .returned (.tuple #[.int .u16 (stepR 69 v true false : Nat), .bool (stepC 69 v false)]) ∧ Drawn0 w w' := by
  have ht := (top_01 v false hv).1
  obtain ⟨L, hL⟩ : ∃ L, v % 2 = L := ⟨_, rfl⟩
  obtain ⟨H, hH⟩ : ∃ H, v / HH false = H := ⟨_, rfl⟩
  rw [hH] at ht
  have lL : L ≤ 1 := by omega
  have hv' : v < 65536 := Nat.lt_of_lt_of_le hv (MM_le false)
  have E1 : Go.bits .and .u16 (v : Int) 1 = (L : Int) := by
    have := u16_and_nat v 1 hv' (by omega)
    rw [nat_mask1, hL] at this; exact this
  have E2 : Go.bits .and .u16 ((v : Int) / 128) 1 = (H : Int) := by
    have := u16_and_nat H 1 (by omega) (by omega)
    rw [nat_mask1, show H % 2 = H by omega] at this
    rw [show (v : Int) / 128 = ((v / 128 : Nat) : Int) by omega, show v / 128 = H from hH]; exact this
  have HV := Aside0.mk hv
  have HL := Aside0.mk hL
  have HHH := Aside0.mk hH
  clear hL hH hv
  go_enter Try.func47, Try.ntmps47
  go_wp2
  go_quiet (fail)
  go_wp2
  go_ret2
  refine ⟨r2b ?_ ?_, ⟨nq, rfl⟩⟩
  · rw [show stepR 69 v true false = v / 2 + v / HH false * HH false from rfl]
    exact (shr_or v H false HV.out ht).trans (by rw [HHH.out])
  · rw [show stepC 69 v false = decide (v % 2 = 1) from rfl, HL.out]
    exact one_eq L
theorem step_69_f_f (v : Nat) (hv : v < MM false) (w : World) : Calls Try.prog 47 #[.int .i64 69, .int .u16 v, .bool false, .bool false] w fun e w' => e = .returned (.tuple #[.int .u16 (stepR 69 v false false : Nat), .bool (stepC 69 v false)]) ∧ Drawn0 w w' := by
  have ht := (top_01 v false hv).1
  obtain ⟨L, hL⟩ : ∃ L, v % 2 = L := ⟨_, rfl⟩
  obtain ⟨H, hH⟩ : ∃ H, v / HH false = H := ⟨_, rfl⟩
  rw [hH] at ht
  have lL : L ≤ 1 := by omega
  have hv' : v < 65536 := Nat.lt_of_lt_of_le hv (MM_le false)
  have E1 : Go.bits .and .u16 (v : Int) 1 = (L : Int) := by
    have := u16_and_nat v 1 hv' (by omega)
    rw [nat_mask1, hL] at this; exact this
  have E2 : Go.bits .and .u16 ((v : Int) / 128) 1 = (H : Int) := by
    have := u16_and_nat H 1 (by omega) (by omega)
    rw [nat_mask1, show H % 2 = H by omega] at this
    rw [show (v : Int) / 128 = ((v / 128 : Nat) : Int) by omega, show v / 128 = H from hH]; exact this
  have HV := Aside0.mk hv
  have HL := Aside0.mk hL
  have HHH := Aside0.mk hH
  clear hL hH hv
  go_enter Try.func47, Try.ntmps47
  go_wp2
  go_quiet (fail)
  go_wp2
  go_ret2
  refine ⟨r2b ?_ ?_, ⟨nq, rfl⟩⟩
  · rw [show stepR 69 v false false = v / 2 + v / HH false * HH false from rfl]
    exact (shr_or v H false HV.out ht).trans (by rw [HHH.out])
  · rw [show stepC 69 v false = decide (v % 2 = 1) from rfl, HL.out]
    exact one_eq L
theorem step_c (name : Int) (v : Nat) (c wide : Bool) (h0 : 63 ≤ name) (h1 : name ≤ 69) (hv : v < MM wide) (w : World) : Calls Try.prog 47 #[.int .i64 name, .int .u16 v, .bool c, .bool wide] w fun e w' => e = .returned (.tuple #[.int .u16 (stepR name v c wide : Nat), .bool (stepC name v wide)]) ∧ Drawn0 w w' := by
  rcases (show name = 63 ∨ name = 64 ∨ name = 65 ∨ name = 66 ∨ name = 67 ∨ name = 68 ∨ name = 69 by omega) with rfl | rfl | rfl | rfl | rfl | rfl | rfl <;> cases wide <;> cases c
  · exact step_63_f_f v hv w
  · exact step_63_f_t v hv w
  · exact step_63_t_f v hv w
  · exact step_63_t_t v hv w
  · exact step_64_f_f v hv w
  · exact step_64_f_t v hv w
  · exact step_64_t_f v hv w
  · exact step_64_t_t v hv w
  · exact step_65_f_f v hv w
  · exact step_65_f_t v hv w
  · exact step_65_t_f v hv w
  · exact step_65_t_t v hv w
  · exact step_66_f_f v hv w
  · exact step_66_f_t v hv w
  · exact step_66_t_f v hv w
  · exact step_66_t_t v hv w
  · exact step_67_f_f v hv w
  · exact step_67_f_t v hv w
  · exact step_67_t_f v hv w
  · exact step_67_t_t v hv w
  · exact step_68_f_f v hv w
  · exact step_68_f_t v hv w
  · exact step_68_t_f v hv w
  · exact step_68_t_t v hv w
  · exact step_69_f_f v hv w
  · exact step_69_f_t v hv w
  · exact step_69_t_f v hv w
  · exact step_69_t_t v hv w
end Go.Proofs.Ytefdfcdgghoknaa.My
