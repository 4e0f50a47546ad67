/- Contracts of the walks of layer 10 (long). -/
import Derived.Test.YtefdfcdgghoknaaAluL
namespace Go.Proofs.Ytefdfcdgghoknaa.My
open Go.RowKit Go.Proofs.YtefdfcdgghoknaaW.PrintWords Go.Proofs.YtefdfcdgghoknaaW.PrintLast Go.Proofs.YtefdfcdgghoknaaW.PrintMore
set_option linter.unusedVariables false
set_option linter.unusedSimpArgs false

theorem wrap_i16 (n : Int) : IntKind.i16.wrap n = (n + 32768) % 65536 - 32768 := by
  simp [IntKind.wrap, IntKind.bits, IntKind.signed]; split <;> omega
theorem wrap_i8 (n : Int) : IntKind.i8.wrap n = (n + 128) % 256 - 128 := by
  simp [IntKind.wrap, IntKind.bits, IntKind.signed]; split <;> omega
/-- A number as a whole one, its sign spread. -/
def sprM (v : Nat) (wide : Bool) : Int := if cutN v wide < HH wide then (cutN v wide : Int) else (cutN v wide : Int) - (MM wide : Int)
theorem sprM_b (v : Nat) (wide : Bool) : -(HH wide : Int) ≤ sprM v wide ∧ sprM v wide < HH wide := by
  have := cutN_M v wide
  have h2 : MM wide = 2 * HH wide := by cases wide <;> rfl
  unfold sprM; split <;> omega
theorem HH_le (wide : Bool) : HH wide ≤ 32768 := by cases wide <;> decide
theorem spread_c (v : Nat) (wide : Bool) (hv : v < 65536) (w : World) : Calls Try.prog 35 #[.int .u16 v, .bool wide] w fun e w' => e = .returned (.int .i32 (sprM v wide)) ∧ w = w' := by
  cases wide
  · go_enter Try.func35, Try.ntmps35
    go_wp2
    go_ret
    refine ⟨ri ?_, rfl⟩
    unfold sprM cutN MM HH
    simp only [wrap_i8, IntKind.wrap_i32]
    try unfold wrap32
    simp
    split <;> omega
  · go_enter Try.func35, Try.ntmps35
    go_wp2
    go_ret
    refine ⟨ri ?_, rfl⟩
    unfold sprM cutN MM HH
    simp only [wrap_i16, IntKind.wrap_i32]
    try unfold wrap32
    simp
    split <;> omega
theorem spread_i (v : Int) (wide : Bool) (h0 : 0 ≤ v) (h1 : v < 65536) (w : World) : Calls Try.prog 35 #[.int .u16 v, .bool wide] w fun e w' => e = .returned (.int .i32 (sprM v.toNat wide)) ∧ w = w' := by
  obtain ⟨n, rfl⟩ := Int.eq_ofNat_of_zero_le h0
  exact spread_c n wide (by omega) w
theorem and255 (v : Int) (h0 : 0 ≤ v) (h1 : v < 65536) : Go.bits .and .u16 v 255 = v % 256 := by
  rw [u16_and _ _ h0 h1 (by omega) (by omega), show (255 : Int).toNat = 2 ^ 8 - 1 from rfl, Nat.and_two_pow_sub_one_eq_mod]; omega
theorem and255w (x : Int) : Go.bits .and .u16 (IntKind.u16.wrap x) 255 = x % 256 := by
  rw [IntKind.wrap_u16, and255 _ (by omega) (by omega)]; omega
theorem u16w_b (x : Int) : 0 ≤ IntKind.u16.wrap x ∧ IntKind.u16.wrap x < 65536 := by rw [IntKind.wrap_u16]; omega
theorem prod_b (x y : Int) (h1 : -32768 ≤ x) (h2 : x ≤ 32768) (h3 : -32768 ≤ y) (h4 : y ≤ 32768) : -1073741824 ≤ x * y ∧ x * y ≤ 1073741824 := by
  have h := Int.natAbs_mul x y
  have h5 : x.natAbs * y.natAbs ≤ 32768 * 32768 := Nat.mul_le_mul (by omega) (by omega)
  omega
theorem prod_m (x y : Int) (m : Nat) (h1 : -(m : Int) ≤ x) (h2 : x ≤ m) (h3 : -(m : Int) ≤ y) (h4 : y ≤ m) : -((m * m : Nat) : Int) ≤ x * y ∧ x * y ≤ ((m * m : Nat) : Int) := by
  have h := Int.natAbs_mul x y
  have h5 : x.natAbs * y.natAbs ≤ m * m := Nat.mul_le_mul (by omega) (by omega)
  omega
theorem sgn_low (L : Int) (wide : Bool) (h0 : 0 ≤ L) (h1 : L < MM wide) : (cutN (IntKind.u16.wrap (sprM L.toNat wide / 32768 / 2)).toNat wide : Int) = if L < HH wide then 0 else (MM wide : Int) - 1 := by
  have hle := MM_le wide
  obtain ⟨n, rfl⟩ := Int.eq_ofNat_of_zero_le h0
  have hc : cutN n wide = n := cut_small n wide (by omega)
  have hs : sprM n wide = if (n : Int) < HH wide then (n : Int) else (n : Int) - MM wide := by unfold sprM; rw [hc]; split <;> split <;> omega
  rw [Int.toNat_natCast, hs, IntKind.wrap_u16]
  unfold cutN MM HH at *
  cases wide <;> simp at * <;> split <;> omega
def mulP (name : Int) (a b : Nat) (wide : Bool) : Int := if name = 87 then sprM a wide * sprM b wide else (cutN a wide : Int) * (cutN b wide : Int)
def mulT (name : Int) (a b : Nat) (wide : Bool) : Bool := if name = 87 then decide (mulP name a b wide < -(HH wide : Int) ∨ (HH wide : Int) ≤ mulP name a b wide) else decide (mulP name a b wide / (MM wide : Int) ≠ 0)
set_option maxHeartbeats 1000000 in
theorem mul_c (name : Int) (hn : name = 86 ∨ name = 87) (a b : Nat) (wide : Bool) (ha : a < 65536) (hb : b < 65536) (w : World) : Calls Try.prog 18 #[.int .i64 name, .int .u16 a, .int .u16 b, .bool wide] w fun e w' =>
    e = .returned (.tuple #[.int .u16 (mulP name a b wide % (MM wide : Int)), .int .u16 (mulP name a b wide / (MM wide : Int) % (MM wide : Int)), .bool (mulT name a b wide)]) ∧ w = w' := by
  have hA := cutN_M a wide
  have hB := cutN_M b wide
  have hle := MM_le wide
  rcases hn with rfl | rfl
  · cases wide
    · go_enter Try.func18, Try.ntmps18
      go_wp2_with (first
        | (go_at_call 29; refine (cut_c _ _ (by omega) _).mono ?_; rintro e w' ⟨rfl, rfl⟩))
      go_ret3
      have hp := prod_m (cutN a false) (cutN b false) 255 (by omega) (by have := cutN_M a false; simp [MM] at this; omega) (by omega) (by have := cutN_M b false; simp [MM] at this; omega)
      have hp0 : 0 ≤ (cutN a false : Int) * (cutN b false : Int) := Int.mul_nonneg (by omega) (by omega)
      exact ⟨r3 (by rw [and255w]; unfold mulP; simp [MM] <;> omega) (by rw [and255w]; unfold mulP; simp [MM] <;> omega) (by rw [and255w]; unfold mulT mulP; rw [Bool.eq_iff_iff]; simp [MM] <;> omega), rfl⟩
    · go_enter Try.func18, Try.ntmps18
      go_wp2_with (first
        | (go_at_call 29; refine (cut_c _ _ (by omega) _).mono ?_; rintro e w' ⟨rfl, rfl⟩))
      go_ret3
      have hp0 : 0 ≤ (cutN a true : Int) * (cutN b true : Int) := Int.mul_nonneg (by omega) (by omega)
      have hp : (cutN a true : Int) * (cutN b true : Int) ≤ 65535 * 65535 := Int.mul_le_mul (by have := cutN_M a true; simp [MM] at this; omega) (by have := cutN_M b true; simp [MM] at this; omega) (by omega) (by omega)
      refine ⟨r3 ?_ ?_ ?_, rfl⟩
      · try rw [IntKind.wrap_u16]
        unfold mulP; simp [MM] <;> omega
      · try rw [IntKind.wrap_u16]
        unfold mulP; simp [MM] <;> omega
      · try rw [IntKind.wrap_u16]
        unfold mulT mulP; rw [Bool.eq_iff_iff]; simp [MM] <;> omega
  · cases wide
    · obtain ⟨sa1, sa2⟩ := sprM_b a false
      obtain ⟨sb1, sb2⟩ := sprM_b b false
      simp [HH] at sa1 sa2 sb1 sb2
      have hp := prod_m (sprM a false) (sprM b false) 128 (by omega) (by omega) (by omega) (by omega)
      have HP := Aside0.mk hp
      clear hp
      have hmp : mulP 87 a b false = sprM a false * sprM b false := rfl
      have HMP := Aside0.mk hmp
      clear hmp
      go_enter Try.func18, Try.ntmps18
      go_wp2_with (first
        | (go_at_call 29; refine (cut_i _ _ (by first | omega | exact (u16w_b _).1) (by first | omega | exact (u16w_b _).2) _).mono ?_; rintro e w' ⟨rfl, rfl⟩)
        | (go_at_call 35; refine (spread_i _ _ (by first | omega | exact (u16w_b _).1 | (rw [and255w]; omega)) (by first | omega | exact (u16w_b _).2 | (rw [and255w]; omega)) _).mono ?_; rintro e w' ⟨rfl, rfl⟩))
      go_ret3
      refine ⟨r3 ?_ ?_ ?_, rfl⟩
      · rw [HMP.out, and255w]; unfold wrap32; simp [MM] <;> omega
      · rw [HMP.out, and255w]; unfold wrap32; simp [MM]; omega
      · rw [and255w, and255w, sgn_low _ false (by omega) (by simp [MM]; omega)]
        unfold mulT
        rw [if_pos rfl, HMP.out]
        have := HP.out
        generalize sprM a false * sprM b false = P at *
        unfold wrap32
        rw [Bool.eq_iff_iff, bne_iff_ne]
        simp [MM, HH]
        split <;> omega
    · obtain ⟨sa1, sa2⟩ := sprM_b a true
      obtain ⟨sb1, sb2⟩ := sprM_b b true
      simp [HH] at sa1 sa2 sb1 sb2
      have hp := prod_m (sprM a true) (sprM b true) 32768 (by omega) (by omega) (by omega) (by omega)
      have HP := Aside0.mk hp
      clear hp
      have hmp : mulP 87 a b true = sprM a true * sprM b true := rfl
      have HMP := Aside0.mk hmp
      clear hmp
      go_enter Try.func18, Try.ntmps18
      go_wp2_with (first
        | (go_at_call 29; refine (cut_i _ _ (by first | omega | exact (u16w_b _).1) (by first | omega | exact (u16w_b _).2) _).mono ?_; rintro e w' ⟨rfl, rfl⟩)
        | (go_at_call 35; refine (spread_i _ _ (by first | omega | exact (u16w_b _).1 | (rw [and255w]; omega)) (by first | omega | exact (u16w_b _).2 | (rw [and255w]; omega)) _).mono ?_; rintro e w' ⟨rfl, rfl⟩))
      go_ret3
      have hp := HP.out
      refine ⟨r3 ?_ ?_ ?_, rfl⟩
      · rw [HMP.out]
        generalize sprM a true * sprM b true = P at *
        try rw [IntKind.wrap_u16]
        unfold wrap32; simp [MM] <;> omega
      · rw [HMP.out]
        generalize sprM a true * sprM b true = P at *
        try rw [IntKind.wrap_u16]
        unfold wrap32; simp [MM]; omega
      · rw [sgn_low _ true (u16w_b _).1 (by have := (u16w_b (wrap32 (sprM a true * sprM b true) % 4294967296)).2; simp [MM]; omega)]
        unfold mulT
        rw [if_pos rfl, HMP.out]
        generalize sprM a true * sprM b true = P at *
        try rw [IntKind.wrap_u16]
        unfold wrap32
        rw [Bool.eq_iff_iff, bne_iff_ne]
        simp [MM, HH]
        split <;> omega

def wholeM (n : Nat) (signed wide : Bool) : Int := if signed then sprM n wide else (cutN n wide : Int)
theorem rbit_c (v : Nat) (i : Int) (hv : v < 65536) (h0 : 0 ≤ i) (h1 : i < 20) (w : World) : Calls Try.prog 34 #[.int .u16 v, .int .i64 i] w fun e w' => e = .returned (.int .i64 (v / 2 ^ i.toNat % 2 : Nat)) ∧ Drawn0 w w' :=
  PDo.hansomref08_Bit.calls 100 v i _ w (bit_f' v i 100 hv h0 h1 (by omega))
theorem rsize_c (wide : Bool) (w : World) : Calls Try.prog 14 #[.bool wide] w fun e w' => e = .returned (.int .i64 (szN wide : Nat)) ∧ Drawn0 w w' :=
  PDo.hansomref08_Size.calls wide _ w (size_f wide)
set_option maxHeartbeats 1000000 in
theorem whole_c (n : Nat) (signed wide : Bool) (hn : n < 65536) (w : World) : Calls Try.prog 16 #[.int .u16 n, .bool signed, .bool wide] w fun e w' => e = .returned (.int .i64 (wholeM n signed wide)) ∧ Drawn0 w w' := by
  have hc := cutN_lt n wide
  have hcM := cutN_M n wide
  cases signed
  · have hw : wholeM n false wide = (cutN n wide : Int) := rfl
    go_enter Try.func16, Try.ntmps16
    go_wp2_with (first
      | (go_at_call 15; refine (rcut_c _ _ (by omega) _).mono ?_; rintro e w' ⟨rfl, ⟨nd, rfl⟩⟩))
    go_ret
    exact ⟨rfl, by repeat (first | exact Drawn0.refl _ | apply Drawn0.step)⟩
  · have HW := Aside0.mk (show wholeM n true wide = sprM n wide from rfl)
    cases wide
    · have s8 : szN false = 8 := rfl
      by_cases hb : cutN n false / 2 ^ 7 % 2 = 1
      all_goals
        have HS := Aside0.mk (show sprM n false = if cutN n false / 2 ^ 7 % 2 = 1 then (cutN n false : Int) - 256 else cutN n false by unfold sprM; simp [MM, HH] at hcM ⊢; split <;> (try split) <;> omega)
        have hB : (((cutN n false / 2 ^ 7 % 2 : Nat) : Int) == 1) = decide (cutN n false / 2 ^ 7 % 2 = 1) := by rw [Bool.eq_iff_iff]; simp; omega
        first | rw [decide_eq_true hb] at hB | rw [decide_eq_false hb] at hB
        first | rw [if_pos hb] at HS | rw [if_neg hb] at HS
        clear hb
        go_enter Try.func16, Try.ntmps16
        go_wp2_with (first
          | (go_at_call 15; refine (rcut_c _ _ (by omega) _).mono ?_; rintro e w' ⟨rfl, ⟨nd, rfl⟩⟩)
          | (go_at_call 14; refine (rsize_c _ _).mono ?_; rintro e w' ⟨rfl, ⟨nd, rfl⟩⟩)
          | (go_at_call 34; refine (rbit_c _ _ hc (by omega) (by omega) _).mono ?_; rintro e w' ⟨rfl, ⟨nd, rfl⟩⟩))
        go_ret
        exact ⟨ri (by rw [HW.out, HS.out]), by repeat (first | exact Drawn0.refl _ | apply Drawn0.step)⟩
    · have s8 : szN true = 16 := rfl
      by_cases hb : cutN n true / 2 ^ 15 % 2 = 1
      all_goals
        have HS := Aside0.mk (show sprM n true = if cutN n true / 2 ^ 15 % 2 = 1 then (cutN n true : Int) - 65536 else cutN n true by unfold sprM; simp [MM, HH] at hcM ⊢; split <;> (try split) <;> omega)
        have hB : (((cutN n true / 2 ^ 15 % 2 : Nat) : Int) == 1) = decide (cutN n true / 2 ^ 15 % 2 = 1) := by rw [Bool.eq_iff_iff]; simp; omega
        first | rw [decide_eq_true hb] at hB | rw [decide_eq_false hb] at hB
        first | rw [if_pos hb] at HS | rw [if_neg hb] at HS
        clear hb
        go_enter Try.func16, Try.ntmps16
        go_wp2_with (first
          | (go_at_call 15; refine (rcut_c _ _ (by omega) _).mono ?_; rintro e w' ⟨rfl, ⟨nd, rfl⟩⟩)
          | (go_at_call 14; refine (rsize_c _ _).mono ?_; rintro e w' ⟨rfl, ⟨nd, rfl⟩⟩)
          | (go_at_call 34; refine (rbit_c _ _ hc (by omega) (by omega) _).mono ?_; rintro e w' ⟨rfl, ⟨nd, rfl⟩⟩))
        go_ret
        exact ⟨ri (by rw [HW.out, HS.out]), by repeat (first | exact Drawn0.refl _ | apply Drawn0.step)⟩

/-- What is left by Go's way of dividing, brought above 0. -/
theorem tmod_up (P : Int) (o : Int) (ho : 0 < o) : (Int.tmod P o + o) % o = P % o := by
  have h := Int.tmod_eq_emod (a := P) (b := o)
  rw [h]
  split
  · simp
  · rw [show P % o - (o.natAbs : Int) + o = P % o by omega]; simp
theorem tmod_bb (P : Int) (o : Int) (ho : 0 < o) : -o < Int.tmod P o ∧ Int.tmod P o < o := by
  have h := Int.tmod_eq_emod (a := P) (b := o)
  have h1 := Int.emod_nonneg P (show o ≠ 0 by omega)
  have h2 := Int.emod_lt_of_pos P ho
  rw [h]
  split
  · omega
  · rename_i hq
    have : ¬ o ∣ P := fun hd => hq (Or.inr hd)
    have : P % o ≠ 0 := fun h => this (Int.dvd_of_emod_eq_zero h)
    omega
theorem tdiv_ex (P : Int) (o : Int) (ho : 0 < o) : Int.tdiv (P - P % o) o = P / o := by
  have h : P - P % o = o * (P / o) := by have := Int.mul_ediv_add_emod P o; omega
  rw [h, Int.mul_tdiv_cancel_left _ (by omega)]
theorem ediv_ex (P : Int) (o : Int) (ho : 0 < o) : (P - P % o) / o = P / o := by
  have h : P - P % o = o * (P / o) := by have := Int.mul_ediv_add_emod P o; omega
  rw [h, Int.mul_ediv_cancel_left _ (by omega)]
end Go.Proofs.Ytefdfcdgghoknaa.My
