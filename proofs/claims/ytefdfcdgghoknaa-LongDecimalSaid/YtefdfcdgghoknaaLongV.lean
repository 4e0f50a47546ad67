/- long.Div and what wakes layer 10. -/
import Derived.Test.YtefdfcdgghoknaaLongW
namespace Go.Proofs.Ytefdfcdgghoknaa.My
open Go.RowKit Go.Proofs.YtefdfcdgghoknaaW.PrintWords Go.Proofs.YtefdfcdgghoknaaW.PrintLast Go.Proofs.YtefdfcdgghoknaaW.PrintMore
set_option linter.unusedVariables false
set_option linter.unusedSimpArgs false

/-- What is divided: both halves together. -/
def dvdN (low high : Nat) (wide : Bool) : Nat := cutN high wide * MM wide + cutN low wide
theorem dvdN_lt (low high : Nat) (wide : Bool) : dvdN low high wide < MM wide * MM wide := by
  have h1 := cutN_M high wide
  have h2 := cutN_M low wide
  unfold dvdN MM at *
  cases wide <;> simp at * <;> omega
def sgnI (D : Nat) (wide : Bool) : Int := if D < MM wide * HH wide then (D : Int) else (D : Int) - (MM wide * MM wide : Nat)
theorem sgnI_b (D : Nat) (wide : Bool) (h : D < MM wide * MM wide) : -(2147483648 : Int) ≤ sgnI D wide ∧ sgnI D wide < 2147483648 := by
  unfold sgnI MM HH at *
  cases wide <;> simp at * <;> split <;> omega
/-- n = high << 16 | low. -/
theorem join16 (h l : Nat) (hh : h < 65536) (hl : l < 65536) : Go.bits .or .u32 ((h : Int) * 65536) l = ((h * 65536 + l : Nat) : Int) := by
  have e : (h : Int) * 65536 = ((h * 65536 : Nat) : Int) := by omega
  rw [e, u32_or_nat _ _ (by omega) (by omega), nat_join 16 _ _ (by omega) (by omega)]
theorem join8 (h l : Nat) (hh : h < 256) (hl : l < 256) : Go.bits .or .u32 ((h : Int) * 256) l = ((h * 256 + l : Nat) : Int) := by
  have e : (h : Int) * 256 = ((h * 256 : Nat) : Int) := by omega
  rw [e, u32_or_nat _ _ (by omega) (by omega), nat_join 8 _ _ (by omega) (by omega)]
theorem tdiv_b (A B : Int) : -(A.natAbs : Int) ≤ Int.tdiv A B ∧ Int.tdiv A B ≤ (A.natAbs : Int) := by
  have := Int.natAbs_tdiv A B
  have h2 : (Int.tdiv A B).natAbs ≤ A.natAbs := by rw [this]; exact Nat.div_le_self _ _
  omega
theorem tmod_b (A B : Int) : -(A.natAbs : Int) ≤ Int.tmod A B ∧ Int.tmod A B ≤ (A.natAbs : Int) := by
  have := Int.natAbs_tmod A B
  have h2 : (Int.tmod A B).natAbs ≤ A.natAbs := by rw [this]; exact Nat.mod_le _ _
  omega
theorem cut_wrapI (q : Int) (wide : Bool) : (cutN (IntKind.u16.wrap q).toNat wide : Int) = q % (MM wide : Int) := by
  rw [IntKind.wrap_u16]
  unfold cutN MM
  cases wide <;> simp <;> omega
theorem spr_ne (v : Nat) (wide : Bool) (h : v < MM wide) (hz : v ≠ 0) : sprM v wide ≠ 0 := by
  unfold sprM; rw [cut_small v wide h]
  unfold MM HH at *; cases wide <;> simp at * <;> split <;> omega
/-- A quotient with signs that goes into its place, and what is left. -/
def sgOk (A B : Int) (wide : Bool) : Bool := decide (-((HH wide : Int) - 1) ≤ Int.tdiv A B ∧ Int.tdiv A B ≤ (HH wide : Int) - 1)
def sgQ (A B : Int) (wide : Bool) : Int := if sgOk A B wide then Int.tdiv A B % (MM wide : Int) else 0
def sgR (A B : Int) (wide : Bool) : Int := if sgOk A B wide then Int.tmod A B % (MM wide : Int) else 0
theorem r3' {k l : IntKind} {a b c d : Int} {x y : Bool} (h : a = c) (h2 : b = d) (h3 : x = y) : Ending.returned (.tuple #[.int k a, .int l b, .bool x]) = Ending.returned (.tuple #[.int k c, .int l d, .bool y]) := by rw [h, h2, h3]

set_option maxHeartbeats 2000000 in
theorem signed_true (D bY : Nat) (hD : D < 4294967296) (hb : bY < 65536) (hz : bY ≠ 0) (w : World) :
    Calls Try.prog 33 #[.int .u32 D, .int .u16 bY, .bool true] w fun e w' =>
      e = .returned (.tuple #[.int .u16 (sgQ (sgnI D true) (sprM bY true) true), .int .u16 (sgR (sgnI D true) (sprM bY true) true), .bool (sgOk (sgnI D true) (sprM bY true) true)]) ∧ Drawn0 w w' := by
  obtain ⟨s0, s1⟩ := sprM_b bY true
  have hs := spr_ne bY true hb hz
  obtain ⟨i0, i1⟩ := sgnI_b D true hD
  obtain ⟨I, hI⟩ : ∃ I, sgnI D true = I := ⟨_, rfl⟩
  have hw1 : wrap32 (D : Int) = I := by rw [← hI]; unfold sgnI MM HH wrap32; simp; split <;> omega
  rw [hI] at i0 i1 ⊢
  clear hI
  have HZ := Aside0.mk hz
  clear hz
  obtain ⟨B, hB⟩ : ∃ B, sprM bY true = B := ⟨_, rfl⟩
  rw [hB] at s0 s1 hs ⊢
  simp [HH] at s0 s1
  have b0 : (B == 0) = false := by rw [beq_eq_false_iff_ne]; exact hs
  obtain ⟨q0, q1⟩ := tdiv_b I B
  obtain ⟨r0, r1⟩ := tmod_b I B
  have HOK := Aside0.mk (show sgOk I B true = decide (-32767 ≤ Int.tdiv I B ∧ Int.tdiv I B ≤ 32767) from rfl)
  have HQ := Aside0.mk (show sgQ I B true = if sgOk I B true then Int.tdiv I B % 65536 else 0 from rfl)
  have HR := Aside0.mk (show sgR I B true = if sgOk I B true then Int.tmod I B % 65536 else 0 from rfl)
  obtain ⟨Q, hQ⟩ : ∃ Q, Int.tdiv I B = Q := ⟨_, rfl⟩
  obtain ⟨R, hR⟩ : ∃ R, Int.tmod I B = R := ⟨_, rfl⟩
  rw [hQ] at q0 q1 HOK HQ
  rw [hR] at r0 r1 HR
  have q2 : -2147483648 ≤ Q := by omega
  have q3 : Q ≤ 2147483648 := by omega
  have r2 : -2147483648 ≤ R := by omega
  have r3 : R ≤ 2147483648 := by omega
  have hneg : ¬ (I = -9223372036854775808) := by omega
  clear q0 q1 r0 r1 hneg
  have fin : ∀ x : Bool, sgOk I B true = x → Aside0 (sgOk I B true = x) := fun _ h => ⟨h⟩
  by_cases c1 : 32767 < Q
  · have K := fin false (by rw [HOK.out]; simp; omega)
    clear fin
    go_enter Try.func33, Try.ntmps33
    go_wp2_with (first
      | (go_at_call 35; refine (spread_c _ _ (by omega) _).mono ?_; rintro e w' ⟨rfl, rfl⟩))
    go_quiet (fail)
    go_wp2
    go_ret3
    exact ⟨r3' (by rw [HQ.out, K.out]; rfl) (by rw [HR.out, K.out]; rfl) (by rw [K.out]), by repeat (first | exact Drawn0.refl _ | apply Drawn0.step)⟩
  by_cases c2 : Q < -32767
  · have K := fin false (by rw [HOK.out]; simp; omega)
    clear fin
    go_enter Try.func33, Try.ntmps33
    go_wp2_with (first
      | (go_at_call 35; refine (spread_c _ _ (by omega) _).mono ?_; rintro e w' ⟨rfl, rfl⟩))
    go_quiet (fail)
    go_wp2
    go_ret3
    exact ⟨r3' (by rw [HQ.out, K.out]; rfl) (by rw [HR.out, K.out]; rfl) (by rw [K.out]), by repeat (first | exact Drawn0.refl _ | apply Drawn0.step)⟩
  · have K := fin true (by rw [HOK.out]; simp; omega)
    clear fin
    go_enter Try.func33, Try.ntmps33
    go_wp2_with (first
      | (go_at_call 35; refine (spread_c _ _ (by omega) _).mono ?_; rintro e w' ⟨rfl, rfl⟩))
    go_quiet (fail)
    go_wp2_with (first
      | (go_at_call 29; refine (cut_i _ _ (by first | omega | exact (u16w_b _).1) (by first | omega | exact (u16w_b _).2) _).mono ?_; rintro e w' ⟨rfl, rfl⟩))
    go_ret3
    exact ⟨r3' (by rw [HQ.out, K.out, if_pos rfl]; exact cut_wrapI Q true) (by rw [HR.out, K.out, if_pos rfl]; exact cut_wrapI R true) (by rw [K.out]), by repeat (first | exact Drawn0.refl _ | apply Drawn0.step)⟩

set_option maxHeartbeats 2000000 in
theorem signed_false (D bY : Nat) (hD : D < 65536) (hb : bY < 256) (hz : bY ≠ 0) (w : World) :
    Calls Try.prog 33 #[.int .u32 D, .int .u16 bY, .bool false] w fun e w' =>
      e = .returned (.tuple #[.int .u16 (sgQ (sgnI D false) (sprM bY false) false), .int .u16 (sgR (sgnI D false) (sprM bY false) false), .bool (sgOk (sgnI D false) (sprM bY false) false)]) ∧ Drawn0 w w' := by
  obtain ⟨s0, s1⟩ := sprM_b bY false
  have hs := spr_ne bY false hb hz
  obtain ⟨i0, i1⟩ := sgnI_b D false hD
  obtain ⟨I, hI⟩ : ∃ I, sgnI D false = I := ⟨_, rfl⟩
  have hw1 : IntKind.i16.wrap (D : Int) = I := by rw [← hI]; rw [wrap_i16]; unfold sgnI MM HH; simp; split <;> omega
  rw [hI] at i0 i1 ⊢
  clear hI
  have HZ := Aside0.mk hz
  clear hz
  obtain ⟨B, hB⟩ : ∃ B, sprM bY false = B := ⟨_, rfl⟩
  rw [hB] at s0 s1 hs ⊢
  simp [HH] at s0 s1
  have b0 : (B == 0) = false := by rw [beq_eq_false_iff_ne]; exact hs
  obtain ⟨q0, q1⟩ := tdiv_b I B
  obtain ⟨r0, r1⟩ := tmod_b I B
  have HOK := Aside0.mk (show sgOk I B false = decide (-127 ≤ Int.tdiv I B ∧ Int.tdiv I B ≤ 127) from rfl)
  have HQ := Aside0.mk (show sgQ I B false = if sgOk I B false then Int.tdiv I B % 256 else 0 from rfl)
  have HR := Aside0.mk (show sgR I B false = if sgOk I B false then Int.tmod I B % 256 else 0 from rfl)
  obtain ⟨Q, hQ⟩ : ∃ Q, Int.tdiv I B = Q := ⟨_, rfl⟩
  obtain ⟨R, hR⟩ : ∃ R, Int.tmod I B = R := ⟨_, rfl⟩
  rw [hQ] at q0 q1 HOK HQ
  rw [hR] at r0 r1 HR
  have q2 : -2147483648 ≤ Q := by omega
  have q3 : Q ≤ 2147483648 := by omega
  have r2 : -2147483648 ≤ R := by omega
  have r3 : R ≤ 2147483648 := by omega
  have hneg : ¬ (I = -9223372036854775808) := by omega
  clear q0 q1 r0 r1 hneg
  have fin : ∀ x : Bool, sgOk I B false = x → Aside0 (sgOk I B false = x) := fun _ h => ⟨h⟩
  by_cases c1 : 127 < Q
  · have K := fin false (by rw [HOK.out]; simp; omega)
    clear fin
    go_enter Try.func33, Try.ntmps33
    go_wp2_with (first
      | (go_at_call 35; refine (spread_c _ _ (by omega) _).mono ?_; rintro e w' ⟨rfl, rfl⟩))
    go_quiet (fail)
    go_wp2
    go_ret3
    exact ⟨r3' (by rw [HQ.out, K.out]; rfl) (by rw [HR.out, K.out]; rfl) (by rw [K.out]), by repeat (first | exact Drawn0.refl _ | apply Drawn0.step)⟩
  by_cases c2 : Q < -127
  · have K := fin false (by rw [HOK.out]; simp; omega)
    clear fin
    go_enter Try.func33, Try.ntmps33
    go_wp2_with (first
      | (go_at_call 35; refine (spread_c _ _ (by omega) _).mono ?_; rintro e w' ⟨rfl, rfl⟩))
    go_quiet (fail)
    go_wp2
    go_ret3
    exact ⟨r3' (by rw [HQ.out, K.out]; rfl) (by rw [HR.out, K.out]; rfl) (by rw [K.out]), by repeat (first | exact Drawn0.refl _ | apply Drawn0.step)⟩
  · have K := fin true (by rw [HOK.out]; simp; omega)
    clear fin
    go_enter Try.func33, Try.ntmps33
    go_wp2_with (first
      | (go_at_call 35; refine (spread_c _ _ (by omega) _).mono ?_; rintro e w' ⟨rfl, rfl⟩))
    go_quiet (fail)
    go_wp2_with (first
      | (go_at_call 29; refine (cut_i _ _ (by first | omega | exact (u16w_b _).1) (by first | omega | exact (u16w_b _).2) _).mono ?_; rintro e w' ⟨rfl, rfl⟩))
    go_ret3
    exact ⟨r3' (by rw [HQ.out, K.out, if_pos rfl]; exact cut_wrapI Q false) (by rw [HR.out, K.out, if_pos rfl]; exact cut_wrapI R false) (by rw [K.out]), by repeat (first | exact Drawn0.refl _ | apply Drawn0.step)⟩

theorem cdiv (D C : Nat) : (D : Int) / (C : Int) = ((D / C : Nat) : Int) := by simp
theorem cmod (D C : Nat) : (D : Int) % (C : Int) = ((D % C : Nat) : Int) := by simp
theorem cut_cut (v : Nat) (wide : Bool) : cutN (cutN v wide) wide = cutN v wide := cut_small _ wide (cutN_M v wide)

set_option maxRecDepth 100000 in
set_option maxHeartbeats 2000000 in
theorem divz_88_true (low high bY : Nat) (a1 : low < 65536) (b1 : high < 65536) (c1 : bY < 65536) (hz : cutN bY true = 0) (w : World) :
    Calls Try.prog 13 #[.int .i64 88, .int .u16 low, .int .u16 high, .int .u16 bY, .bool true] w fun e w' => e = .returned (.tuple #[.int .u16 0, .int .u16 0, .bool false]) ∧ Drawn0 w w' := by
  obtain ⟨C, hC⟩ : ∃ C, cutN bY true = C := ⟨_, rfl⟩
  rw [hC] at hz
  subst hz
  go_enter Try.func13, Try.ntmps13
  go_wp2_with (first
    | (go_at_call 29; refine (cut_c _ _ (by omega) _).mono ?_; rintro e w' ⟨rfl, rfl⟩))
  go_ret3
  exact ⟨rfl, by repeat (first | exact Drawn0.refl _ | apply Drawn0.step)⟩

set_option maxRecDepth 100000 in
set_option maxHeartbeats 2000000 in
theorem divz_89_true (low high bY : Nat) (a1 : low < 65536) (b1 : high < 65536) (c1 : bY < 65536) (hz : cutN bY true = 0) (w : World) :
    Calls Try.prog 13 #[.int .i64 89, .int .u16 low, .int .u16 high, .int .u16 bY, .bool true] w fun e w' => e = .returned (.tuple #[.int .u16 0, .int .u16 0, .bool false]) ∧ Drawn0 w w' := by
  obtain ⟨C, hC⟩ : ∃ C, cutN bY true = C := ⟨_, rfl⟩
  rw [hC] at hz
  subst hz
  go_enter Try.func13, Try.ntmps13
  go_wp2_with (first
    | (go_at_call 29; refine (cut_c _ _ (by omega) _).mono ?_; rintro e w' ⟨rfl, rfl⟩))
  go_ret3
  exact ⟨rfl, by repeat (first | exact Drawn0.refl _ | apply Drawn0.step)⟩

set_option maxRecDepth 100000 in
set_option maxHeartbeats 2000000 in
theorem divb_88_true (low high bY : Nat) (a1 : low < 65536) (b1 : high < 65536) (c1 : bY < 65536) (hz : cutN bY true ≠ 0) (hb : 65536 ≤ dvdN low high true / cutN bY true) (w : World) :
    Calls Try.prog 13 #[.int .i64 88, .int .u16 low, .int .u16 high, .int .u16 bY, .bool true] w fun e w' => e = .returned (.tuple #[.int .u16 0, .int .u16 0, .bool false]) ∧ Drawn0 w w' := by
  have hc := cutN_M bY true
  have hl := cutN_M low true
  have hh := cutN_M high true
  have hD := dvdN_lt low high true
  simp [MM] at hc hl hh hD
  have hl1 : cutN low true = low := cut_small low true (by simp [MM]; omega)
  have hh1 : cutN high true = high := cut_small high true (by simp [MM]; omega)
  have hjn := join16 high low b1 a1
  have hdv : high * 65536 + low = dvdN low high true := by unfold dvdN; rw [hl1, hh1]; rfl
  have ho16 : high * 65536 + low < 4294967296 := by omega
  rw [hdv] at hjn
  clear hl1 hh1 hdv ho16
  obtain ⟨D, hDe⟩ : ∃ D, dvdN low high true = D := ⟨_, rfl⟩
  rw [hDe] at hjn hD 
  obtain ⟨C, hC⟩ : ∃ C, cutN bY true = C := ⟨_, rfl⟩
  rw [hC] at hc hz hb
  have z0 : ((C : Int) == 0) = false := by rw [beq_eq_false_iff_ne]; omega
  have zz : 0 < C := by omega
  rw [hDe] at hb
  clear hDe
  have k1 : 65535 < (D : Int) / C := by rw [cdiv]; omega
  have k2 : (D : Int) / C ≤ D := by have := Nat.div_le_self D C; rw [cdiv]; omega
  have c5 : cutN 65535 true = 65535 := by decide +kernel
  clear hb
  go_enter Try.func13, Try.ntmps13
  go_wp2_with (first
    | (go_at_call 29; refine (cut_c _ _ (by omega) _).mono ?_; rintro e w' ⟨rfl, rfl⟩))
  go_quiet (fail)
  go_wp2_with (first
    | (go_at_call 29; refine (cut_c 65535 _ (by omega) _).mono ?_; rintro e w' ⟨rfl, rfl⟩))
  go_ret3
  exact ⟨rfl, by repeat (first | exact Drawn0.refl _ | apply Drawn0.step)⟩

set_option maxRecDepth 100000 in
set_option maxHeartbeats 2000000 in
theorem divo_88_true (low high bY : Nat) (a1 : low < 65536) (b1 : high < 65536) (c1 : bY < 65536) (hz : cutN bY true ≠ 0) (hb : dvdN low high true / cutN bY true < 65536) (w : World) :
    Calls Try.prog 13 #[.int .i64 88, .int .u16 low, .int .u16 high, .int .u16 bY, .bool true] w fun e w' => e = .returned (.tuple #[.int .u16 (dvdN low high true / cutN bY true : Nat), .int .u16 (dvdN low high true % cutN bY true : Nat), .bool true]) ∧ Drawn0 w w' := by
  have hc := cutN_M bY true
  have hl := cutN_M low true
  have hh := cutN_M high true
  have hD := dvdN_lt low high true
  simp [MM] at hc hl hh hD
  have hl1 : cutN low true = low := cut_small low true (by simp [MM]; omega)
  have hh1 : cutN high true = high := cut_small high true (by simp [MM]; omega)
  have hjn := join16 high low b1 a1
  have hdv : high * 65536 + low = dvdN low high true := by unfold dvdN; rw [hl1, hh1]; rfl
  have ho16 : high * 65536 + low < 4294967296 := by omega
  rw [hdv] at hjn
  clear hl1 hh1 hdv ho16
  obtain ⟨D, hDe⟩ : ∃ D, dvdN low high true = D := ⟨_, rfl⟩
  rw [hDe] at hjn hD 
  obtain ⟨C, hC⟩ : ∃ C, cutN bY true = C := ⟨_, rfl⟩
  rw [hC] at hc hz hb ⊢
  have z0 : ((C : Int) == 0) = false := by rw [beq_eq_false_iff_ne]; omega
  have zz : 0 < C := by omega
  rw [hDe] at hb ⊢
  clear hDe
  have k1 : (D : Int) / C ≤ 65535 := by rw [cdiv]; omega
  have k0 : 0 ≤ (D : Int) / C := by rw [cdiv]; exact Int.natCast_nonneg _
  have m0 : 0 ≤ (D : Int) % C := by rw [cmod]; exact Int.natCast_nonneg _
  have m1 : (D : Int) % C ≤ 65535 := by have := Nat.mod_lt D zz; rw [cmod]; omega
  have c5 : cutN 65535 true = 65535 := by decide +kernel
  clear hb
  go_enter Try.func13, Try.ntmps13
  go_wp2_with (first
    | (go_at_call 29; refine (cut_c _ _ (by omega) _).mono ?_; rintro e w' ⟨rfl, rfl⟩))
  go_quiet (fail)
  go_wp2_with (first
    | (go_at_call 29; refine (cut_c 65535 _ (by omega) _).mono ?_; rintro e w' ⟨rfl, rfl⟩))
  go_ret3
  exact ⟨r3' (by try simp) (by try simp) rfl, by repeat (first | exact Drawn0.refl _ | apply Drawn0.step)⟩

set_option maxRecDepth 100000 in
set_option maxHeartbeats 2000000 in
theorem div_89_true (low high bY : Nat) (a1 : low < 65536) (b1 : high < 65536) (c1 : bY < 65536) (hz : cutN bY true ≠ 0) (w : World) :
    Calls Try.prog 13 #[.int .i64 89, .int .u16 low, .int .u16 high, .int .u16 bY, .bool true] w fun e w' => e = .returned (.tuple #[.int .u16 (sgQ (sgnI (dvdN low high true) true) (sprM bY true) true), .int .u16 (sgR (sgnI (dvdN low high true) true) (sprM bY true) true), .bool (sgOk (sgnI (dvdN low high true) true) (sprM bY true) true)]) ∧ Drawn0 w w' := by
  have hc := cutN_M bY true
  have hl := cutN_M low true
  have hh := cutN_M high true
  have hD := dvdN_lt low high true
  simp [MM] at hc hl hh hD
  have hl1 : cutN low true = low := cut_small low true (by simp [MM]; omega)
  have hh1 : cutN high true = high := cut_small high true (by simp [MM]; omega)
  have hjn := join16 high low b1 a1
  have hdv : high * 65536 + low = dvdN low high true := by unfold dvdN; rw [hl1, hh1]; rfl
  have ho16 : high * 65536 + low < 4294967296 := by omega
  rw [hdv] at hjn
  clear hl1 hh1 hdv ho16
  obtain ⟨D, hDe⟩ : ∃ D, dvdN low high true = D := ⟨_, rfl⟩
  rw [hDe] at hjn hD 
  rw [hDe]
  clear hDe
  have hsp : sprM (cutN bY true) true = sprM bY true := by unfold sprM; rw [cut_cut]
  rw [← hsp]
  clear hsp
  obtain ⟨C, hC⟩ : ∃ C, cutN bY true = C := ⟨_, rfl⟩
  rw [hC] at hc hz ⊢
  have z0 : ((C : Int) == 0) = false := by rw [beq_eq_false_iff_ne]; omega
  go_enter Try.func13, Try.ntmps13
  go_wp2_with (first
    | (go_at_call 29; refine (cut_c _ _ (by omega) _).mono ?_; rintro e w' ⟨rfl, rfl⟩)
    | (go_at_call 33; refine (signed_true D C hD hc hz _).mono ?_; rintro e w' ⟨rfl, ⟨nd, rfl⟩⟩))
  go_ret3
  exact ⟨rfl, by repeat (first | exact Drawn0.refl _ | apply Drawn0.step)⟩

set_option maxRecDepth 100000 in
set_option maxHeartbeats 2000000 in
theorem divz_88_false (low high bY : Nat) (a1 : low < 65536) (b1 : high < 65536) (c1 : bY < 65536) (hz : cutN bY false = 0) (w : World) :
    Calls Try.prog 13 #[.int .i64 88, .int .u16 low, .int .u16 high, .int .u16 bY, .bool false] w fun e w' => e = .returned (.tuple #[.int .u16 0, .int .u16 0, .bool false]) ∧ Drawn0 w w' := by
  obtain ⟨C, hC⟩ : ∃ C, cutN bY false = C := ⟨_, rfl⟩
  rw [hC] at hz
  subst hz
  go_enter Try.func13, Try.ntmps13
  go_wp2_with (first
    | (go_at_call 29; refine (cut_c _ _ (by omega) _).mono ?_; rintro e w' ⟨rfl, rfl⟩))
  go_ret3
  exact ⟨rfl, by repeat (first | exact Drawn0.refl _ | apply Drawn0.step)⟩

set_option maxRecDepth 100000 in
set_option maxHeartbeats 2000000 in
theorem divz_89_false (low high bY : Nat) (a1 : low < 65536) (b1 : high < 65536) (c1 : bY < 65536) (hz : cutN bY false = 0) (w : World) :
    Calls Try.prog 13 #[.int .i64 89, .int .u16 low, .int .u16 high, .int .u16 bY, .bool false] w fun e w' => e = .returned (.tuple #[.int .u16 0, .int .u16 0, .bool false]) ∧ Drawn0 w w' := by
  obtain ⟨C, hC⟩ : ∃ C, cutN bY false = C := ⟨_, rfl⟩
  rw [hC] at hz
  subst hz
  go_enter Try.func13, Try.ntmps13
  go_wp2_with (first
    | (go_at_call 29; refine (cut_c _ _ (by omega) _).mono ?_; rintro e w' ⟨rfl, rfl⟩))
  go_ret3
  exact ⟨rfl, by repeat (first | exact Drawn0.refl _ | apply Drawn0.step)⟩

set_option maxRecDepth 100000 in
set_option maxHeartbeats 2000000 in
theorem divb_88_false (low high bY : Nat) (a1 : low < 65536) (b1 : high < 65536) (c1 : bY < 65536) (hz : cutN bY false ≠ 0) (hb : 256 ≤ dvdN low high false / cutN bY false) (w : World) :
    Calls Try.prog 13 #[.int .i64 88, .int .u16 low, .int .u16 high, .int .u16 bY, .bool false] w fun e w' => e = .returned (.tuple #[.int .u16 0, .int .u16 0, .bool false]) ∧ Drawn0 w w' := by
  have hc := cutN_M bY false
  have hl := cutN_M low false
  have hh := cutN_M high false
  have hD := dvdN_lt low high false
  simp [MM] at hc hl hh hD
  have e1 : Go.bits .and .u16 (high : Int) 255 = ((cutN high false : Nat) : Int) := by rw [and255 _ (by omega) (by omega)]; rfl
  have e2 : Go.bits .and .u16 (low : Int) 255 = ((cutN low false : Nat) : Int) := by rw [and255 _ (by omega) (by omega)]; rfl
  have hjn := join8 (cutN high false) (cutN low false) hh hl
  have hdv : cutN high false * 256 + cutN low false = dvdN low high false := rfl
  rw [hdv] at hjn
  clear hdv
  obtain ⟨D, hDe⟩ : ∃ D, dvdN low high false = D := ⟨_, rfl⟩
  rw [hDe] at hjn hD 
  obtain ⟨C, hC⟩ : ∃ C, cutN bY false = C := ⟨_, rfl⟩
  rw [hC] at hc hz hb
  have z0 : ((C : Int) == 0) = false := by rw [beq_eq_false_iff_ne]; omega
  have zz : 0 < C := by omega
  rw [hDe] at hb
  clear hDe
  have k1 : 255 < (D : Int) / C := by rw [cdiv]; omega
  have k2 : (D : Int) / C ≤ D := by have := Nat.div_le_self D C; rw [cdiv]; omega
  have c5 : cutN 65535 false = 255 := by decide +kernel
  clear hb
  go_enter Try.func13, Try.ntmps13
  go_wp2_with (first
    | (go_at_call 29; refine (cut_c _ _ (by omega) _).mono ?_; rintro e w' ⟨rfl, rfl⟩))
  go_quiet (fail)
  go_wp2_with (first
    | (go_at_call 29; refine (cut_c 65535 _ (by omega) _).mono ?_; rintro e w' ⟨rfl, rfl⟩))
  go_ret3
  exact ⟨rfl, by repeat (first | exact Drawn0.refl _ | apply Drawn0.step)⟩

set_option maxRecDepth 100000 in
set_option maxHeartbeats 2000000 in
theorem divo_88_false (low high bY : Nat) (a1 : low < 65536) (b1 : high < 65536) (c1 : bY < 65536) (hz : cutN bY false ≠ 0) (hb : dvdN low high false / cutN bY false < 256) (w : World) :
    Calls Try.prog 13 #[.int .i64 88, .int .u16 low, .int .u16 high, .int .u16 bY, .bool false] w fun e w' => e = .returned (.tuple #[.int .u16 (dvdN low high false / cutN bY false : Nat), .int .u16 (dvdN low high false % cutN bY false : Nat), .bool true]) ∧ Drawn0 w w' := by
  have hc := cutN_M bY false
  have hl := cutN_M low false
  have hh := cutN_M high false
  have hD := dvdN_lt low high false
  simp [MM] at hc hl hh hD
  have e1 : Go.bits .and .u16 (high : Int) 255 = ((cutN high false : Nat) : Int) := by rw [and255 _ (by omega) (by omega)]; rfl
  have e2 : Go.bits .and .u16 (low : Int) 255 = ((cutN low false : Nat) : Int) := by rw [and255 _ (by omega) (by omega)]; rfl
  have hjn := join8 (cutN high false) (cutN low false) hh hl
  have hdv : cutN high false * 256 + cutN low false = dvdN low high false := rfl
  rw [hdv] at hjn
  clear hdv
  obtain ⟨D, hDe⟩ : ∃ D, dvdN low high false = D := ⟨_, rfl⟩
  rw [hDe] at hjn hD 
  obtain ⟨C, hC⟩ : ∃ C, cutN bY false = C := ⟨_, rfl⟩
  rw [hC] at hc hz hb ⊢
  have z0 : ((C : Int) == 0) = false := by rw [beq_eq_false_iff_ne]; omega
  have zz : 0 < C := by omega
  rw [hDe] at hb ⊢
  clear hDe
  have k1 : (D : Int) / C ≤ 255 := by rw [cdiv]; omega
  have k0 : 0 ≤ (D : Int) / C := by rw [cdiv]; exact Int.natCast_nonneg _
  have m0 : 0 ≤ (D : Int) % C := by rw [cmod]; exact Int.natCast_nonneg _
  have m1 : (D : Int) % C ≤ 255 := by have := Nat.mod_lt D zz; rw [cmod]; omega
  have c5 : cutN 65535 false = 255 := by decide +kernel
  clear hb
  go_enter Try.func13, Try.ntmps13
  go_wp2_with (first
    | (go_at_call 29; refine (cut_c _ _ (by omega) _).mono ?_; rintro e w' ⟨rfl, rfl⟩))
  go_quiet (fail)
  go_wp2_with (first
    | (go_at_call 29; refine (cut_c 65535 _ (by omega) _).mono ?_; rintro e w' ⟨rfl, rfl⟩))
  go_ret3
  exact ⟨r3' (by try simp) (by try simp) rfl, by repeat (first | exact Drawn0.refl _ | apply Drawn0.step)⟩

set_option maxRecDepth 100000 in
set_option maxHeartbeats 2000000 in
theorem div_89_false (low high bY : Nat) (a1 : low < 65536) (b1 : high < 65536) (c1 : bY < 65536) (hz : cutN bY false ≠ 0) (w : World) :
    Calls Try.prog 13 #[.int .i64 89, .int .u16 low, .int .u16 high, .int .u16 bY, .bool false] w fun e w' => e = .returned (.tuple #[.int .u16 (sgQ (sgnI (dvdN low high false) false) (sprM bY false) false), .int .u16 (sgR (sgnI (dvdN low high false) false) (sprM bY false) false), .bool (sgOk (sgnI (dvdN low high false) false) (sprM bY false) false)]) ∧ Drawn0 w w' := by
  have hc := cutN_M bY false
  have hl := cutN_M low false
  have hh := cutN_M high false
  have hD := dvdN_lt low high false
  simp [MM] at hc hl hh hD
  have e1 : Go.bits .and .u16 (high : Int) 255 = ((cutN high false : Nat) : Int) := by rw [and255 _ (by omega) (by omega)]; rfl
  have e2 : Go.bits .and .u16 (low : Int) 255 = ((cutN low false : Nat) : Int) := by rw [and255 _ (by omega) (by omega)]; rfl
  have hjn := join8 (cutN high false) (cutN low false) hh hl
  have hdv : cutN high false * 256 + cutN low false = dvdN low high false := rfl
  rw [hdv] at hjn
  clear hdv
  obtain ⟨D, hDe⟩ : ∃ D, dvdN low high false = D := ⟨_, rfl⟩
  rw [hDe] at hjn hD 
  rw [hDe]
  clear hDe
  have hsp : sprM (cutN bY false) false = sprM bY false := by unfold sprM; rw [cut_cut]
  rw [← hsp]
  clear hsp
  obtain ⟨C, hC⟩ : ∃ C, cutN bY false = C := ⟨_, rfl⟩
  rw [hC] at hc hz ⊢
  have z0 : ((C : Int) == 0) = false := by rw [beq_eq_false_iff_ne]; omega
  go_enter Try.func13, Try.ntmps13
  go_wp2_with (first
    | (go_at_call 29; refine (cut_c _ _ (by omega) _).mono ?_; rintro e w' ⟨rfl, rfl⟩)
    | (go_at_call 33; refine (signed_false D C hD hc hz _).mono ?_; rintro e w' ⟨rfl, ⟨nd, rfl⟩⟩))
  go_ret3
  exact ⟨rfl, by repeat (first | exact Drawn0.refl _ | apply Drawn0.step)⟩

theorem awake10_c (w : World) : Calls Try.prog 17 #[] w fun e w' => e = .returned (.bool true) ∧ Drawn0 w w' := by
  have e1 : ((dvdN 7 0 true / cutN 2 true : Nat) : Int) = 3 := by decide +kernel
  have e2 : ((dvdN 7 0 true % cutN 2 true : Nat) : Int) = 1 := by decide +kernel
  go_enter Try.func17, Try.ntmps17
  go_wp2_with fail
  refine (divo_88_true 7 0 2 (by omega) (by omega) (by omega) (by decide) (by decide) _).mono ?_
  rintro e w' ⟨rfl, ⟨nd, rfl⟩⟩
  rw [e1, e2]
  go_wp2_with fail
  refine (divz_88_true 7 0 0 (by omega) (by omega) (by omega) (by decide) _).mono ?_
  rintro e w' ⟨rfl, ⟨nd2, rfl⟩⟩
  go_wp2
  go_ret
  exact ⟨rfl, by repeat (first | exact Drawn0.refl _ | apply Drawn0.step)⟩
end Go.Proofs.Ytefdfcdgghoknaa.My
