/- The walk of the law LongDecimal. -/
import Derived.Test.YtefdfcdgghoknaaDecA
import Derived.Test.YtefdfcdgghoknaaLongV
import Derived.Test.YtefdfcdgghoknaaAluL
import Derived.Test.YtefdfcdgghoknaaDecLe
namespace Go.Proofs.Ytefdfcdgghoknaa.My
open Go.RowKit Go.Proofs.YtefdfcdgghoknaaW.PrintWords Go.Proofs.YtefdfcdgghoknaaW.PrintLast Go.Proofs.YtefdfcdgghoknaaW.PrintMore
set_option linter.unusedVariables false
set_option linter.unusedSimpArgs false

set_option maxRecDepth 100000 in
set_option maxHeartbeats 8000000 in
theorem decl_11_00 (ax was : Nat) (kind : Int) (w : World) (h1 : ax < 65536) (h2 : was < 65536) (hk : Go.bits .and .i64 kind 3 = 0) (hh : 9 < ax % 256 % 16) (hw : 153 < ax % 256) :
    Calls Try.prog 5 #[.int .u16 ax, .int .u16 was, .int .i64 kind] w fun e w' => e = .returned (.bool true) ∧ Below w.heap.size w w' := by
  have DC := dec_11 ax was h1 h2
  have b4 : decide (0 < Go.bits .and .u16 (was : Int) 16) = decide (was / 16 % 2 = 1) := by
    have := bit4 was h2
    have hn := u16_and_nat was 16 h2 (by omega)
    rw [show ((16 : Nat) : Int) = 16 from rfl] at hn
    rw [← this, hn, Bool.eq_iff_iff, bne_iff_ne, decide_eq_true_eq]; omega
  have b0 : decide (0 < Go.bits .and .u16 (was : Int) 1) = decide (was % 2 = 1) := by
    have := bit0' was h2
    have hn := u16_and_nat was 1 h2 (by omega)
    rw [show ((1 : Nat) : Int) = 1 from rfl] at hn
    rw [← this, hn, Bool.eq_iff_iff, bne_iff_ne, decide_eq_true_eq]; omega
  obtain ⟨AL, hAL⟩ : ∃ AL : Nat, ax % 256 = AL := ⟨_, rfl⟩
  obtain ⟨AH, hAH⟩ : ∃ AH : Nat, ax / 256 = AH := ⟨_, rfl⟩
  have A70 := adj_70 ax was AL AH h1 h2 hAL hAH
  have A71 := adj_71 ax was AL AH h1 h2 hAL hAH
  rw [hAL] at hh DC hw
  rw [hAH] at DC
  have l1 : AL < 256 := by omega
  have l2 : AH < 256 := by omega
  have hL : (ax : Int) % 256 = (AL : Int) := by omega
  have hH : (ax : Int) / 256 = (AH : Int) := by omega
  have hX : halfB AL was = true := by simp [halfB]; omega
  rw [hX] at DC
  have hW : wholeB AL was = true := by simp [wholeB]; omega
  rw [hW] at DC
  clear hX hW
  clear b4
  clear b0
  have s1 : 9 < AL % 16 := by omega
  have s2 : 153 < AL := by omega
  clear hh hAL hAH hw
  have kl : was &&& 2261 < 65536 := Nat.and_lt_two_pow (n := 16) _ (by decide)
  have e45 : Go.bits .and .u16 was 2261 = ((was &&& 2261 : Nat) : Int) := andN was 2261 h2 (by decide)
  have e47 := andNot17 (was &&& 2261) kl
  have e65 : Go.bits .and .u16 ((was &&& 2261 : Nat) : Int) 2065 = ((was &&& 2065 : Nat) : Int) := by rw [and2065c _ kl, and2065]
  have ol : was &&& 2065 < 65536 := Nat.and_lt_two_pow (n := 16) _ (by decide)
  have HDC := Aside0.mk (fun w => (DC w).mono (fun e w' ⟨he, hw⟩ => And.intro (he.trans (r3' (c := ((AL : Int) + 102 + 256) % 256 + 256 * (AH : Int)) (d := Go.bits .or .u16 (Go.bits .or .u16 (Go.bits .or .u16 (Go.bits .and .u16 ((was &&& 2261 : Nat) : Int) 2048) 16) 1) ((signsN (decX 11 AL true true) false : Nat) : Int)) (by simp [decX, decY, byN] <;> omega) (by rw [andN2048 _ kl, or16 _ (Nat.and_lt_two_pow (n := 16) _ (by decide)), or1 _ (Nat.or_lt_two_pow (n := 16) (Nat.and_lt_two_pow (n := 16) _ (by decide)) (by decide)), orN _ _ (Nat.or_lt_two_pow (n := 16) (Nat.or_lt_two_pow (n := 16) (Nat.and_lt_two_pow (n := 16) _ (by decide)) (by decide)) (by decide)) (Nat.lt_of_le_of_lt (signsN_le _ _) (by decide))] <;> simp [decF]) rfl)) hw))
  have sg : ∀ y, signsN y false < 65536 := fun y => Nat.lt_of_le_of_lt (signsN_le _ _) (by decide)
  have H70 := Aside0.mk (fun w => (A70 w).mono (fun e w' ⟨he, hw⟩ => And.intro (he.trans (r3' (c := (AL : Int) % 10 + (AL : Int) / 10 * 256) (d := Go.bits .or .u16 ((was &&& 2065 : Nat) : Int) ((signsN (AL % 10) false : Nat) : Int)) (by omega) (orN _ _ ol (sg _)).symm rfl)) hw))
  have H71 := Aside0.mk (fun w => (A71 w).mono (fun e w' ⟨he, hw⟩ => And.intro (he.trans (r3' (c := ((AL : Int) + 10 * (AH : Int)) % 256) (d := Go.bits .or .u16 ((was &&& 2065 : Nat) : Int) ((signsN ((AL + 10 * AH) % 256) false : Nat) : Int)) (by omega) (orN _ _ ol (sg _)).symm rfl)) hw))
  have HNO := Aside0.mk (adj_no 11 ax was (by decide) (by decide))
  have S70 := Aside0.mk (rsigns_c (AL % 10) false (by omega))
  have S71 := Aside0.mk (rsigns_c ((AL + 10 * AH) % 256) false (by omega))
  rw [show ((AL % 10 : Nat) : Int) = (AL : Int) % 10 by omega] at S70
  rw [show (((AL + 10 * AH) % 256 : Nat) : Int) = ((AL : Int) + 10 * (AH : Int)) % 256 by omega] at S71
  have S19 := Aside0.mk (rsigns_c (decX 11 AL true true) false (by have := decX_lt 11 AL true true; omega))
  rw [show ((decX 11 AL true true : Nat) : Int) = ((AL : Int) + 102) % 256 by simp [decX, byN] <;> omega] at S19
  clear DC A70 A71 sg
  go_enter Try.func5, Try.ntmps5
  go_wp2_with (first | (go_at_call 20; (with_reducible refine (HDC.out _).mono ?_); rintro e wd ⟨rfl, rfl⟩) | (go_at_call 21; (first | (with_reducible refine (H70.out _).mono ?_) | (with_reducible refine (H71.out _).mono ?_) | (with_reducible refine (HNO.out _).mono ?_)); rintro e wd ⟨rfl, rfl⟩) | (go_at_call 17; (with_reducible refine (awake10_c _).mono ?_); rintro e wd ⟨rfl, ⟨nd, rfl⟩⟩) | (go_at_call 19; (first | (with_reducible refine (S70.out _).mono ?_) | (with_reducible refine (S71.out _).mono ?_) | (with_reducible refine (S19.out _).mono ?_)); rintro e wd ⟨rfl, ⟨nd, rfl⟩⟩))
  go_ret
  exact ⟨rfl, by repeat (first | exact Below.refl _ _ | apply below_drew1 | apply pw_below_drewN)⟩

set_option maxRecDepth 100000 in
set_option maxHeartbeats 8000000 in
theorem decl_11_01 (ax was : Nat) (kind : Int) (w : World) (h1 : ax < 65536) (h2 : was < 65536) (hk : Go.bits .and .i64 kind 3 = 0) (hh : 9 < ax % 256 % 16) (hw : (ax % 256 ≤ 153 ∧ was % 2 = 1)) :
    Calls Try.prog 5 #[.int .u16 ax, .int .u16 was, .int .i64 kind] w fun e w' => e = .returned (.bool true) ∧ Below w.heap.size w w' := by
  have DC := dec_11 ax was h1 h2
  have b4 : decide (0 < Go.bits .and .u16 (was : Int) 16) = decide (was / 16 % 2 = 1) := by
    have := bit4 was h2
    have hn := u16_and_nat was 16 h2 (by omega)
    rw [show ((16 : Nat) : Int) = 16 from rfl] at hn
    rw [← this, hn, Bool.eq_iff_iff, bne_iff_ne, decide_eq_true_eq]; omega
  have b0 : decide (0 < Go.bits .and .u16 (was : Int) 1) = decide (was % 2 = 1) := by
    have := bit0' was h2
    have hn := u16_and_nat was 1 h2 (by omega)
    rw [show ((1 : Nat) : Int) = 1 from rfl] at hn
    rw [← this, hn, Bool.eq_iff_iff, bne_iff_ne, decide_eq_true_eq]; omega
  obtain ⟨AL, hAL⟩ : ∃ AL : Nat, ax % 256 = AL := ⟨_, rfl⟩
  obtain ⟨AH, hAH⟩ : ∃ AH : Nat, ax / 256 = AH := ⟨_, rfl⟩
  have A70 := adj_70 ax was AL AH h1 h2 hAL hAH
  have A71 := adj_71 ax was AL AH h1 h2 hAL hAH
  rw [hAL] at hh DC hw
  rw [hAH] at DC
  have l1 : AL < 256 := by omega
  have l2 : AH < 256 := by omega
  have hL : (ax : Int) % 256 = (AL : Int) := by omega
  have hH : (ax : Int) / 256 = (AH : Int) := by omega
  have hX : halfB AL was = true := by simp [halfB]; omega
  rw [hX] at DC
  have hW : wholeB AL was = true := by simp [wholeB]; omega
  rw [hW] at DC
  clear hX hW
  clear b4
  replace b0 := b0.trans (decide_eq_true (by omega))
  have s1 : 9 < AL % 16 := by omega
  have s2 : AL ≤ 153 := by omega
  clear hh hAL hAH hw
  have kl : was &&& 2261 < 65536 := Nat.and_lt_two_pow (n := 16) _ (by decide)
  have e45 : Go.bits .and .u16 was 2261 = ((was &&& 2261 : Nat) : Int) := andN was 2261 h2 (by decide)
  have e47 := andNot17 (was &&& 2261) kl
  have e65 : Go.bits .and .u16 ((was &&& 2261 : Nat) : Int) 2065 = ((was &&& 2065 : Nat) : Int) := by rw [and2065c _ kl, and2065]
  have ol : was &&& 2065 < 65536 := Nat.and_lt_two_pow (n := 16) _ (by decide)
  have HDC := Aside0.mk (fun w => (DC w).mono (fun e w' ⟨he, hw⟩ => And.intro (he.trans (r3' (c := ((AL : Int) + 102 + 256) % 256 + 256 * (AH : Int)) (d := Go.bits .or .u16 (Go.bits .or .u16 (Go.bits .or .u16 (Go.bits .and .u16 ((was &&& 2261 : Nat) : Int) 2048) 16) 1) ((signsN (decX 11 AL true true) false : Nat) : Int)) (by simp [decX, decY, byN] <;> omega) (by rw [andN2048 _ kl, or16 _ (Nat.and_lt_two_pow (n := 16) _ (by decide)), or1 _ (Nat.or_lt_two_pow (n := 16) (Nat.and_lt_two_pow (n := 16) _ (by decide)) (by decide)), orN _ _ (Nat.or_lt_two_pow (n := 16) (Nat.or_lt_two_pow (n := 16) (Nat.and_lt_two_pow (n := 16) _ (by decide)) (by decide)) (by decide)) (Nat.lt_of_le_of_lt (signsN_le _ _) (by decide))] <;> simp [decF]) rfl)) hw))
  have sg : ∀ y, signsN y false < 65536 := fun y => Nat.lt_of_le_of_lt (signsN_le _ _) (by decide)
  have H70 := Aside0.mk (fun w => (A70 w).mono (fun e w' ⟨he, hw⟩ => And.intro (he.trans (r3' (c := (AL : Int) % 10 + (AL : Int) / 10 * 256) (d := Go.bits .or .u16 ((was &&& 2065 : Nat) : Int) ((signsN (AL % 10) false : Nat) : Int)) (by omega) (orN _ _ ol (sg _)).symm rfl)) hw))
  have H71 := Aside0.mk (fun w => (A71 w).mono (fun e w' ⟨he, hw⟩ => And.intro (he.trans (r3' (c := ((AL : Int) + 10 * (AH : Int)) % 256) (d := Go.bits .or .u16 ((was &&& 2065 : Nat) : Int) ((signsN ((AL + 10 * AH) % 256) false : Nat) : Int)) (by omega) (orN _ _ ol (sg _)).symm rfl)) hw))
  have HNO := Aside0.mk (adj_no 11 ax was (by decide) (by decide))
  have S70 := Aside0.mk (rsigns_c (AL % 10) false (by omega))
  have S71 := Aside0.mk (rsigns_c ((AL + 10 * AH) % 256) false (by omega))
  rw [show ((AL % 10 : Nat) : Int) = (AL : Int) % 10 by omega] at S70
  rw [show (((AL + 10 * AH) % 256 : Nat) : Int) = ((AL : Int) + 10 * (AH : Int)) % 256 by omega] at S71
  have S19 := Aside0.mk (rsigns_c (decX 11 AL true true) false (by have := decX_lt 11 AL true true; omega))
  rw [show ((decX 11 AL true true : Nat) : Int) = ((AL : Int) + 102) % 256 by simp [decX, byN] <;> omega] at S19
  clear DC A70 A71 sg
  go_enter Try.func5, Try.ntmps5
  go_wp2_with (first | (go_at_call 20; (with_reducible refine (HDC.out _).mono ?_); rintro e wd ⟨rfl, rfl⟩) | (go_at_call 21; (first | (with_reducible refine (H70.out _).mono ?_) | (with_reducible refine (H71.out _).mono ?_) | (with_reducible refine (HNO.out _).mono ?_)); rintro e wd ⟨rfl, rfl⟩) | (go_at_call 17; (with_reducible refine (awake10_c _).mono ?_); rintro e wd ⟨rfl, ⟨nd, rfl⟩⟩) | (go_at_call 19; (first | (with_reducible refine (S70.out _).mono ?_) | (with_reducible refine (S71.out _).mono ?_) | (with_reducible refine (S19.out _).mono ?_)); rintro e wd ⟨rfl, ⟨nd, rfl⟩⟩))
  go_ret
  exact ⟨rfl, by repeat (first | exact Below.refl _ _ | apply below_drew1 | apply pw_below_drewN)⟩

set_option maxRecDepth 100000 in
set_option maxHeartbeats 8000000 in
theorem decl_11_02 (ax was : Nat) (kind : Int) (w : World) (h1 : ax < 65536) (h2 : was < 65536) (hk : Go.bits .and .i64 kind 3 = 0) (hh : 9 < ax % 256 % 16) (hw : (ax % 256 ≤ 153 ∧ ¬ was % 2 = 1)) :
    Calls Try.prog 5 #[.int .u16 ax, .int .u16 was, .int .i64 kind] w fun e w' => e = .returned (.bool true) ∧ Below w.heap.size w w' := by
  have DC := dec_11 ax was h1 h2
  have b4 : decide (0 < Go.bits .and .u16 (was : Int) 16) = decide (was / 16 % 2 = 1) := by
    have := bit4 was h2
    have hn := u16_and_nat was 16 h2 (by omega)
    rw [show ((16 : Nat) : Int) = 16 from rfl] at hn
    rw [← this, hn, Bool.eq_iff_iff, bne_iff_ne, decide_eq_true_eq]; omega
  have b0 : decide (0 < Go.bits .and .u16 (was : Int) 1) = decide (was % 2 = 1) := by
    have := bit0' was h2
    have hn := u16_and_nat was 1 h2 (by omega)
    rw [show ((1 : Nat) : Int) = 1 from rfl] at hn
    rw [← this, hn, Bool.eq_iff_iff, bne_iff_ne, decide_eq_true_eq]; omega
  obtain ⟨AL, hAL⟩ : ∃ AL : Nat, ax % 256 = AL := ⟨_, rfl⟩
  obtain ⟨AH, hAH⟩ : ∃ AH : Nat, ax / 256 = AH := ⟨_, rfl⟩
  have A70 := adj_70 ax was AL AH h1 h2 hAL hAH
  have A71 := adj_71 ax was AL AH h1 h2 hAL hAH
  rw [hAL] at hh DC hw
  rw [hAH] at DC
  have l1 : AL < 256 := by omega
  have l2 : AH < 256 := by omega
  have hL : (ax : Int) % 256 = (AL : Int) := by omega
  have hH : (ax : Int) / 256 = (AH : Int) := by omega
  have hX : halfB AL was = true := by simp [halfB]; omega
  rw [hX] at DC
  have hW : wholeB AL was = false := by simp [wholeB]; omega
  rw [hW] at DC
  clear hX hW
  clear b4
  replace b0 := b0.trans (decide_eq_false (by omega))
  have s1 : 9 < AL % 16 := by omega
  have s2 : AL ≤ 153 := by omega
  clear hh hAL hAH hw
  have kl : was &&& 2261 < 65536 := Nat.and_lt_two_pow (n := 16) _ (by decide)
  have e45 : Go.bits .and .u16 was 2261 = ((was &&& 2261 : Nat) : Int) := andN was 2261 h2 (by decide)
  have e47 := andNot17 (was &&& 2261) kl
  have e65 : Go.bits .and .u16 ((was &&& 2261 : Nat) : Int) 2065 = ((was &&& 2065 : Nat) : Int) := by rw [and2065c _ kl, and2065]
  have ol : was &&& 2065 < 65536 := Nat.and_lt_two_pow (n := 16) _ (by decide)
  have HDC := Aside0.mk (fun w => (DC w).mono (fun e w' ⟨he, hw⟩ => And.intro (he.trans (r3' (c := ((AL : Int) + 6 + 256) % 256 + 256 * (AH : Int)) (d := Go.bits .or .u16 (Go.bits .or .u16 (Go.bits .and .u16 ((was &&& 2261 : Nat) : Int) 2048) 16) ((signsN (decX 11 AL true false) false : Nat) : Int)) (by simp [decX, decY, byN] <;> omega) (by rw [andN2048 _ kl, or16 _ (Nat.and_lt_two_pow (n := 16) _ (by decide)), orN _ _ (Nat.or_lt_two_pow (n := 16) (Nat.and_lt_two_pow (n := 16) _ (by decide)) (by decide)) (Nat.lt_of_le_of_lt (signsN_le _ _) (by decide))] <;> simp [decF]) rfl)) hw))
  have sg : ∀ y, signsN y false < 65536 := fun y => Nat.lt_of_le_of_lt (signsN_le _ _) (by decide)
  have H70 := Aside0.mk (fun w => (A70 w).mono (fun e w' ⟨he, hw⟩ => And.intro (he.trans (r3' (c := (AL : Int) % 10 + (AL : Int) / 10 * 256) (d := Go.bits .or .u16 ((was &&& 2065 : Nat) : Int) ((signsN (AL % 10) false : Nat) : Int)) (by omega) (orN _ _ ol (sg _)).symm rfl)) hw))
  have H71 := Aside0.mk (fun w => (A71 w).mono (fun e w' ⟨he, hw⟩ => And.intro (he.trans (r3' (c := ((AL : Int) + 10 * (AH : Int)) % 256) (d := Go.bits .or .u16 ((was &&& 2065 : Nat) : Int) ((signsN ((AL + 10 * AH) % 256) false : Nat) : Int)) (by omega) (orN _ _ ol (sg _)).symm rfl)) hw))
  have HNO := Aside0.mk (adj_no 11 ax was (by decide) (by decide))
  have S70 := Aside0.mk (rsigns_c (AL % 10) false (by omega))
  have S71 := Aside0.mk (rsigns_c ((AL + 10 * AH) % 256) false (by omega))
  rw [show ((AL % 10 : Nat) : Int) = (AL : Int) % 10 by omega] at S70
  rw [show (((AL + 10 * AH) % 256 : Nat) : Int) = ((AL : Int) + 10 * (AH : Int)) % 256 by omega] at S71
  have S19 := Aside0.mk (rsigns_c (decX 11 AL true false) false (by have := decX_lt 11 AL true false; omega))
  rw [show ((decX 11 AL true false : Nat) : Int) = ((AL : Int) + 6) % 256 by simp [decX, byN] <;> omega] at S19
  clear DC A70 A71 sg
  go_enter Try.func5, Try.ntmps5
  go_wp2_with (first | (go_at_call 20; (with_reducible refine (HDC.out _).mono ?_); rintro e wd ⟨rfl, rfl⟩) | (go_at_call 21; (first | (with_reducible refine (H70.out _).mono ?_) | (with_reducible refine (H71.out _).mono ?_) | (with_reducible refine (HNO.out _).mono ?_)); rintro e wd ⟨rfl, rfl⟩) | (go_at_call 17; (with_reducible refine (awake10_c _).mono ?_); rintro e wd ⟨rfl, ⟨nd, rfl⟩⟩) | (go_at_call 19; (first | (with_reducible refine (S70.out _).mono ?_) | (with_reducible refine (S71.out _).mono ?_) | (with_reducible refine (S19.out _).mono ?_)); rintro e wd ⟨rfl, ⟨nd, rfl⟩⟩))
  go_ret
  exact ⟨rfl, by repeat (first | exact Below.refl _ _ | apply below_drew1 | apply pw_below_drewN)⟩
end Go.Proofs.Ytefdfcdgghoknaa.My
