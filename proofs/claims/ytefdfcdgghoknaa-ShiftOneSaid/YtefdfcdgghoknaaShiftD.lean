/- Contract of the walk of shift.Do. -/
import Derived.Test.YtefdfcdgghoknaaShiftW
import Derived.Test.YtefdfcdgghoknaaLongV
import Derived.Test.YtefdfcdgghoknaaDecW
namespace Go.Proofs.Ytefdfcdgghoknaa.My
open Go.RowKit Go.Proofs.YtefdfcdgghoknaaW.PrintWords Go.Proofs.YtefdfcdgghoknaaW.PrintLast Go.Proofs.YtefdfcdgghoknaaW.PrintMore
set_option linter.unusedVariables false
set_option linter.unusedSimpArgs false
theorem turns_c (name : Int) (w : World) : Calls Try.prog 48 #[.int .i64 name] w fun e w' => e = .returned (.bool (decide (63 ≤ name) && decide (name ≤ 66))) ∧ w = w' := by
  cases h1 : decide (63 ≤ name)
  all_goals
    go_enter Try.func48, Try.ntmps48
    go_wp2
    go_ret
    refine ⟨rb ?_, rfl⟩
    simp at h1 ⊢ <;> omega
theorem signs_128 (v : Nat) (wide : Bool) (h : v < MM wide) : Go.bits .and .u16 (signsN v wide : Nat) 128 = if v / HH wide = 1 then 128 else 0 := by
  unfold signsN
  rw [cut_small v wide h]
  by_cases c1 : v / HH wide = 1
  all_goals (first | rw [if_pos c1, if_pos c1] | rw [if_neg c1, if_neg c1])
  all_goals by_cases c2 : v = 0
  all_goals (first | rw [if_pos c2] | rw [if_neg c2])
  all_goals by_cases c3 : onesN (v % 256) 8 % 2 = 0
  all_goals (first | rw [if_pos c3] | rw [if_neg c3])
  all_goals decide
theorem signs_test (X A : Nat) (wide : Bool) (hX : X < MM wide) (hA : A < MM wide) : (Go.bits .and .u16 (signsN X wide : Nat) 128 != Go.bits .and .u16 (signsN A wide : Nat) 128) = decide (X / HH wide ≠ A / HH wide) := by
  have h1 := (top_01 X wide hX).1
  have h2 := (top_01 A wide hA).1
  rw [signs_128 X wide hX, signs_128 A wide hA]
  generalize X / HH wide = x at *
  generalize A / HH wide = a at *
  rcases (show x = 0 ∨ x = 1 by omega) with rfl | rfl <;> rcases (show a = 0 ∨ a = 1 by omega) with rfl | rfl <;> decide
theorem andNot2049 (k : Nat) (h : k < 65536) : Go.bits .andNot .u16 k 2049 = ((k &&& 63486 : Nat) : Int) := u16_andNot_nat k 2049 h (by decide)
theorem and_lt (k c : Nat) (h : k < 65536) : k &&& c < 65536 := Nat.lt_of_le_of_lt Nat.and_le_left h
theorem or_lt (k c : Nat) (h : k < 65536) (hc : c < 65536) : k ||| c < 65536 := Nat.or_lt_two_pow (n := 16) h hc
set_option maxHeartbeats 4000000 in
theorem do_s (name : Int) (v n was : Nat) (wide : Bool) (h0 : 63 ≤ name) (h1 : name ≤ 69) (hv : v < 65536) (hn : n < 256) (hz : n ≠ 0) (hw : was < 65536) (w : World) : Calls Try.prog 30 #[.int .i64 name, .int .u16 v, .int .u8 n, .int .u16 was, .bool wide] w fun e w' => e = .returned (.tuple #[.int .u16 (shN name v n was wide).1, .int .u16 (shN name v n was wide).2, .bool true]) ∧ Drawn0 w w' := by
  obtain ⟨W, hW⟩ : ∃ W, was &&& 2261 = W := ⟨_, rfl⟩
  have hWl : W < 65536 := by rw [← hW]; exact Nat.and_lt_two_pow (n := 16) _ (by decide)
  have E1 : Go.bits .and .u16 (was : Int) 2261 = (W : Int) := by rw [← hW]; exact u16_and_nat was 2261 hw (by decide)
  obtain ⟨C, hC⟩ : ∃ C, decide (was % 2 = 1) = C := ⟨_, rfl⟩
  have E2 : (Go.bits .and .u16 (W : Int) 1 != 0) = C := by
    rw [bit0 W hWl, ← hC, ← hW]
    have : (was &&& 2261) % 2 = was % 2 := by rw [← nat_mask1, Nat.and_assoc]; exact nat_mask1 was
    rw [this]
  obtain ⟨V, hV⟩ : ∃ V, cutN v wide = V := ⟨_, rfl⟩
  have hVM : V < MM wide := by rw [← hV]; exact cutN_M v wide
  have HW := Aside0.mk hW
  have HC := Aside0.mk hC
  have HV := Aside0.mk hV
  have HVM := Aside0.mk hVM
  have HZ := Aside0.mk hz
  have hn0 : ((n : Int) == 0) = false := by rw [Bool.eq_false_iff]; simp; exact hz
  have CC := Aside0.mk (cut_c v wide hv)
  have CC2 : Aside0 (∀ w, Calls Try.prog 29 #[.int .u16 v, .bool wide] w fun e w' => e = .returned (.int .u16 (V : Nat)) ∧ w = w') := ⟨by rw [← hV]; exact CC.out⟩
  clear hW hC hV hVM hz CC
  go_enter Try.func30, Try.ntmps30
  go_wp2_with (first
    | (go_at_call 29; (with_reducible refine (CC2.out _).mono ?_); rintro e w' ⟨rfl, rfl⟩))
  go_loopw [1, 13, 14, 36] (fun v c a i w' => ∃ k : Nat, k ≤ n ∧ i = .int .u8 k ∧ v = .int .u16 ((shI name wide V C k).1 : Nat) ∧ c = .bool (shI name wide V C k).2 ∧ a = .int .u16 (shA name wide V C k : Nat) ∧ Drawn0 w w') (fun _ _ _ i _ => n - (intOf i).toNat)
  case atStart => exact ⟨0, by omega, rfl, rfl, rfl, rfl, Drawn0.refl w⟩
  case round =>
    obtain ⟨k, hk, rfl, rfl, rfl, rfl, hd⟩ := hrel
    have HD := Aside0.mk hd
    clear hd
    by_cases hlt : k < n
    · have HI := Aside0.mk (shI_lt name wide V C HVM.out k)
      obtain ⟨X, hX⟩ : ∃ X, (shI name wide V C k).1 = X := ⟨_, rfl⟩
      obtain ⟨D, hDD⟩ : ∃ D, (shI name wide V C k).2 = D := ⟨_, rfl⟩
      rw [hX] at HI
      have SC := Aside0.mk (step_c name X D wide h0 h1 HI.out)
      have CX := Aside0.mk (cut_c (stepR name X D wide) wide (stepR_lt name X D wide HI.out))
      rw [stepR_cut name X D wide HI.out] at CX
      simp only [hX, hDD]
      have HX := Aside0.mk hX
      have HDD := Aside0.mk hDD
      clear hX hDD
      go_wp2_with (first
        | (go_at_call 47; (with_reducible refine (SC.out _).mono ?_); rintro e w2 ⟨rfl, hd2⟩; have HD2 := Aside0.mk hd2; clear hd2)
        | (go_at_call 29; (with_reducible refine (CX.out _).mono ?_); rintro e w' ⟨rfl, rfl⟩))
      go_roundw
      case rel => exact ⟨k + 1, by omega, by go_num, by simp only [shI, HX.out, HDD.out], by simp only [shI, HX.out, HDD.out], by simp only [shA, HX.out], by obtain ⟨m1, rfl⟩ := HD.out.out; obtain ⟨m2, rfl⟩ := HD2.out.out; exact (Drawn0.step (Drawn0.step (Drawn0.refl w) m1) m2)⟩
      case measure => simp [intOf]; omega
    · have hkn : k = n := by omega
      subst hkn
      have HI := Aside0.mk (shI_lt name wide V C HVM.out k)
      have HA := Aside0.mk (shA_lt name wide V C HVM.out k)
      obtain ⟨X, hX⟩ : ∃ X, (shI name wide V C k).1 = X := ⟨_, rfl⟩
      obtain ⟨D, hDD⟩ : ∃ D, (shI name wide V C k).2 = D := ⟨_, rfl⟩
      obtain ⟨A, hAA⟩ : ∃ A, shA name wide V C k = A := ⟨_, rfl⟩
      rw [hX] at HI
      rw [hAA] at HA
      simp only [hX, hDD, hAA]
      have HX := Aside0.mk hX
      have HDD := Aside0.mk hDD
      have HAA := Aside0.mk hAA
      clear hX hDD hAA
      have lX := Nat.lt_of_lt_of_le HI.out (MM_le wide)
      have lA := Nat.lt_of_lt_of_le HA.out (MM_le wide)
      have TT := Aside0.mk (turns_c name)
      have SX := Aside0.mk (signs_c X wide lX)
      have SA := Aside0.mk (signs_c A wide lA)
      by_cases h66 : name ≤ 66
      · rw [show (decide (63 ≤ name) && decide (name ≤ 66)) = true by simp [h0, h66]] at TT
        have H66 := Aside0.mk h66
        clear h66
        have EN := andNot2049 (W) hWl
        have lN := and_lt (W) 63486 hWl
        obtain ⟨K, hK⟩ : ∃ K, (W) &&& 63486 = K := ⟨_, rfl⟩
        rw [hK] at EN lN
        have HK := Aside0.mk hK
        clear hK
        have e00 : Aside0 (((K : Nat) : Int) = ((K ||| b2n false ||| 0 : Nat) : Int)) := ⟨by simp [b2n]⟩
        have e10 : Aside0 (Go.bits .or .u16 (K : Int) 1 = ((K ||| b2n true ||| 0 : Nat) : Int)) := ⟨(or1 K lN).trans (by simp [b2n])⟩
        have e01 : Aside0 (Go.bits .or .u16 (K : Int) 2048 = ((K ||| b2n false ||| 2048 : Nat) : Int)) := ⟨(orN K 2048 lN (by decide)).trans (by simp [b2n])⟩
        have e11 : Aside0 (Go.bits .or .u16 (Go.bits .or .u16 (K : Int) 1) 2048 = ((K ||| b2n true ||| 2048 : Nat) : Int)) := ⟨by rw [or1 K lN]; exact (orN (K ||| 1) 2048 (or_lt K 1 lN (by decide)) (by decide)).trans (by simp [b2n])⟩
        have ET := signs_test X A wide HI.out HA.out
        cases D
        · by_cases hs : X / HH wide = A / HH wide
          · rw [decide_eq_false (fun h => h hs)] at ET
            have HS := Aside0.mk hs
            clear hs
            go_wp2_with (first
              | (go_at_call 48; (with_reducible refine (TT.out _).mono ?_); rintro e w' ⟨rfl, rfl⟩)
              | (go_at_call 27; (first | (with_reducible refine (SX.out _).mono ?_) | (with_reducible refine (SA.out _).mono ?_)); rintro e w' ⟨rfl, rfl⟩))
            go_ret3
            refine ⟨r3' ?_ ?_ rfl, HD.out⟩
            · unfold shN; rw [if_neg HZ.out, HV.out, HC.out, HX.out]
            · unfold shN; rw [if_neg HZ.out, HV.out, HC.out]
              unfold shF
              simp only [HX.out, HDD.out, HAA.out]
              rw [if_pos (by have := H66.out; omega), HW.out]
              rw [HK.out, if_pos HS.out]
              exact e00.out
          · rw [decide_eq_true (show X / HH wide ≠ A / HH wide from hs)] at ET
            have HS := Aside0.mk hs
            clear hs
            go_wp2_with (first
              | (go_at_call 48; (with_reducible refine (TT.out _).mono ?_); rintro e w' ⟨rfl, rfl⟩)
              | (go_at_call 27; (first | (with_reducible refine (SX.out _).mono ?_) | (with_reducible refine (SA.out _).mono ?_)); rintro e w' ⟨rfl, rfl⟩))
            go_ret3
            refine ⟨r3' ?_ ?_ rfl, HD.out⟩
            · unfold shN; rw [if_neg HZ.out, HV.out, HC.out, HX.out]
            · unfold shN; rw [if_neg HZ.out, HV.out, HC.out]
              unfold shF
              simp only [HX.out, HDD.out, HAA.out]
              rw [if_pos (by have := H66.out; omega), HW.out]
              rw [HK.out, if_neg HS.out]
              exact e01.out
        · by_cases hs : X / HH wide = A / HH wide
          · rw [decide_eq_false (fun h => h hs)] at ET
            have HS := Aside0.mk hs
            clear hs
            go_wp2_with (first
              | (go_at_call 48; (with_reducible refine (TT.out _).mono ?_); rintro e w' ⟨rfl, rfl⟩)
              | (go_at_call 27; (first | (with_reducible refine (SX.out _).mono ?_) | (with_reducible refine (SA.out _).mono ?_)); rintro e w' ⟨rfl, rfl⟩))
            go_ret3
            refine ⟨r3' ?_ ?_ rfl, HD.out⟩
            · unfold shN; rw [if_neg HZ.out, HV.out, HC.out, HX.out]
            · unfold shN; rw [if_neg HZ.out, HV.out, HC.out]
              unfold shF
              simp only [HX.out, HDD.out, HAA.out]
              rw [if_pos (by have := H66.out; omega), HW.out]
              rw [HK.out, if_pos HS.out]
              exact e10.out
          · rw [decide_eq_true (show X / HH wide ≠ A / HH wide from hs)] at ET
            have HS := Aside0.mk hs
            clear hs
            go_wp2_with (first
              | (go_at_call 48; (with_reducible refine (TT.out _).mono ?_); rintro e w' ⟨rfl, rfl⟩)
              | (go_at_call 27; (first | (with_reducible refine (SX.out _).mono ?_) | (with_reducible refine (SA.out _).mono ?_)); rintro e w' ⟨rfl, rfl⟩))
            go_ret3
            refine ⟨r3' ?_ ?_ rfl, HD.out⟩
            · unfold shN; rw [if_neg HZ.out, HV.out, HC.out, HX.out]
            · unfold shN; rw [if_neg HZ.out, HV.out, HC.out]
              unfold shF
              simp only [HX.out, HDD.out, HAA.out]
              rw [if_pos (by have := H66.out; omega), HW.out]
              rw [HK.out, if_neg HS.out]
              exact e11.out
      · rw [show (decide (63 ≤ name) && decide (name ≤ 66)) = false by simp [h66]] at TT
        have H66 := Aside0.mk h66
        clear h66
        have EN := andNot2049 (signsN X wide) (Nat.lt_of_le_of_lt (signsN_le X wide) (by decide))
        have lN := and_lt (signsN X wide) 63486 (Nat.lt_of_le_of_lt (signsN_le X wide) (by decide))
        obtain ⟨K, hK⟩ : ∃ K, (signsN X wide) &&& 63486 = K := ⟨_, rfl⟩
        rw [hK] at EN lN
        have HK := Aside0.mk hK
        clear hK
        have e00 : Aside0 (((K : Nat) : Int) = ((K ||| b2n false ||| 0 : Nat) : Int)) := ⟨by simp [b2n]⟩
        have e10 : Aside0 (Go.bits .or .u16 (K : Int) 1 = ((K ||| b2n true ||| 0 : Nat) : Int)) := ⟨(or1 K lN).trans (by simp [b2n])⟩
        have e01 : Aside0 (Go.bits .or .u16 (K : Int) 2048 = ((K ||| b2n false ||| 2048 : Nat) : Int)) := ⟨(orN K 2048 lN (by decide)).trans (by simp [b2n])⟩
        have e11 : Aside0 (Go.bits .or .u16 (Go.bits .or .u16 (K : Int) 1) 2048 = ((K ||| b2n true ||| 2048 : Nat) : Int)) := ⟨by rw [or1 K lN]; exact (orN (K ||| 1) 2048 (or_lt K 1 lN (by decide)) (by decide)).trans (by simp [b2n])⟩
        have ET := signs_test X A wide HI.out HA.out
        cases D
        · by_cases hs : X / HH wide = A / HH wide
          · rw [decide_eq_false (fun h => h hs)] at ET
            have HS := Aside0.mk hs
            clear hs
            go_wp2_with (first
              | (go_at_call 48; (with_reducible refine (TT.out _).mono ?_); rintro e w' ⟨rfl, rfl⟩)
              | (go_at_call 27; (first | (with_reducible refine (SX.out _).mono ?_) | (with_reducible refine (SA.out _).mono ?_)); rintro e w' ⟨rfl, rfl⟩))
            go_ret3
            refine ⟨r3' ?_ ?_ rfl, HD.out⟩
            · unfold shN; rw [if_neg HZ.out, HV.out, HC.out, HX.out]
            · unfold shN; rw [if_neg HZ.out, HV.out, HC.out]
              unfold shF
              simp only [HX.out, HDD.out, HAA.out]
              rw [if_neg (by have := H66.out; omega)]
              rw [HK.out, if_pos HS.out]
              exact e00.out
          · rw [decide_eq_true (show X / HH wide ≠ A / HH wide from hs)] at ET
            have HS := Aside0.mk hs
            clear hs
            go_wp2_with (first
              | (go_at_call 48; (with_reducible refine (TT.out _).mono ?_); rintro e w' ⟨rfl, rfl⟩)
              | (go_at_call 27; (first | (with_reducible refine (SX.out _).mono ?_) | (with_reducible refine (SA.out _).mono ?_)); rintro e w' ⟨rfl, rfl⟩))
            go_ret3
            refine ⟨r3' ?_ ?_ rfl, HD.out⟩
            · unfold shN; rw [if_neg HZ.out, HV.out, HC.out, HX.out]
            · unfold shN; rw [if_neg HZ.out, HV.out, HC.out]
              unfold shF
              simp only [HX.out, HDD.out, HAA.out]
              rw [if_neg (by have := H66.out; omega)]
              rw [HK.out, if_neg HS.out]
              exact e01.out
        · by_cases hs : X / HH wide = A / HH wide
          · rw [decide_eq_false (fun h => h hs)] at ET
            have HS := Aside0.mk hs
            clear hs
            go_wp2_with (first
              | (go_at_call 48; (with_reducible refine (TT.out _).mono ?_); rintro e w' ⟨rfl, rfl⟩)
              | (go_at_call 27; (first | (with_reducible refine (SX.out _).mono ?_) | (with_reducible refine (SA.out _).mono ?_)); rintro e w' ⟨rfl, rfl⟩))
            go_ret3
            refine ⟨r3' ?_ ?_ rfl, HD.out⟩
            · unfold shN; rw [if_neg HZ.out, HV.out, HC.out, HX.out]
            · unfold shN; rw [if_neg HZ.out, HV.out, HC.out]
              unfold shF
              simp only [HX.out, HDD.out, HAA.out]
              rw [if_neg (by have := H66.out; omega)]
              rw [HK.out, if_pos HS.out]
              exact e10.out
          · rw [decide_eq_true (show X / HH wide ≠ A / HH wide from hs)] at ET
            have HS := Aside0.mk hs
            clear hs
            go_wp2_with (first
              | (go_at_call 48; (with_reducible refine (TT.out _).mono ?_); rintro e w' ⟨rfl, rfl⟩)
              | (go_at_call 27; (first | (with_reducible refine (SX.out _).mono ?_) | (with_reducible refine (SA.out _).mono ?_)); rintro e w' ⟨rfl, rfl⟩))
            go_ret3
            refine ⟨r3' ?_ ?_ rfl, HD.out⟩
            · unfold shN; rw [if_neg HZ.out, HV.out, HC.out, HX.out]
            · unfold shN; rw [if_neg HZ.out, HV.out, HC.out]
              unfold shF
              simp only [HX.out, HDD.out, HAA.out]
              rw [if_neg (by have := H66.out; omega)]
              rw [HK.out, if_neg HS.out]
              exact e11.out
end Go.Proofs.Ytefdfcdgghoknaa.My
