/- Contract of the walk of hansomref35.Bits: it answers what the format's division answers. -/
import Derived.Test.YtdhingmjnhhjnaaFloatB
namespace Go.Proofs.Ytdhingmjnhhjnaa.My
open Go.RowKit Go.Proofs.YtdhingmjnhhjnaaW.PrintWords Go.Proofs.YtdhingmjnhhjnaaW.PrintLast Go.Proofs.YtdhingmjnhhjnaaW.PrintMore
set_option linter.unusedVariables false
set_option linter.unusedSimpArgs false
theorem fin_of (a b p q X Y : Nat) (E : Int) (R pE : Nat) (a1 : 1 ≤ a) (a2 : a ≤ 9007199254740992) (b1 : 1 ≤ b) (b2 : b ≤ 9007199254740992) (hR : FloatKind.f64.format.div (floatOfInt .f64 a) (floatOfInt .f64 b) = some R)
    (hX : X = a * 2 ^ p) (hY : Y = b * 2 ^ q) (h1 : X < Y) (h2 : Y ≤ 2 * X) (hp : p ≤ 53) (hE : E = q - p) (hE2 : E + 1022 = pE) :
    ∀ m r : Nat, X * 2 ^ 53 = Y * m + r → r < Y → R + 4503599627370496 = pE * 4503599627370496 + (m + (if Y < 2 * r ∨ (Y = 2 * r ∧ m % 2 = 1) then 1 else 0)) := by
  intro m r h hr
  have e := div_ref false a b p q a1 a2 b1 b2 (by rw [← hX, ← hY]; exact h1) (by rw [← hX, ← hY]; exact h2) (by omega)
  rw [if_neg (by decide), if_neg (by decide), hR, ← hX, ← hY, rne_of X Y m r h hr] at e
  have e2 := Option.some.inj e
  rw [e2]
  have hq : pE = q + 1021 - p + 1 := by omega
  rw [hq, Nat.add_mul, Nat.one_mul]
  generalize (q + 1021 - p) * 4503599627370496 = A
  generalize (m + (if Y < 2 * r ∨ (Y = 2 * r ∧ m % 2 = 1) then 1 else 0)) = k
  exact Nat.add_right_comm A k 4503599627370496
set_option maxHeartbeats 4000000 in
theorem bits35_c (a b R : Nat) (a1 : 1 ≤ a) (a2 : a ≤ 9007199254740992) (b1 : 1 ≤ b) (b2 : b ≤ 9007199254740992) (hR : FloatKind.f64.format.div (floatOfInt .f64 a) (floatOfInt .f64 b) = some R) (w : World) :
    Calls Try.prog 15 #[.int .u64 a, .int .u64 b] w fun e w' => e = .returned (.int .u64 R) ∧ w = w' := by
  have HDIV := Aside0.mk hR
  clear hR
  go_enter Try.func15, Try.ntmps15
  go_wp2_with fail
  go_loop [5, 7] (fun ve vy => ∃ (q Y : Nat), q ≤ 54 ∧ 1 ≤ Y ∧ Y ≤ 18014398509481984 ∧ Aside0 (Y = b * 2 ^ q) ∧ Aside0 (2 ^ q ≤ Y) ∧ Aside0 (q = 0 ∨ Y ≤ 2 * a) ∧ ve = .int .i64 q ∧ vy = .int .u64 Y) (fun ve _ => 60 - (intOf ve).toNat)
  case atStart => exact ⟨0, b, by omega, by omega, by omega, ⟨by rw [Nat.pow_zero, Nat.mul_one]⟩, ⟨b1⟩, ⟨Or.inl rfl⟩, rfl, rfl⟩
  case round =>
    obtain ⟨q, Y, hq, y1, y2, HY, HQ, HZ, rfl, rfl⟩ := hrel
    by_cases hlt : Y ≤ a
    · have q53 : q ≤ 53 := pow_le_53 q Y HQ.out (by omega)
      have HY2 := Aside0.mk (show 2 * Y = b * 2 ^ (q + 1) by rw [HY.out, Nat.pow_succ]; ac_rfl)
      have HQ2 := Aside0.mk (show 2 ^ (q + 1) ≤ 2 * Y by have := HQ.out; rw [Nat.pow_succ]; omega)
      go_wp2_with fail
      go_round
      case rel => exact ⟨q + 1, 2 * Y, by omega, by omega, by omega, HY2, HQ2, ⟨Or.inr (by omega)⟩, by go_num, by go_num⟩
      case measure => simp [intOf]; omega
    · go_wp2_with fail
      go_loop [5, 6] (fun ve vx => ∃ (p X : Nat) (E : Int), p ≤ 53 ∧ 1 ≤ X ∧ X < Y ∧ E = (q : Int) - p ∧ (q = 0 ∨ p = 0) ∧ Aside0 (X = a * 2 ^ p) ∧ Aside0 (2 ^ p ≤ X) ∧ ve = .int .i64 E ∧ vx = .int .u64 X) (fun ve _ => 60 + (intOf ve - q + 60).toNat)
      case atStart => exact ⟨0, a, q, by omega, by omega, by omega, by omega, Or.inr rfl, ⟨by rw [Nat.pow_zero, Nat.mul_one]⟩, ⟨a1⟩, rfl, rfl⟩
      case round =>
        obtain ⟨p, X, E, hp, x1, hX, eE, hqp, HX, HP, rfl, rfl⟩ := hrel
        have hY54 : Y ≤ 18014398509481984 := y2
        by_cases hgo : q = 0 ∧ 2 * X < Y
        · have hYb : Y ≤ 9007199254740992 := by have := HY.out; rw [hgo.1, Nat.pow_zero, Nat.mul_one] at this; omega
          have hq0 := hgo.1
          have hg := hgo.2
          have p52 : p + 1 ≤ 53 := pow_le_53 (p + 1) (2 * X) (by have := HP.out; rw [Nat.pow_succ]; omega) (by omega)
          have HX2 := Aside0.mk (show 2 * X = a * 2 ^ (p + 1) by rw [HX.out, Nat.pow_succ]; ac_rfl)
          have HP2 := Aside0.mk (show 2 ^ (p + 1) ≤ 2 * X by have := HP.out; rw [Nat.pow_succ]; omega)
          rcases (show E = 0 ∨ E < 0 by omega) with hE0 | hE0
          all_goals
            clear hgo hqp
            go_wp2_with fail
            go_round
            case rel => exact ⟨p + 1, 2 * X, E - 1, by omega, by omega, by omega, by omega, Or.inl hq0, HX2, HP2, by go_num, by go_num⟩
            case measure => simp [intOf]; omega
        · have h2 : Y ≤ 2 * X := by
            rcases HZ.out with h | h
            · omega
            · rcases hqp with h' | h'
              · omega
              · have := HX.out; rw [h', Nat.pow_zero, Nat.mul_one] at this; omega
          have FIN0 := fin_of a b p q X Y E R (E + 1022).toNat a1 a2 b1 b2 HDIV.out HX.out HY.out hX h2 hp eE (by omega)
          have hEb : -53 ≤ E ∧ E ≤ 54 := by omega
          rcases (show E = 0 ∨ E < 0 ∨ 0 < E by omega) with hE0 | hE0 | hE0
          all_goals
            have FIN := Aside0.mk FIN0
            clear FIN0 HZ hqp
            obtain ⟨pE, hpE⟩ : ∃ n : Nat, (E + 1022).toNat = n := ⟨_, rfl⟩
            rw [hpE] at FIN
            have hE : E + 1022 = (pE : Int) := by omega
            clear hpE
            go_wp2_with fail
            go_loop [8, 9, 10] (fun vm vr vi => ∃ (i m r : Nat), i ≤ 53 ∧ r < Y ∧ m ≤ 9007199254740991 ∧ Aside0 (X * 2 ^ i = Y * m + r) ∧ vm = .int .u64 m ∧ vr = .int .u64 r ∧ vi = .int .i64 i) (fun _ _ vi => 53 - (intOf vi).toNat)
            case atStart => exact ⟨0, 0, X, by omega, by omega, by omega, ⟨by rw [Nat.pow_zero]; omega⟩, rfl, rfl, rfl⟩
            case round =>
              obtain ⟨i, m, r, hi, hr, hm, HI, rfl, rfl, rfl⟩ := hrel
              by_cases hlt : i < 53
              · by_cases hy : Y ≤ 2 * r
                · have HI2 := Aside0.mk (step_div1 X Y i m r HI.out hy)
                  have hm2 : 2 * m + 1 < 9007199254740992 := m_lt X Y (i + 1) (2 * m + 1) (2 * r - Y) HI2.out hX (by omega)
                  go_wp2_with fail
                  go_round
                  case rel => exact ⟨i + 1, 2 * m + 1, 2 * r - Y, by omega, by omega, by omega, HI2, by go_num, by go_num, by go_num⟩
                  case measure => simp [intOf]; omega
                · have HI2 := Aside0.mk (step_div X Y i m r HI.out)
                  have hm2 : 2 * m < 9007199254740992 := m_lt X Y (i + 1) (2 * m) (2 * r) HI2.out hX (by omega)
                  go_wp2_with fail
                  go_round
                  case rel => exact ⟨i + 1, 2 * m, 2 * r, by omega, by omega, by omega, HI2, by go_num, by go_num, by go_num⟩
                  case measure => simp [intOf]; omega
              · obtain rfl : i = 53 := by omega
                have hR := FIN.out m r HI.out hr
                clear HI
                rcases (show Y < 2 * r ∨ Y = 2 * r ∨ 2 * r < Y by omega) with ht | ht | ht
                · have T := Aside0.mk (twice_hi r Y hr hY54 ht)
                  rw [if_pos (Or.inl ht)] at hR
                  have HR := Aside0.mk hR
                  clear hR
                  by_cases hmax : m = 9007199254740991
                  all_goals
                    have TT := T.out
                    clear ht
                    go_wp2_with (go_at_call 48; (with_reducible refine (T.out _).mono ?_); rintro e w' ⟨rfl, rfl⟩)
                    go_ret
                    exact ⟨ri (by have := HR.out; omega), rfl⟩
                · have T := Aside0.mk (twice_eq r Y hr hY54 ht)
                  by_cases hodd : m % 2 = 1
                  · rw [if_pos (Or.inr ⟨ht, hodd⟩)] at hR
                    have HR := Aside0.mk hR
                    clear hR
                    by_cases hmax : m = 9007199254740991
                    all_goals
                      have TT := T.out
                      clear ht
                      go_wp2_with (go_at_call 48; (with_reducible refine (T.out _).mono ?_); rintro e w' ⟨rfl, rfl⟩)
                      go_ret
                      exact ⟨ri (by have := HR.out; omega), rfl⟩
                  · rw [if_neg (by omega)] at hR
                    have HR := Aside0.mk hR
                    clear hR
                    clear ht
                    go_wp2_with (go_at_call 48; (with_reducible refine (T.out _).mono ?_); rintro e w' ⟨rfl, rfl⟩)
                    go_ret
                    exact ⟨ri (by have := HR.out; omega), rfl⟩
                · have T := Aside0.mk (twice_lo r Y hr hY54 ht)
                  rw [if_neg (by omega)] at hR
                  have HR := Aside0.mk hR
                  clear hR
                  clear ht
                  go_wp2_with (go_at_call 48; (with_reducible refine (T.out _).mono ?_); rintro e w' ⟨rfl, rfl⟩)
                  go_ret
                  exact ⟨ri (by have := HR.out; omega), rfl⟩
end Go.Proofs.Ytdhingmjnhhjnaa.My
