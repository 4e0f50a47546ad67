/- Contracts of functions that the law reaches: what each returns, and that memory stays as it was. By a program of this session. -/
import Derived.Test.YtbededoebmbkdaaQLexLinesx0
import Derived.Test.YtbededoebmbkdaaQLexLinesx2
import Derived.Test.YtbededoebmbkdaaQLexLinesx5
namespace Go.Proofs.Ytbededoebmbkdaa.QLexLines
open Go.RowKit Go.Proofs.YtbededoebmbkdaaW.PrintWords Go.Proofs.YtbededoebmbkdaaW.PrintLast Go.Proofs.YtbededoebmbkdaaW.PrintMore
attribute [local go_sem] max2_int min2_int max_two min_two max_three min_three max_four min_four   -- for this text's walks alone
set_option linter.unusedVariables false
set_option linter.unusedSimpArgs false

/-! ### hansomlaw28_awake: function 10 -/
def hansomlaw28_awake.f (k : Nat)  : Option (Bool) := (lex_Line.f k (⟨#[109, 111, 118, 32, 97, 120, 44, 49, 50, 104, 32, 59, 32, 120]⟩ : ByteArray)).bind fun bt163 => (if bt163.2 = 0 then (if (bt163.1.length : Int) = 4 then (if 0 < (bt163.1.length : Int) then (if ((rd_T28 bt163.1 0).f1).toList = ([77, 79, 86] : List UInt8) then (if 3 < (bt163.1.length : Int) then (if ((rd_T28 bt163.1 3).f2) = 18 then ((lex_Upper.f (⟨#[97, 90, 49]⟩ : ByteArray)).bind fun t169 => (some (t169.toList == ([65, 90, 49] : List UInt8)))) else (some false)) else (none)) else (some false)) else (none)) else (some false)) else (some false))
theorem hansomlaw28_awake.mono : ∀ k, LeO (hansomlaw28_awake.f k ) (hansomlaw28_awake.f (k + 1) ) := by
  intro  k
  unfold hansomlaw28_awake.f
  repeat' first
      | (with_reducible exact lex_Line.mono _ _)
      | (with_reducible exact LeO.refl _)
      | (with_reducible exact LeO.none _)
      | (with_reducible refine LeO.ite ?_ ?_)
      | (with_reducible refine LeO.bind ?_ (fun _ => ?_))
      | exact lex_Line.mono _ _
      | exact LeO.none _
      | refine LeO.ite ?_ ?_
      | refine LeO.bind ?_ (fun _ => ?_)
set_option maxHeartbeats 8000000 in
set_option maxRecDepth 100000 in
theorem hansomlaw28_awake.calls (k : Nat)  (r : Bool) (w : World) (h : hansomlaw28_awake.f k  = some r) :
    Calls Try.prog 10 #[] w fun e w' => e = .returned (.bool r) ∧ Below w.heap.size w w' := by
  have HB := Aside0.mk (Below.refl w.heap.size w)
  have H : ((lex_Line.f k (⟨#[109, 111, 118, 32, 97, 120, 44, 49, 50, 104, 32, 59, 32, 120]⟩ : ByteArray)).bind fun bt163 => (if bt163.2 = 0 then (if (bt163.1.length : Int) = 4 then (if 0 < (bt163.1.length : Int) then (if ((rd_T28 bt163.1 0).f1).toList = ([77, 79, 86] : List UInt8) then (if 3 < (bt163.1.length : Int) then (if ((rd_T28 bt163.1 3).f2) = 18 then ((lex_Upper.f (⟨#[97, 90, 49]⟩ : ByteArray)).bind fun t169 => (some (t169.toList == ([65, 90, 49] : List UInt8)))) else (some false)) else (none)) else (some false)) else (none)) else (some false)) else (some false))) = some r := h
  clear h
  replace H := Option.bind_eq_some_iff.mp H
  obtain ⟨⟨t163, t164⟩, A10, H⟩ := H
  replace H : (if t164 = 0 then (if (t163.length : Int) = 4 then (if 0 < (t163.length : Int) then (if ((rd_T28 t163 0).f1).toList = ([77, 79, 86] : List UInt8) then (if 3 < (t163.length : Int) then (if ((rd_T28 t163 3).f2) = 18 then ((lex_Upper.f (⟨#[97, 90, 49]⟩ : ByteArray)).bind fun t169 => (some (t169.toList == ([65, 90, 49] : List UInt8)))) else (some false)) else (none)) else (some false)) else (none)) else (some false)) else (some false)) = some r := H
  have A1 := Aside0.mk A10
  clear A10
  by_cases c2 : t164 = 0
  · rw [if_pos c2] at H
    have c2b0 : (t164 == 0) = true := beq_iff_eq.mpr c2
    have c2b1 : (t164 != 0) = false := bne_eq_false_iff_eq.mpr c2
    clear c2
    by_cases c3 : (t163.length : Int) = 4
    · rw [if_pos c3] at H
      have c3b0 : ((t163.length : Int) == 4) = true := beq_iff_eq.mpr c3
      have c3b1 : ((t163.length : Int) != 4) = false := bne_eq_false_iff_eq.mpr c3
      clear c3
      by_cases c4 : 0 < (t163.length : Int)
      · rw [if_pos c4] at H
        have c4b0 : decide (0 < (t163.length : Int)) = true := decide_eq_true c4
        have c4b1 : decide (0 < t163.length) = true := decide_eq_true (by omega)
        clear c4
        by_cases c5 : ((rd_T28 t163 0).f1).toList = ([77, 79, 86] : List UInt8)
        · rw [if_pos c5] at H
          have c5b0 : (((rd_T28 t163 0).f1).toList == ([77, 79, 86] : List UInt8)) = true := beq_iff_eq.mpr c5
          have c5b1 : (((rd_T28 t163 0).f1).toList != ([77, 79, 86] : List UInt8)) = false := bne_eq_false_iff_eq.mpr c5
          clear c5
          by_cases c6 : 3 < (t163.length : Int)
          · rw [if_pos c6] at H
            have c6b0 : decide (3 < (t163.length : Int)) = true := decide_eq_true c6
            have c6b1 : decide (3 < t163.length) = true := decide_eq_true (by omega)
            clear c6
            by_cases c7 : ((rd_T28 t163 3).f2) = 18
            · rw [if_pos c7] at H
              have c7b0 : (((rd_T28 t163 3).f2) == 18) = true := beq_iff_eq.mpr c7
              have c7b1 : (((rd_T28 t163 3).f2) != 18) = false := bne_eq_false_iff_eq.mpr c7
              clear c7
              replace H := Option.bind_eq_some_iff.mp H
              obtain ⟨t169, A80, H⟩ := H
              replace H : (some (t169.toList == ([65, 90, 49] : List UInt8))) = some r := H
              have A8 := Aside0.mk A80
              clear A80
              obtain rfl := Option.some.inj H
              go_enter Try.func10, Try.ntmps10
              go_wp2_with (first | ((with_reducible refine gate_callee (f := 9) rfl ?_); refine goesL_ (some 4) rfl rfl Try.func9 (by kernel_rfl) rfl #[.string (⟨#[109, 111, 118, 32, 97, 120, 44, 49, 50, 104, 32, 59, 32, 120]⟩ : ByteArray)] rfl (by (try simp only [List.map_toArray, List.map_cons, List.map_nil]); first | done | rfl | (simp only [List.length_drop, List.length_take]; rfl)) ?_; (with_reducible refine (lex_Line.calls k (⟨#[109, 111, 118, 32, 97, 120, 44, 49, 50, 104, 32, 59, 32, 120]⟩ : ByteArray) t163 t164 _ A1.out).mono ?_); rintro e w9 ⟨v165, rfl, ho0, hb⟩; refine ⟨_, rfl, ?_⟩; have n0_ := Aside0.mk (Kd.R_lower ho0 (below_size (by repeat (first | (with_reducible first | exact HB.out | apply below_alloc | apply pw_below_drewN | apply below_drew1) | exact HB.out)))); have n1_ := Aside0.mk (below_step (by repeat (first | (with_reducible first | exact HB.out | apply below_alloc | apply pw_below_drewN | apply below_drew1) | exact HB.out)) hb); clear HB; have HO166 := n0_; have HB := n1_; clear n0_ n1_; (try clear hb); (try clear hb2); (try clear hk); (try clear hi); (try clear ho0); obtain ⟨Ao10, co10, eo10⟩ := Kd.R_slice HO166.out; subst eo10; have p167 : 0 ≤ (0 : Int) := (by omega); have q167 : 0 < (t163.length : Int) := of_decide_eq_true (by first | (with_reducible assumption) | assumption); obtain ⟨ad167, e167, hx167_0, hx167_1, hx167_2, hx167_3⟩ := at_T28 (Kd.R_reads' HO166.out).2.2 0 p167 q167; cases e167; have qi167 : (0 < t163.length) = True := eq_true (by omega); (try rw [show ((0 : Int)).toNat = 0 from rfl] at hx167_0); (try rw [show 0 * 4 = 0 from rfl] at hx167_0); (try rw [Addr.add_zero'] at hx167_0); (try rw [show ((0 : Int)).toNat = 0 from rfl] at hx167_1); (try rw [show 0 * 4 = 0 from rfl] at hx167_1); (try rw [Addr.add_zero'] at hx167_1); (try rw [show ((0 : Int)).toNat = 0 from rfl] at hx167_2); (try rw [show 0 * 4 = 0 from rfl] at hx167_2); (try rw [Addr.add_zero'] at hx167_2); (try rw [show ((0 : Int)).toNat = 0 from rfl] at hx167_3); (try rw [show 0 * 4 = 0 from rfl] at hx167_3); (try rw [Addr.add_zero'] at hx167_3); replace p167 := eq_true p167; replace q167 := eq_true q167; have p168 : 0 ≤ (3 : Int) := (by omega); have q168 : 3 < (t163.length : Int) := of_decide_eq_true (by first | (with_reducible assumption) | assumption); obtain ⟨ad168, e168, hx168_0, hx168_1, hx168_2, hx168_3⟩ := at_T28 (Kd.R_reads' HO166.out).2.2 3 p168 q168; obtain rfl : ad167 = ad168 := (by injection e168); (try simp only [show (3 : Int).toNat = 3 from rfl, Nat.reduceMul, Nat.reduceEqDiff, Go.Addr.add, ↓reduceIte] at hx168_0); (try simp only [show (3 : Int).toNat = 3 from rfl, Nat.reduceMul, Nat.reduceEqDiff, Go.Addr.add, ↓reduceIte] at hx168_1); (try simp only [show (3 : Int).toNat = 3 from rfl, Nat.reduceMul, Nat.reduceEqDiff, Go.Addr.add, ↓reduceIte] at hx168_2); (try simp only [show (3 : Int).toNat = 3 from rfl, Nat.reduceMul, Nat.reduceEqDiff, Go.Addr.add, ↓reduceIte] at hx168_3); have qi168 : (3 < t163.length) = True := eq_true (by omega); (try rw [show ((3 : Int)).toNat = 3 from rfl] at hx168_0); (try rw [show 3 * 4 = 12 from rfl] at hx168_0); (try rw [show ((3 : Int)).toNat = 3 from rfl] at hx168_1); (try rw [show 3 * 4 = 12 from rfl] at hx168_1); (try rw [show ((3 : Int)).toNat = 3 from rfl] at hx168_2); (try rw [show 3 * 4 = 12 from rfl] at hx168_2); (try rw [show ((3 : Int)).toNat = 3 from rfl] at hx168_3); (try rw [show 3 * 4 = 12 from rfl] at hx168_3); replace p168 := eq_true p168; replace q168 := eq_true q168) | (go_at_call 18; (with_reducible refine (lex_Upper.calls (⟨#[97, 90, 49]⟩ : ByteArray) t169 _ A8.out).mono ?_); rintro e w11 ⟨rfl, hb⟩; have n0_ := Aside0.mk (Kd.R_below (by (with_reducible repeat (first | apply Kd.R_alloc | apply Kd.R_drewN | apply Kd.R_drew)); exact HO166.out) hb); have n1_ := Aside0.mk (below_step (by repeat (first | (with_reducible first | exact HB.out | apply below_alloc | apply pw_below_drewN | apply below_drew1) | exact HB.out)) hb); clear HO166; clear HB; have HO166 := n0_; have HB := n1_; clear n0_ n1_; (try clear hb); (try clear hb2); (try clear hk); (try clear hi)))
              go_ret
              exact ⟨by first | rfl | (simp [errW_none, errW_some] <;> rfl) | (simp [*, errW_none, errW_some] <;> rfl), by repeat (first | (with_reducible first | exact HB.out | apply below_alloc | apply pw_below_drewN | apply below_drew1) | exact HB.out)⟩
            · rw [if_neg c7] at H
              have c7b0 : (((rd_T28 t163 3).f2) == 18) = false := beq_eq_false_iff_ne.mpr c7
              have c7b1 : (((rd_T28 t163 3).f2) != 18) = true := bne_iff_ne.mpr c7
              obtain rfl := Option.some.inj H
              go_enter Try.func10, Try.ntmps10
              go_wp2_with (first | ((with_reducible refine gate_callee (f := 9) rfl ?_); refine goesL_ (some 4) rfl rfl Try.func9 (by kernel_rfl) rfl #[.string (⟨#[109, 111, 118, 32, 97, 120, 44, 49, 50, 104, 32, 59, 32, 120]⟩ : ByteArray)] rfl (by (try simp only [List.map_toArray, List.map_cons, List.map_nil]); first | done | rfl | (simp only [List.length_drop, List.length_take]; rfl)) ?_; (with_reducible refine (lex_Line.calls k (⟨#[109, 111, 118, 32, 97, 120, 44, 49, 50, 104, 32, 59, 32, 120]⟩ : ByteArray) t163 t164 _ A1.out).mono ?_); rintro e w12 ⟨v165, rfl, ho0, hb⟩; refine ⟨_, rfl, ?_⟩; have n0_ := Aside0.mk (Kd.R_lower ho0 (below_size (by repeat (first | (with_reducible first | exact HB.out | apply below_alloc | apply pw_below_drewN | apply below_drew1) | exact HB.out)))); have n1_ := Aside0.mk (below_step (by repeat (first | (with_reducible first | exact HB.out | apply below_alloc | apply pw_below_drewN | apply below_drew1) | exact HB.out)) hb); clear HB; have HO166 := n0_; have HB := n1_; clear n0_ n1_; (try clear hb); (try clear hb2); (try clear hk); (try clear hi); (try clear ho0); obtain ⟨Ao13, co13, eo13⟩ := Kd.R_slice HO166.out; subst eo13; have p167 : 0 ≤ (0 : Int) := (by omega); have q167 : 0 < (t163.length : Int) := of_decide_eq_true (by first | (with_reducible assumption) | assumption); obtain ⟨ad167, e167, hx167_0, hx167_1, hx167_2, hx167_3⟩ := at_T28 (Kd.R_reads' HO166.out).2.2 0 p167 q167; cases e167; have qi167 : (0 < t163.length) = True := eq_true (by omega); (try rw [show ((0 : Int)).toNat = 0 from rfl] at hx167_0); (try rw [show 0 * 4 = 0 from rfl] at hx167_0); (try rw [Addr.add_zero'] at hx167_0); (try rw [show ((0 : Int)).toNat = 0 from rfl] at hx167_1); (try rw [show 0 * 4 = 0 from rfl] at hx167_1); (try rw [Addr.add_zero'] at hx167_1); (try rw [show ((0 : Int)).toNat = 0 from rfl] at hx167_2); (try rw [show 0 * 4 = 0 from rfl] at hx167_2); (try rw [Addr.add_zero'] at hx167_2); (try rw [show ((0 : Int)).toNat = 0 from rfl] at hx167_3); (try rw [show 0 * 4 = 0 from rfl] at hx167_3); (try rw [Addr.add_zero'] at hx167_3); replace p167 := eq_true p167; replace q167 := eq_true q167; have p168 : 0 ≤ (3 : Int) := (by omega); have q168 : 3 < (t163.length : Int) := of_decide_eq_true (by first | (with_reducible assumption) | assumption); obtain ⟨ad168, e168, hx168_0, hx168_1, hx168_2, hx168_3⟩ := at_T28 (Kd.R_reads' HO166.out).2.2 3 p168 q168; obtain rfl : ad167 = ad168 := (by injection e168); (try simp only [show (3 : Int).toNat = 3 from rfl, Nat.reduceMul, Nat.reduceEqDiff, Go.Addr.add, ↓reduceIte] at hx168_0); (try simp only [show (3 : Int).toNat = 3 from rfl, Nat.reduceMul, Nat.reduceEqDiff, Go.Addr.add, ↓reduceIte] at hx168_1); (try simp only [show (3 : Int).toNat = 3 from rfl, Nat.reduceMul, Nat.reduceEqDiff, Go.Addr.add, ↓reduceIte] at hx168_2); (try simp only [show (3 : Int).toNat = 3 from rfl, Nat.reduceMul, Nat.reduceEqDiff, Go.Addr.add, ↓reduceIte] at hx168_3); have qi168 : (3 < t163.length) = True := eq_true (by omega); (try rw [show ((3 : Int)).toNat = 3 from rfl] at hx168_0); (try rw [show 3 * 4 = 12 from rfl] at hx168_0); (try rw [show ((3 : Int)).toNat = 3 from rfl] at hx168_1); (try rw [show 3 * 4 = 12 from rfl] at hx168_1); (try rw [show ((3 : Int)).toNat = 3 from rfl] at hx168_2); (try rw [show 3 * 4 = 12 from rfl] at hx168_2); (try rw [show ((3 : Int)).toNat = 3 from rfl] at hx168_3); (try rw [show 3 * 4 = 12 from rfl] at hx168_3); replace p168 := eq_true p168; replace q168 := eq_true q168))
              go_ret
              exact ⟨by first | rfl | (simp [errW_none, errW_some] <;> rfl) | (simp [*, errW_none, errW_some] <;> rfl), by repeat (first | (with_reducible first | exact HB.out | apply below_alloc | apply pw_below_drewN | apply below_drew1) | exact HB.out)⟩
          · rw [if_neg c6] at H
            exact absurd H (by simp)
        · rw [if_neg c5] at H
          have c5b0 : (((rd_T28 t163 0).f1).toList == ([77, 79, 86] : List UInt8)) = false := beq_eq_false_iff_ne.mpr c5
          have c5b1 : (((rd_T28 t163 0).f1).toList != ([77, 79, 86] : List UInt8)) = true := bne_iff_ne.mpr c5
          obtain rfl := Option.some.inj H
          go_enter Try.func10, Try.ntmps10
          go_wp2_with (first | ((with_reducible refine gate_callee (f := 9) rfl ?_); refine goesL_ (some 4) rfl rfl Try.func9 (by kernel_rfl) rfl #[.string (⟨#[109, 111, 118, 32, 97, 120, 44, 49, 50, 104, 32, 59, 32, 120]⟩ : ByteArray)] rfl (by (try simp only [List.map_toArray, List.map_cons, List.map_nil]); first | done | rfl | (simp only [List.length_drop, List.length_take]; rfl)) ?_; (with_reducible refine (lex_Line.calls k (⟨#[109, 111, 118, 32, 97, 120, 44, 49, 50, 104, 32, 59, 32, 120]⟩ : ByteArray) t163 t164 _ A1.out).mono ?_); rintro e w14 ⟨v165, rfl, ho0, hb⟩; refine ⟨_, rfl, ?_⟩; have n0_ := Aside0.mk (Kd.R_lower ho0 (below_size (by repeat (first | (with_reducible first | exact HB.out | apply below_alloc | apply pw_below_drewN | apply below_drew1) | exact HB.out)))); have n1_ := Aside0.mk (below_step (by repeat (first | (with_reducible first | exact HB.out | apply below_alloc | apply pw_below_drewN | apply below_drew1) | exact HB.out)) hb); clear HB; have HO166 := n0_; have HB := n1_; clear n0_ n1_; (try clear hb); (try clear hb2); (try clear hk); (try clear hi); (try clear ho0); obtain ⟨Ao15, co15, eo15⟩ := Kd.R_slice HO166.out; subst eo15; have p167 : 0 ≤ (0 : Int) := (by omega); have q167 : 0 < (t163.length : Int) := of_decide_eq_true (by first | (with_reducible assumption) | assumption); obtain ⟨ad167, e167, hx167_0, hx167_1, hx167_2, hx167_3⟩ := at_T28 (Kd.R_reads' HO166.out).2.2 0 p167 q167; cases e167; have qi167 : (0 < t163.length) = True := eq_true (by omega); (try rw [show ((0 : Int)).toNat = 0 from rfl] at hx167_0); (try rw [show 0 * 4 = 0 from rfl] at hx167_0); (try rw [Addr.add_zero'] at hx167_0); (try rw [show ((0 : Int)).toNat = 0 from rfl] at hx167_1); (try rw [show 0 * 4 = 0 from rfl] at hx167_1); (try rw [Addr.add_zero'] at hx167_1); (try rw [show ((0 : Int)).toNat = 0 from rfl] at hx167_2); (try rw [show 0 * 4 = 0 from rfl] at hx167_2); (try rw [Addr.add_zero'] at hx167_2); (try rw [show ((0 : Int)).toNat = 0 from rfl] at hx167_3); (try rw [show 0 * 4 = 0 from rfl] at hx167_3); (try rw [Addr.add_zero'] at hx167_3); replace p167 := eq_true p167; replace q167 := eq_true q167))
          go_ret
          exact ⟨by first | rfl | (simp [errW_none, errW_some] <;> rfl) | (simp [*, errW_none, errW_some] <;> rfl), by repeat (first | (with_reducible first | exact HB.out | apply below_alloc | apply pw_below_drewN | apply below_drew1) | exact HB.out)⟩
      · rw [if_neg c4] at H
        exact absurd H (by simp)
    · rw [if_neg c3] at H
      have c3b0 : ((t163.length : Int) == 4) = false := beq_eq_false_iff_ne.mpr c3
      have c3b1 : ((t163.length : Int) != 4) = true := bne_iff_ne.mpr c3
      obtain rfl := Option.some.inj H
      go_enter Try.func10, Try.ntmps10
      go_wp2_with (first | ((with_reducible refine gate_callee (f := 9) rfl ?_); refine goesL_ (some 4) rfl rfl Try.func9 (by kernel_rfl) rfl #[.string (⟨#[109, 111, 118, 32, 97, 120, 44, 49, 50, 104, 32, 59, 32, 120]⟩ : ByteArray)] rfl (by (try simp only [List.map_toArray, List.map_cons, List.map_nil]); first | done | rfl | (simp only [List.length_drop, List.length_take]; rfl)) ?_; (with_reducible refine (lex_Line.calls k (⟨#[109, 111, 118, 32, 97, 120, 44, 49, 50, 104, 32, 59, 32, 120]⟩ : ByteArray) t163 t164 _ A1.out).mono ?_); rintro e w16 ⟨v165, rfl, ho0, hb⟩; refine ⟨_, rfl, ?_⟩; have n0_ := Aside0.mk (Kd.R_lower ho0 (below_size (by repeat (first | (with_reducible first | exact HB.out | apply below_alloc | apply pw_below_drewN | apply below_drew1) | exact HB.out)))); have n1_ := Aside0.mk (below_step (by repeat (first | (with_reducible first | exact HB.out | apply below_alloc | apply pw_below_drewN | apply below_drew1) | exact HB.out)) hb); clear HB; have HO166 := n0_; have HB := n1_; clear n0_ n1_; (try clear hb); (try clear hb2); (try clear hk); (try clear hi); (try clear ho0); obtain ⟨Ao17, co17, eo17⟩ := Kd.R_slice HO166.out; subst eo17))
      go_ret
      exact ⟨by first | rfl | (simp [errW_none, errW_some] <;> rfl) | (simp [*, errW_none, errW_some] <;> rfl), by repeat (first | (with_reducible first | exact HB.out | apply below_alloc | apply pw_below_drewN | apply below_drew1) | exact HB.out)⟩
  · rw [if_neg c2] at H
    have c2b0 : (t164 == 0) = false := beq_eq_false_iff_ne.mpr c2
    have c2b1 : (t164 != 0) = true := bne_iff_ne.mpr c2
    obtain rfl := Option.some.inj H
    go_enter Try.func10, Try.ntmps10
    go_wp2_with (first | ((with_reducible refine gate_callee (f := 9) rfl ?_); refine goesL_ (some 4) rfl rfl Try.func9 (by kernel_rfl) rfl #[.string (⟨#[109, 111, 118, 32, 97, 120, 44, 49, 50, 104, 32, 59, 32, 120]⟩ : ByteArray)] rfl (by (try simp only [List.map_toArray, List.map_cons, List.map_nil]); first | done | rfl | (simp only [List.length_drop, List.length_take]; rfl)) ?_; (with_reducible refine (lex_Line.calls k (⟨#[109, 111, 118, 32, 97, 120, 44, 49, 50, 104, 32, 59, 32, 120]⟩ : ByteArray) t163 t164 _ A1.out).mono ?_); rintro e w18 ⟨v165, rfl, ho0, hb⟩; refine ⟨_, rfl, ?_⟩; have n0_ := Aside0.mk (Kd.R_lower ho0 (below_size (by repeat (first | (with_reducible first | exact HB.out | apply below_alloc | apply pw_below_drewN | apply below_drew1) | exact HB.out)))); have n1_ := Aside0.mk (below_step (by repeat (first | (with_reducible first | exact HB.out | apply below_alloc | apply pw_below_drewN | apply below_drew1) | exact HB.out)) hb); clear HB; have HO166 := n0_; have HB := n1_; clear n0_ n1_; (try clear hb); (try clear hb2); (try clear hk); (try clear hi); (try clear ho0)))
    go_ret
    exact ⟨by first | rfl | (simp [errW_none, errW_some] <;> rfl) | (simp [*, errW_none, errW_some] <;> rfl), by repeat (first | (with_reducible first | exact HB.out | apply below_alloc | apply pw_below_drewN | apply below_drew1) | exact HB.out)⟩

end Go.Proofs.Ytbededoebmbkdaa.QLexLines
