-- PRINTED BY print.sh 35421559b90ae4d0a3588c463048766b98c2df88dd9212a6774a882060cdf62d: not written by this session
import Derived.Test.YtefdfcdgghoknaaPDox0
namespace Go.Proofs.Ytefdfcdgghoknaa.PDo
open Go.RowKit Go.Proofs.YtefdfcdgghoknaaW.PrintWords Go.Proofs.YtefdfcdgghoknaaW.PrintLast Go.Proofs.YtefdfcdgghoknaaW.PrintMore
attribute [local go_sem] max2_int min2_int max_two min_two max_three min_three max_four min_four   -- for this text's walks alone
set_option linter.unusedVariables false
set_option linter.unusedSimpArgs false

/-! ### hansomref08_Cut: function 15 -/
def hansomref08_Cut.f (a0 : Int) (a1 : Bool) : Option (Int) := if a1 = true then (some a0) else (some (Int.tmod a0 256))
set_option maxHeartbeats 8000000 in
set_option maxRecDepth 100000 in
theorem hansomref08_Cut.calls (a0 : Int) (a1 : Bool) (r : Int) (w : World) (h : hansomref08_Cut.f a0 a1 = some r) :
    Calls Try.prog 15 #[.int .u16 a0, .bool a1] w fun e w' => e = .returned (.int .u16 r) ∧ Drawn0 w w' := by
  have H : (if a1 = true then (some a0) else (some (Int.tmod a0 256))) = some r := h
  clear h
  by_cases c3 : a1 = true
  · subst c3
    have H1 : (some a0) = some r := by rw [if_pos rfl] at H; exact H
    clear H
    have H := H1
    clear H1
    obtain rfl := Option.some.inj H
    go_enter Try.func15, Try.ntmps15
    go_wp2
    go_ret
    exact ⟨by first | rfl | (simp; done) | (simp [*]; done), by repeat (first | exact Drawn0.refl _ | apply Drawn0.step)⟩
  · replace c3 := Bool.eq_false_iff.mpr c3
    subst c3
    have H1 : (some (Int.tmod a0 256)) = some r := by rw [if_neg (show ¬ (false = true) by decide)] at H; exact H
    clear H
    have H := H1
    clear H1
    obtain rfl := Option.some.inj H
    go_enter Try.func15, Try.ntmps15
    go_wp2
    go_ret
    exact ⟨by first | rfl | (simp; done) | (simp [*]; done), by repeat (first | exact Drawn0.refl _ | apply Drawn0.step)⟩

/-! ### hansomref08_Size: function 14 -/
def hansomref08_Size.f (a0 : Bool) : Option (Int) := if a0 = true then (some 16) else (some 8)
set_option maxHeartbeats 8000000 in
set_option maxRecDepth 100000 in
theorem hansomref08_Size.calls (a0 : Bool) (r : Int) (w : World) (h : hansomref08_Size.f a0 = some r) :
    Calls Try.prog 14 #[.bool a0] w fun e w' => e = .returned (.int .i64 r) ∧ Drawn0 w w' := by
  have H : (if a0 = true then (some 16) else (some 8)) = some r := h
  clear h
  by_cases c2 : a0 = true
  · subst c2
    have H1 : (some 16) = some r := by rw [if_pos rfl] at H; exact H
    clear H
    have H := H1
    clear H1
    obtain rfl := Option.some.inj H
    go_enter Try.func14, Try.ntmps14
    go_wp2
    go_ret
    exact ⟨by first | rfl | (simp; done) | (simp [*]; done), by repeat (first | exact Drawn0.refl _ | apply Drawn0.step)⟩
  · replace c2 := Bool.eq_false_iff.mpr c2
    subst c2
    have H1 : (some 8) = some r := by rw [if_neg (show ¬ (false = true) by decide)] at H; exact H
    clear H
    have H := H1
    clear H1
    obtain rfl := Option.some.inj H
    go_enter Try.func14, Try.ntmps14
    go_wp2
    go_ret
    exact ⟨by first | rfl | (simp; done) | (simp [*]; done), by repeat (first | exact Drawn0.refl _ | apply Drawn0.step)⟩

/-! ### hansomref08_Bit: function 34 -/
def hansomref08_Bit.l0 : Nat → Int → Int → Int → Option (Int)
  | 0, _, _, _ => none
  | k + 1, x0, x1, x5 => if x5 < x1 then (hansomref08_Bit.l0 k (IntKind.u16.wrap (Int.tdiv x0 2)) x1 (wrap64 (x5 + 1))) else (some (wrap64 (Int.tmod x0 2)))
def hansomref08_Bit.f (k : Nat) (a0 : Int) (a1 : Int) : Option (Int) := hansomref08_Bit.l0 k a0 a1 0
theorem hansomref08_Bit.mono_l : ∀ k, (∀ y0 y1 y2, LeO (hansomref08_Bit.l0 k y0 y1 y2) (hansomref08_Bit.l0 (k + 1) y0 y1 y2))
  | 0 => fun _ _ _ r h => by simp [hansomref08_Bit.l0] at h
  | k + 1 => by
    have ih0 := hansomref08_Bit.mono_l k
    · intro y0 y1 y2
      unfold hansomref08_Bit.l0
      repeat' first
      | (with_reducible exact ih0 _ _ _)
      | (with_reducible exact LeO.refl _)
      | (with_reducible exact LeO.none _)
      | (with_reducible refine LeO.ite ?_ ?_)
      | (with_reducible refine LeO.bind ?_ (fun _ => ?_))
      | exact ih0 _ _ _
      | exact LeO.none _
      | refine LeO.ite ?_ ?_
      | refine LeO.bind ?_ (fun _ => ?_)
theorem hansomref08_Bit.mono : ∀ a0 a1 k, LeO (hansomref08_Bit.f k a0 a1) (hansomref08_Bit.f (k + 1) a0 a1) := by
  intro a0 a1 k
  have ih0 := hansomref08_Bit.mono_l k
  unfold hansomref08_Bit.f
  repeat' first
      | (with_reducible exact ih0 _ _ _)
      | (with_reducible exact LeO.refl _)
      | (with_reducible exact LeO.none _)
      | (with_reducible refine LeO.ite ?_ ?_)
      | (with_reducible refine LeO.bind ?_ (fun _ => ?_))
      | exact ih0 _ _ _
      | exact LeO.none _
      | refine LeO.ite ?_ ?_
      | refine LeO.bind ?_ (fun _ => ?_)
set_option maxHeartbeats 8000000 in
set_option maxRecDepth 100000 in
theorem hansomref08_Bit.calls (k : Nat) (a0 : Int) (a1 : Int) (r : Int) (w : World) (h : hansomref08_Bit.f k a0 a1 = some r) :
    Calls Try.prog 34 #[.int .u16 a0, .int .i64 a1] w fun e w' => e = .returned (.int .i64 r) ∧ Drawn0 w w' := by
  have H : (hansomref08_Bit.l0 k a0 a1 0) = some r := h
  clear h
  have H' := Aside0.mk H
  clear H
  go_enter Try.func34, Try.ntmps34
  go_wp2
  go_loopg [0, 5] k (fun kq v0 v5 w' => ∃ (x0_1 : Int) (x5_1 : Int), v0 = .int .u16 x0_1 ∧ v5 = .int .i64 x5_1 ∧ Aside0 (hansomref08_Bit.l0 kq x0_1 a1 x5_1 = some r) ∧ Aside0 (kq ≤ k) ∧ Drawn0 w w')
  case atStart => exact ⟨(a0), (0), (by first | rfl | (simp; done) | (simp [*]; done)), (by first | rfl | (simp; done) | (simp [*]; done)), H', ⟨Nat.le_refl _⟩, by repeat (first | exact Drawn0.refl _ | apply Drawn0.step)⟩
  case round =>
    clear H'
    try clear p2
    obtain ⟨x0_1, x5_1, rfl, rfl, HA, HK1, ⟨m1, rfl⟩⟩ := hrel
    cases gk with
    | zero => exact absurd HA.out (by simp [hansomref08_Bit.l0])
    | succ k1 =>
      have H := HA.out
      clear HA
      simp only [hansomref08_Bit.l0] at H
      by_cases c3 : x5_1 < a1
      · rw [if_pos c3] at H
        have c3b0 : decide (x5_1 < a1) = true := decide_eq_true c3
        clear c3
        have H' := Aside0.mk H
        clear H
        go_wp2
        go_roundg k1
        case measure => have := HK1.out; omega
        case rel => exact ⟨(IntKind.u16.wrap (Int.tdiv x0_1 2)), (wrap64 (x5_1 + 1)), (by first | rfl | (simp; done) | (simp [*]; done)), (by first | rfl | (simp; done) | (simp [*]; done)), H', ⟨by have := HK1.out; omega⟩, by repeat (first | exact Drawn0.refl _ | apply Drawn0.step)⟩
      · rw [if_neg c3] at H
        have c3b0 : decide (x5_1 < a1) = false := decide_eq_false c3
        clear c3
        obtain rfl := Option.some.inj H
        go_wp2
        go_ret
        exact ⟨by first | rfl | (simp; done) | (simp [*]; done), by repeat (first | exact Drawn0.refl _ | apply Drawn0.step)⟩

/-! ### hansomref01_Ones: function 36 -/
def hansomref01_Ones.l0 : Nat → Int → Int → Int → Int → Option (Int)
  | 0, _, _, _, _ => none
  | k + 1, x0, x1, x5, x6 => if x6 < x1 then (hansomref01_Ones.l0 k (IntKind.u16.wrap (Int.tdiv x0 2)) x1 (wrap64 (x5 + (wrap64 (Int.tmod x0 2)))) (wrap64 (x6 + 1))) else (some x5)
def hansomref01_Ones.f (k : Nat) (a0 : Int) (a1 : Int) : Option (Int) := hansomref01_Ones.l0 k a0 a1 0 0
theorem hansomref01_Ones.mono_l : ∀ k, (∀ y0 y1 y2 y3, LeO (hansomref01_Ones.l0 k y0 y1 y2 y3) (hansomref01_Ones.l0 (k + 1) y0 y1 y2 y3))
  | 0 => fun _ _ _ _ r h => by simp [hansomref01_Ones.l0] at h
  | k + 1 => by
    have ih0 := hansomref01_Ones.mono_l k
    · intro y0 y1 y2 y3
      unfold hansomref01_Ones.l0
      repeat' first
      | (with_reducible exact ih0 _ _ _ _)
      | (with_reducible exact LeO.refl _)
      | (with_reducible exact LeO.none _)
      | (with_reducible refine LeO.ite ?_ ?_)
      | (with_reducible refine LeO.bind ?_ (fun _ => ?_))
      | exact ih0 _ _ _ _
      | exact LeO.none _
      | refine LeO.ite ?_ ?_
      | refine LeO.bind ?_ (fun _ => ?_)
theorem hansomref01_Ones.mono : ∀ a0 a1 k, LeO (hansomref01_Ones.f k a0 a1) (hansomref01_Ones.f (k + 1) a0 a1) := by
  intro a0 a1 k
  have ih0 := hansomref01_Ones.mono_l k
  unfold hansomref01_Ones.f
  repeat' first
      | (with_reducible exact ih0 _ _ _ _)
      | (with_reducible exact LeO.refl _)
      | (with_reducible exact LeO.none _)
      | (with_reducible refine LeO.ite ?_ ?_)
      | (with_reducible refine LeO.bind ?_ (fun _ => ?_))
      | exact ih0 _ _ _ _
      | exact LeO.none _
      | refine LeO.ite ?_ ?_
      | refine LeO.bind ?_ (fun _ => ?_)
set_option maxHeartbeats 8000000 in
set_option maxRecDepth 100000 in
theorem hansomref01_Ones.calls (k : Nat) (a0 : Int) (a1 : Int) (r : Int) (w : World) (h : hansomref01_Ones.f k a0 a1 = some r) :
    Calls Try.prog 36 #[.int .u16 a0, .int .i64 a1] w fun e w' => e = .returned (.int .i64 r) ∧ Drawn0 w w' := by
  have H : (hansomref01_Ones.l0 k a0 a1 0 0) = some r := h
  clear h
  have H' := Aside0.mk H
  clear H
  go_enter Try.func36, Try.ntmps36
  go_wp2
  go_loopg [0, 5, 6] k (fun kq v0 v5 v6 w' => ∃ (x0_1 : Int) (x5_1 : Int) (x6_1 : Int), v0 = .int .u16 x0_1 ∧ v5 = .int .i64 x5_1 ∧ v6 = .int .i64 x6_1 ∧ Aside0 (hansomref01_Ones.l0 kq x0_1 a1 x5_1 x6_1 = some r) ∧ Aside0 (kq ≤ k) ∧ Drawn0 w w')
  case atStart => exact ⟨(a0), (0), (0), (by first | rfl | (simp; done) | (simp [*]; done)), (by first | rfl | (simp; done) | (simp [*]; done)), (by first | rfl | (simp; done) | (simp [*]; done)), H', ⟨Nat.le_refl _⟩, by repeat (first | exact Drawn0.refl _ | apply Drawn0.step)⟩
  case round =>
    clear H'
    try clear p2
    obtain ⟨x0_1, x5_1, x6_1, rfl, rfl, rfl, HA, HK1, ⟨m1, rfl⟩⟩ := hrel
    cases gk with
    | zero => exact absurd HA.out (by simp [hansomref01_Ones.l0])
    | succ k1 =>
      have H := HA.out
      clear HA
      simp only [hansomref01_Ones.l0] at H
      by_cases c3 : x6_1 < a1
      · rw [if_pos c3] at H
        have c3b0 : decide (x6_1 < a1) = true := decide_eq_true c3
        clear c3
        have H' := Aside0.mk H
        clear H
        go_wp2
        go_roundg k1
        case measure => have := HK1.out; omega
        case rel => exact ⟨(IntKind.u16.wrap (Int.tdiv x0_1 2)), (wrap64 (x5_1 + (wrap64 (Int.tmod x0_1 2)))), (wrap64 (x6_1 + 1)), (by first | rfl | (simp; done) | (simp [*]; done)), (by first | rfl | (simp; done) | (simp [*]; done)), (by first | rfl | (simp; done) | (simp [*]; done)), H', ⟨by have := HK1.out; omega⟩, by repeat (first | exact Drawn0.refl _ | apply Drawn0.step)⟩
      · rw [if_neg c3] at H
        have c3b0 : decide (x6_1 < a1) = false := decide_eq_false c3
        clear c3
        obtain rfl := Option.some.inj H
        go_wp2
        go_ret
        exact ⟨by first | rfl | (simp; done) | (simp [*]; done), by repeat (first | exact Drawn0.refl _ | apply Drawn0.step)⟩

/-! ### hansomref08_Signs: function 19 -/
def hansomref08_Signs.j0 : Nat → Int → Int → Option (Int)
  | 0, _, _ => none
  | k + 1, x5, x6 => if x6 = 0 then ((hansomref01_Ones.f k (Int.tmod x6 256) 8).bind fun t104 => (if (Int.tmod t104 2) = 0 then (some (IntKind.u16.wrap ((IntKind.u16.wrap (x5 + 64)) + 4))) else (some (IntKind.u16.wrap (x5 + 64))))) else ((hansomref01_Ones.f k (Int.tmod x6 256) 8).bind fun t105 => (if (Int.tmod t105 2) = 0 then (some (IntKind.u16.wrap (x5 + 4))) else (some x5)))
def hansomref08_Signs.f (k : Nat) (a0 : Int) (a1 : Bool) : Option (Int) := (hansomref08_Cut.f a0 a1).bind fun t101 => ((hansomref08_Size.f a1).bind fun t102 => ((hansomref08_Bit.f k t101 (wrap64 (t102 - 1))).bind fun t103 => (if t103 = 1 then (hansomref08_Signs.j0 k (0 + 128) t101) else (hansomref08_Signs.j0 k 0 t101))))
theorem hansomref08_Signs.mono_l : ∀ k, (∀ y0 y1, LeO (hansomref08_Signs.j0 k y0 y1) (hansomref08_Signs.j0 (k + 1) y0 y1))
  | 0 => fun _ _ r h => by simp [hansomref08_Signs.j0] at h
  | k + 1 => by
    have ih0 := hansomref08_Signs.mono_l k
    · intro y0 y1
      unfold hansomref08_Signs.j0
      repeat' first
      | (with_reducible exact ih0 _ _)
      | (with_reducible exact hansomref01_Ones.mono _ _ _)
      | (with_reducible exact hansomref08_Bit.mono _ _ _)
      | (with_reducible exact LeO.refl _)
      | (with_reducible exact LeO.none _)
      | (with_reducible refine LeO.ite ?_ ?_)
      | (with_reducible refine LeO.bind ?_ (fun _ => ?_))
      | exact ih0 _ _
      | exact hansomref01_Ones.mono _ _ _
      | exact hansomref08_Bit.mono _ _ _
      | exact LeO.none _
      | refine LeO.ite ?_ ?_
      | refine LeO.bind ?_ (fun _ => ?_)
theorem hansomref08_Signs.mono : ∀ a0 a1 k, LeO (hansomref08_Signs.f k a0 a1) (hansomref08_Signs.f (k + 1) a0 a1) := by
  intro a0 a1 k
  have ih0 := hansomref08_Signs.mono_l k
  unfold hansomref08_Signs.f
  repeat' first
      | (with_reducible exact ih0 _ _)
      | (with_reducible exact hansomref01_Ones.mono _ _ _)
      | (with_reducible exact hansomref08_Bit.mono _ _ _)
      | (with_reducible exact LeO.refl _)
      | (with_reducible exact LeO.none _)
      | (with_reducible refine LeO.ite ?_ ?_)
      | (with_reducible refine LeO.bind ?_ (fun _ => ?_))
      | exact ih0 _ _
      | exact hansomref01_Ones.mono _ _ _
      | exact hansomref08_Bit.mono _ _ _
      | exact LeO.none _
      | refine LeO.ite ?_ ?_
      | refine LeO.bind ?_ (fun _ => ?_)
set_option maxHeartbeats 8000000 in
set_option maxRecDepth 100000 in
theorem hansomref08_Signs.calls (k : Nat) (a0 : Int) (a1 : Bool) (r : Int) (w : World) (h : hansomref08_Signs.f k a0 a1 = some r) :
    Calls Try.prog 19 #[.int .u16 a0, .bool a1] w fun e w' => e = .returned (.int .u16 r) ∧ Drawn0 w w' := by
  have H : ((hansomref08_Cut.f a0 a1).bind fun t101 => ((hansomref08_Size.f a1).bind fun t102 => ((hansomref08_Bit.f k t101 (wrap64 (t102 - 1))).bind fun t103 => (if t103 = 1 then (hansomref08_Signs.j0 k (0 + 128) t101) else (hansomref08_Signs.j0 k 0 t101))))) = some r := h
  clear h
  replace H := Option.bind_eq_some_iff.mp H
  obtain ⟨t101, A30, H⟩ := H
  replace H : ((hansomref08_Size.f a1).bind fun t102 => ((hansomref08_Bit.f k t101 (wrap64 (t102 - 1))).bind fun t103 => (if t103 = 1 then (hansomref08_Signs.j0 k (0 + 128) t101) else (hansomref08_Signs.j0 k 0 t101)))) = some r := H
  have A3 := Aside0.mk A30
  clear A30
  replace H := Option.bind_eq_some_iff.mp H
  obtain ⟨t102, A40, H⟩ := H
  replace H : ((hansomref08_Bit.f k t101 (wrap64 (t102 - 1))).bind fun t103 => (if t103 = 1 then (hansomref08_Signs.j0 k (0 + 128) t101) else (hansomref08_Signs.j0 k 0 t101))) = some r := H
  have A4 := Aside0.mk A40
  clear A40
  replace H := Option.bind_eq_some_iff.mp H
  obtain ⟨t103, A50, H⟩ := H
  replace H : (if t103 = 1 then (hansomref08_Signs.j0 k (0 + 128) t101) else (hansomref08_Signs.j0 k 0 t101)) = some r := H
  have A5 := Aside0.mk A50
  clear A50
  have HC6 := Aside0.mk H
  clear H
  go_enter Try.func19, Try.ntmps19
  go_upto_if 15 with (first | ((with_reducible refine gate_callee (f := 15) rfl ?_); refine goesL_ (some 9) rfl rfl Try.func15 (by kernel_rfl) rfl #[.int .u16 a0, .bool a1] rfl (by (try simp only [List.map_toArray, List.map_cons, List.map_nil]); first | done | rfl | (simp only [List.length_drop, List.length_take]; rfl)) ?_; (with_reducible refine (hansomref08_Cut.calls a0 a1 t101 _ A3.out).mono ?_); rintro e w' ⟨rfl, ⟨nd, rfl⟩⟩; refine ⟨_, rfl, ?_⟩) | ((with_reducible refine gate_callee (f := 14) rfl ?_); refine goesL_ (some 12) rfl rfl Try.func14 (by kernel_rfl) rfl #[.bool a1] rfl (by (try simp only [List.map_toArray, List.map_cons, List.map_nil]); first | done | rfl | (simp only [List.length_drop, List.length_take]; rfl)) ?_; (with_reducible refine (hansomref08_Size.calls a1 t102 _ A4.out).mono ?_); rintro e w' ⟨rfl, ⟨nd, rfl⟩⟩; refine ⟨_, rfl, ?_⟩) | ((with_reducible refine gate_callee (f := 34) rfl ?_); refine goesL_ (some 14) rfl rfl Try.func34 (by kernel_rfl) rfl #[.int .u16 t101, .int .i64 (wrap64 (t102 - 1))] rfl (by (try simp only [List.map_toArray, List.map_cons, List.map_nil]); first | done | rfl | (simp only [List.length_drop, List.length_take]; rfl)) ?_; (with_reducible refine (hansomref08_Bit.calls k t101 (wrap64 (t102 - 1)) t103 _ A5.out).mono ?_); rintro e w' ⟨rfl, ⟨nd, rfl⟩⟩; refine ⟨_, rfl, ?_⟩))
  (try simp only [Act.put, List.setIfInBounds_toArray, List.set_cons_zero, List.set_cons_succ])
  go_cut [5] (fun v5 wc => ∃ (kq : Nat) (x5_5 : Int), v5 = .int .u16 x5_5 ∧ Aside0 (hansomref08_Signs.j0 kq x5_5 t101 = some r) ∧ Aside0 (kq ≤ k) ∧ Drawn0 w wc)
  case first =>
    have H := HC6.out
    clear HC6
    by_cases c7 : t103 = 1
    · rw [if_pos c7] at H
      have c7b0 : (t103 == 1) = true := beq_iff_eq.mpr c7
      have c7b1 : (t103 != 1) = false := bne_eq_false_iff_eq.mpr c7
      clear c7
      (first | rw [c7b0] | (simp only [i64_w, i32_w]; rw [c7b0]) | skip)
      have H' := Aside0.mk H
      clear H
      go_wp2
      go_meet
      case rel => exact ⟨_, (0 + 128), (by first | rfl | (simp; done) | (simp [*]; done)), H', ⟨by first | omega | exact Nat.le_refl _⟩, by repeat (first | exact Drawn0.refl _ | apply Drawn0.step)⟩
    · rw [if_neg c7] at H
      have c7b0 : (t103 == 1) = false := beq_eq_false_iff_ne.mpr c7
      have c7b1 : (t103 != 1) = true := bne_iff_ne.mpr c7
      (first | rw [c7b0] | (simp only [i64_w, i32_w]; rw [c7b0]) | skip)
      have H' := Aside0.mk H
      clear H
      go_wp2
      go_meet
      case rel => exact ⟨_, (0), (by first | rfl | (simp; done) | (simp [*]; done)), H', ⟨by first | omega | exact Nat.le_refl _⟩, by repeat (first | exact Drawn0.refl _ | apply Drawn0.step)⟩
  case rest =>
    clear HC6
    try clear c1
    try clear p2
    try clear c3
    try clear p6
    try clear c7
    try clear c7b0
    try clear c7b1
    obtain ⟨kq, x5_5, rfl, HA, HJ5, ⟨mc5, rfl⟩⟩ := hcut
    cases kq with
    | zero => exact absurd HA.out (by simp [hansomref08_Signs.j0])
    | succ kj5 =>
      have H := HA.out
      clear HA
      simp only [hansomref08_Signs.j0] at H
      by_cases c8 : t101 = 0
      · rw [if_pos c8] at H
        have c8b0 : (t101 == 0) = true := beq_iff_eq.mpr c8
        have c8b1 : (t101 != 0) = false := bne_eq_false_iff_eq.mpr c8
        clear c8
        replace H := Option.bind_eq_some_iff.mp H
        obtain ⟨t104, A90, H⟩ := H
        replace H : (if (Int.tmod t104 2) = 0 then (some (IntKind.u16.wrap ((IntKind.u16.wrap (x5_5 + 64)) + 4))) else (some (IntKind.u16.wrap (x5_5 + 64)))) = some r := H
        have A9 := Aside0.mk A90
        clear A90
        by_cases c10 : (Int.tmod t104 2) = 0
        · rw [if_pos c10] at H
          have c10b0 : ((Int.tmod t104 2) == 0) = true := beq_iff_eq.mpr c10
          have c10b1 : ((Int.tmod t104 2) != 0) = false := bne_eq_false_iff_eq.mpr c10
          clear c10
          obtain rfl := Option.some.inj H
          go_wp2_with (first | ((with_reducible refine gate_callee (f := 36) rfl ?_); refine goesL_ (some 24) rfl rfl Try.func36 (by kernel_rfl) rfl #[.int .u16 (Int.tmod t101 256), .int .i64 8] rfl (by (try simp only [List.map_toArray, List.map_cons, List.map_nil]); first | done | rfl | (simp only [List.length_drop, List.length_take]; rfl)) ?_; (with_reducible refine (hansomref01_Ones.calls kj5 (Int.tmod t101 256) 8 t104 _ A9.out).mono ?_); rintro e w' ⟨rfl, ⟨nd, rfl⟩⟩; refine ⟨_, rfl, ?_⟩))
          go_ret
          exact ⟨by first | rfl | (simp; done) | (simp [*]; done), by repeat (first | exact Drawn0.refl _ | apply Drawn0.step)⟩
        · rw [if_neg c10] at H
          have c10b0 : ((Int.tmod t104 2) == 0) = false := beq_eq_false_iff_ne.mpr c10
          have c10b1 : ((Int.tmod t104 2) != 0) = true := bne_iff_ne.mpr c10
          obtain rfl := Option.some.inj H
          go_wp2_with (first | ((with_reducible refine gate_callee (f := 36) rfl ?_); refine goesL_ (some 24) rfl rfl Try.func36 (by kernel_rfl) rfl #[.int .u16 (Int.tmod t101 256), .int .i64 8] rfl (by (try simp only [List.map_toArray, List.map_cons, List.map_nil]); first | done | rfl | (simp only [List.length_drop, List.length_take]; rfl)) ?_; (with_reducible refine (hansomref01_Ones.calls kj5 (Int.tmod t101 256) 8 t104 _ A9.out).mono ?_); rintro e w' ⟨rfl, ⟨nd, rfl⟩⟩; refine ⟨_, rfl, ?_⟩))
          go_ret
          exact ⟨by first | rfl | (simp; done) | (simp [*]; done), by repeat (first | exact Drawn0.refl _ | apply Drawn0.step)⟩
      · rw [if_neg c8] at H
        have c8b0 : (t101 == 0) = false := beq_eq_false_iff_ne.mpr c8
        have c8b1 : (t101 != 0) = true := bne_iff_ne.mpr c8
        replace H := Option.bind_eq_some_iff.mp H
        obtain ⟨t105, A110, H⟩ := H
        replace H : (if (Int.tmod t105 2) = 0 then (some (IntKind.u16.wrap (x5_5 + 4))) else (some x5_5)) = some r := H
        have A11 := Aside0.mk A110
        clear A110
        by_cases c12 : (Int.tmod t105 2) = 0
        · rw [if_pos c12] at H
          have c12b0 : ((Int.tmod t105 2) == 0) = true := beq_iff_eq.mpr c12
          have c12b1 : ((Int.tmod t105 2) != 0) = false := bne_eq_false_iff_eq.mpr c12
          clear c12
          obtain rfl := Option.some.inj H
          go_wp2_with (first | ((with_reducible refine gate_callee (f := 36) rfl ?_); refine goesL_ (some 24) rfl rfl Try.func36 (by kernel_rfl) rfl #[.int .u16 (Int.tmod t101 256), .int .i64 8] rfl (by (try simp only [List.map_toArray, List.map_cons, List.map_nil]); first | done | rfl | (simp only [List.length_drop, List.length_take]; rfl)) ?_; (with_reducible refine (hansomref01_Ones.calls kj5 (Int.tmod t101 256) 8 t105 _ A11.out).mono ?_); rintro e w' ⟨rfl, ⟨nd, rfl⟩⟩; refine ⟨_, rfl, ?_⟩))
          go_ret
          exact ⟨by first | rfl | (simp; done) | (simp [*]; done), by repeat (first | exact Drawn0.refl _ | apply Drawn0.step)⟩
        · rw [if_neg c12] at H
          have c12b0 : ((Int.tmod t105 2) == 0) = false := beq_eq_false_iff_ne.mpr c12
          have c12b1 : ((Int.tmod t105 2) != 0) = true := bne_iff_ne.mpr c12
          obtain rfl := Option.some.inj H
          go_wp2_with (first | ((with_reducible refine gate_callee (f := 36) rfl ?_); refine goesL_ (some 24) rfl rfl Try.func36 (by kernel_rfl) rfl #[.int .u16 (Int.tmod t101 256), .int .i64 8] rfl (by (try simp only [List.map_toArray, List.map_cons, List.map_nil]); first | done | rfl | (simp only [List.length_drop, List.length_take]; rfl)) ?_; (with_reducible refine (hansomref01_Ones.calls kj5 (Int.tmod t101 256) 8 t105 _ A11.out).mono ?_); rintro e w' ⟨rfl, ⟨nd, rfl⟩⟩; refine ⟨_, rfl, ?_⟩))
          go_ret
          exact ⟨by first | rfl | (simp; done) | (simp [*]; done), by repeat (first | exact Drawn0.refl _ | apply Drawn0.step)⟩

/-! ### hansomref08_of: function 40 -/
def hansomref08_of.l0 : Nat → List Int → Int → Int → Int → Option (Int)
  | 0, _, _, _, _ => none
  | k + 1, x0, x3, x4, x5 => if x5 < (x0.length : Int) then (if 0 ≤ x5 then (hansomref08_of.l0 k x0 (IntKind.u16.wrap (x3 + (IntKind.u16.wrap ((IntKind.u16.wrap (rd x0 x5)) * x4)))) (IntKind.u16.wrap (x4 * 2)) (wrap64 (x5 + 1))) else (none)) else (some x3)
def hansomref08_of.f (k : Nat) (l0 : List Int) : Option (Int) := hansomref08_of.l0 k l0 0 1 0
theorem hansomref08_of.mono_l : ∀ k, (∀ y0 y1 y2 y3, LeO (hansomref08_of.l0 k y0 y1 y2 y3) (hansomref08_of.l0 (k + 1) y0 y1 y2 y3))
  | 0 => fun _ _ _ _ r h => by simp [hansomref08_of.l0] at h
  | k + 1 => by
    have ih0 := hansomref08_of.mono_l k
    · intro y0 y1 y2 y3
      unfold hansomref08_of.l0
      repeat' first
      | (with_reducible exact ih0 _ _ _ _)
      | (with_reducible exact LeO.refl _)
      | (with_reducible exact LeO.none _)
      | (with_reducible refine LeO.ite ?_ ?_)
      | (with_reducible refine LeO.bind ?_ (fun _ => ?_))
      | exact ih0 _ _ _ _
      | exact LeO.none _
      | refine LeO.ite ?_ ?_
      | refine LeO.bind ?_ (fun _ => ?_)
theorem hansomref08_of.mono : ∀ a0 k, LeO (hansomref08_of.f k a0) (hansomref08_of.f (k + 1) a0) := by
  intro a0 k
  have ih0 := hansomref08_of.mono_l k
  unfold hansomref08_of.f
  repeat' first
      | (with_reducible exact ih0 _ _ _ _)
      | (with_reducible exact LeO.refl _)
      | (with_reducible exact LeO.none _)
      | (with_reducible refine LeO.ite ?_ ?_)
      | (with_reducible refine LeO.bind ?_ (fun _ => ?_))
      | exact ih0 _ _ _ _
      | exact LeO.none _
      | refine LeO.ite ?_ ?_
      | refine LeO.bind ?_ (fun _ => ?_)
set_option maxHeartbeats 8000000 in
set_option maxRecDepth 100000 in
theorem hansomref08_of.calls (k : Nat) (A0 : Option Addr) (c0 : Nat) (l0 : List Int) (r : Int) (w : World) (hr0 : Kd.C (Kd.int .i64) w A0 l0.length l0) (hc0 : l0.length ≤ c0) (h : hansomref08_of.f k l0 = some r) :
    Calls Try.prog 40 #[.slice A0 l0.length c0] w fun e w' => e = .returned (.int .u16 r) ∧ Drawn0 w w' := by
  have HR0 := Aside0.mk hr0
  have HC0 := Aside0.mk hc0
  clear hr0 hc0
  have H : (hansomref08_of.l0 k l0 0 1 0) = some r := h
  clear h
  have H' := Aside0.mk H
  clear H
  go_enter Try.func40, Try.ntmps40
  go_wp2
  go_loopg [3, 4, 5] k (fun kq v3 v4 v5 w' => ∃ (x3_1 : Int) (x4_1 : Int) (x5_1 : Int), v3 = .int .u16 x3_1 ∧ v4 = .int .u16 x4_1 ∧ v5 = .int .i64 x5_1 ∧ Aside0 (hansomref08_of.l0 kq l0 x3_1 x4_1 x5_1 = some r) ∧ Aside0 (kq ≤ k) ∧ Drawn0 w w')
  case atStart => exact ⟨(0), (1), (0), (by first | rfl | (simp; done) | (simp [*]; done)), (by first | rfl | (simp; done) | (simp [*]; done)), (by first | rfl | (simp; done) | (simp [*]; done)), H', ⟨Nat.le_refl _⟩, by repeat (first | exact Drawn0.refl _ | apply Drawn0.step)⟩
  case round =>
    clear H'
    obtain ⟨x3_1, x4_1, x5_1, rfl, rfl, rfl, HA, HK1, ⟨m1, rfl⟩⟩ := hrel
    cases gk with
    | zero => exact absurd HA.out (by simp [hansomref08_of.l0])
    | succ k1 =>
      have H := HA.out
      clear HA
      simp only [hansomref08_of.l0] at H
      by_cases c2 : x5_1 < (l0.length : Int)
      · rw [if_pos c2] at H
        have c2b0 : decide (x5_1 < (l0.length : Int)) = true := decide_eq_true c2
        clear c2
        by_cases c3 : 0 ≤ x5_1
        · rw [if_pos c3] at H
          have c3b0 : decide (0 ≤ x5_1) = true := decide_eq_true c3
          clear c3
          have H' := Aside0.mk H
          clear H
          have p106 : 0 ≤ (x5_1 : Int) := of_decide_eq_true (by first | (with_reducible assumption) | assumption)
          have q106 : x5_1 < (l0.length : Int) := of_decide_eq_true (by first | (with_reducible assumption) | assumption)
          obtain ⟨ad106, e106, hx106_0⟩ := Kd.at_int HR0.out x5_1 p106 q106
          cases e106
          replace p106 := eq_true p106
          replace q106 := eq_true q106
          go_wp2
          go_roundg k1
          case measure => have := HK1.out; omega
          case rel => exact ⟨(IntKind.u16.wrap (x3_1 + (IntKind.u16.wrap ((IntKind.u16.wrap (rd l0 x5_1)) * x4_1)))), (IntKind.u16.wrap (x4_1 * 2)), (wrap64 (x5_1 + 1)), (by first | rfl | (simp; done) | (simp [*]; done)), (by first | rfl | (simp; done) | (simp [*]; done)), (by first | rfl | (simp; done) | (simp [*]; done)), H', ⟨by have := HK1.out; omega⟩, by repeat (first | exact Drawn0.refl _ | apply Drawn0.step)⟩
        · rw [if_neg c3] at H
          exact absurd H (by simp)
      · rw [if_neg c2] at H
        have c2b0 : decide (x5_1 < (l0.length : Int)) = false := decide_eq_false c2
        clear c2
        obtain rfl := Option.some.inj H
        go_wp2
        go_ret
        exact ⟨by first | rfl | (simp; done) | (simp [*]; done), by repeat (first | exact Drawn0.refl _ | apply Drawn0.step)⟩

/-! ### hansomref08_Add: function 22 -/
mutual
def hansomref08_Add.l0 : Nat → Int → Int → Int → Bool → List Int → Int → Int → Int → Option (Int × Int)
  | 0, _, _, _, _, _, _, _, _ => none
  | k + 1, x0, x1, x2, x3, x10, x11, x12, x13 => (hansomref08_Size.f x3).bind fun t110 => (if x13 < t110 then ((hansomref08_Bit.f k x0 x13).bind fun t111 => ((hansomref08_Bit.f k x1 x13).bind fun t112 => (if x10.length < 17592186044416 then ((some (x10 ++ [Int.tmod (wrap64 ((wrap64 (t111 + t112)) + x2)) 2] : List Int)).bind fun y113 => (if x13 = 3 then (if (wrap64 (Int.tdiv (wrap64 ((wrap64 (t111 + t112)) + x2)) 2)) = 1 then (hansomref08_Add.l0 k x0 x1 (wrap64 (Int.tdiv (wrap64 ((wrap64 (t111 + t112)) + x2)) 2)) x3 y113 x2 (IntKind.u16.wrap (x12 + 16)) (wrap64 (x13 + 1))) else (hansomref08_Add.l0 k x0 x1 (wrap64 (Int.tdiv (wrap64 ((wrap64 (t111 + t112)) + x2)) 2)) x3 y113 x2 x12 (wrap64 (x13 + 1)))) else (hansomref08_Add.l0 k x0 x1 (wrap64 (Int.tdiv (wrap64 ((wrap64 (t111 + t112)) + x2)) 2)) x3 y113 x2 x12 (wrap64 (x13 + 1))))) else (none)))) else (if x2 = 1 then (hansomref08_Add.j1 k x2 x3 x10 x11 (IntKind.u16.wrap (x12 + 1))) else (hansomref08_Add.j1 k x2 x3 x10 x11 x12)))
def hansomref08_Add.j1 : Nat → Int → Bool → List Int → Int → Int → Option (Int × Int)
  | 0, _, _, _, _, _ => none
  | k + 1, x2, x3, x10, x11, x12 => if x2 = x11 then ((hansomref08_of.f k x10).bind fun t116 => ((hansomref08_Signs.f k t116 x3).bind fun t117 => (some (t116, IntKind.u16.wrap (x12 + t117))))) else ((hansomref08_of.f k x10).bind fun t118 => ((hansomref08_Signs.f k t118 x3).bind fun t119 => (some (t118, IntKind.u16.wrap ((IntKind.u16.wrap (x12 + 2048)) + t119)))))
end
def hansomref08_Add.f (k : Nat) (a0 : Int) (a1 : Int) (a2 : Int) (a3 : Bool) : Option (Int × Int) := hansomref08_Add.l0 k a0 a1 a2 a3 (([] : List Int)) a2 0 0
theorem hansomref08_Add.mono_l : ∀ k, (∀ y0 y1 y2 y3 y4 y5 y6 y7, LeO (hansomref08_Add.l0 k y0 y1 y2 y3 y4 y5 y6 y7) (hansomref08_Add.l0 (k + 1) y0 y1 y2 y3 y4 y5 y6 y7)) ∧ (∀ y0 y1 y2 y3 y4, LeO (hansomref08_Add.j1 k y0 y1 y2 y3 y4) (hansomref08_Add.j1 (k + 1) y0 y1 y2 y3 y4))
  | 0 => ⟨fun _ _ _ _ _ _ _ _ r h => by simp [hansomref08_Add.l0] at h, fun _ _ _ _ _ r h => by simp [hansomref08_Add.j1] at h⟩
  | k + 1 => by
    obtain ⟨ih0, ih1⟩ := hansomref08_Add.mono_l k
    refine ⟨?_, ?_⟩
    · intro y0 y1 y2 y3 y4 y5 y6 y7
      unfold hansomref08_Add.l0
      repeat' first
      | (with_reducible exact ih0 _ _ _ _ _ _ _ _)
      | (with_reducible exact ih1 _ _ _ _ _)
      | (with_reducible exact hansomref08_Bit.mono _ _ _)
      | (with_reducible exact hansomref08_Signs.mono _ _ _)
      | (with_reducible exact hansomref08_of.mono _ _)
      | (with_reducible exact LeO.refl _)
      | (with_reducible exact LeO.none _)
      | (with_reducible refine LeO.ite ?_ ?_)
      | (with_reducible refine LeO.bind ?_ (fun _ => ?_))
      | exact ih0 _ _ _ _ _ _ _ _
      | exact ih1 _ _ _ _ _
      | exact hansomref08_Bit.mono _ _ _
      | exact hansomref08_Signs.mono _ _ _
      | exact hansomref08_of.mono _ _
      | exact LeO.none _
      | refine LeO.ite ?_ ?_
      | refine LeO.bind ?_ (fun _ => ?_)
    · intro y0 y1 y2 y3 y4
      unfold hansomref08_Add.j1
      repeat' first
      | (with_reducible exact ih0 _ _ _ _ _ _ _ _)
      | (with_reducible exact ih1 _ _ _ _ _)
      | (with_reducible exact hansomref08_Bit.mono _ _ _)
      | (with_reducible exact hansomref08_Signs.mono _ _ _)
      | (with_reducible exact hansomref08_of.mono _ _)
      | (with_reducible exact LeO.refl _)
      | (with_reducible exact LeO.none _)
      | (with_reducible refine LeO.ite ?_ ?_)
      | (with_reducible refine LeO.bind ?_ (fun _ => ?_))
      | exact ih0 _ _ _ _ _ _ _ _
      | exact ih1 _ _ _ _ _
      | exact hansomref08_Bit.mono _ _ _
      | exact hansomref08_Signs.mono _ _ _
      | exact hansomref08_of.mono _ _
      | exact LeO.none _
      | refine LeO.ite ?_ ?_
      | refine LeO.bind ?_ (fun _ => ?_)
theorem hansomref08_Add.mono : ∀ a0 a1 a2 a3 k, LeO (hansomref08_Add.f k a0 a1 a2 a3) (hansomref08_Add.f (k + 1) a0 a1 a2 a3) := by
  intro a0 a1 a2 a3 k
  obtain ⟨ih0, ih1⟩ := hansomref08_Add.mono_l k
  unfold hansomref08_Add.f
  repeat' first
      | (with_reducible exact ih0 _ _ _ _ _ _ _ _)
      | (with_reducible exact ih1 _ _ _ _ _)
      | (with_reducible exact hansomref08_Bit.mono _ _ _)
      | (with_reducible exact hansomref08_Signs.mono _ _ _)
      | (with_reducible exact hansomref08_of.mono _ _)
      | (with_reducible exact LeO.refl _)
      | (with_reducible exact LeO.none _)
      | (with_reducible refine LeO.ite ?_ ?_)
      | (with_reducible refine LeO.bind ?_ (fun _ => ?_))
      | exact ih0 _ _ _ _ _ _ _ _
      | exact ih1 _ _ _ _ _
      | exact hansomref08_Bit.mono _ _ _
      | exact hansomref08_Signs.mono _ _ _
      | exact hansomref08_of.mono _ _
      | exact LeO.none _
      | refine LeO.ite ?_ ?_
      | refine LeO.bind ?_ (fun _ => ?_)
set_option maxHeartbeats 8000000 in
set_option maxRecDepth 100000 in
theorem hansomref08_Add.calls (k : Nat) (a0 : Int) (a1 : Int) (a2 : Int) (a3 : Bool) (r1 : Int) (r2 : Int) (w : World) (h : hansomref08_Add.f k a0 a1 a2 a3 = some (r1, r2)) :
    Calls Try.prog 22 #[.int .u16 a0, .int .u16 a1, .int .i64 a2, .bool a3] w fun e w' => e = .returned (.tuple #[.int .u16 r1, .int .u16 r2]) ∧ Below w.heap.size w w' := by
  have HB := Aside0.mk (Below.refl w.heap.size w)
  have H : (hansomref08_Add.l0 k a0 a1 a2 a3 (([] : List Int)) a2 0 0) = some (r1, r2) := h
  clear h
  obtain ⟨y107, hy107⟩ : ∃ y_ : List Int, y_ = (([] : List Int)) := ⟨_, rfl⟩
  replace H : (hansomref08_Add.l0 k a0 a1 a2 a3 y107 a2 0 0) = some (r1, r2) := by first | (rw [hy107]; with_reducible exact H) | (have H2_ := (Option.bind_some _ _).symm.trans H; rw [hy107]; with_reducible exact H2_) | (have H2_ := (Option.bind_some _ _).symm.trans H; with_reducible exact H2_) | with_reducible exact H | (rw [hy107]; exact H) | exact H
  have Ny107 := Aside0.mk hy107
  clear hy107
  have H' := Aside0.mk H
  clear H
  go_enter Try.func22, Try.ntmps22
  go_wp2_with (first | ((with_reducible refine gate_dst (N := 16) rfl ?_); refine Kd.R_lit (Kd.int .i64) _ 3 ?hg (N := 16) ?hd (xs := ([] : List Int)) (inner := []) (ok := fun _ => True) (okp := fun _ => True) ?hr ?hp (fun _ hk => hk) trivial (Below.refl _ _) (Nat.le_refl _) (by simp) ?_; (case hd => rfl); (case hg => rfl); (case hr => first | (go_simp; done) | (go_simp; rfl)); (case hp => exact (Reps.none _ _)); intro v108 w5 ho6 hb hg_ hnew_; clear hg_ hnew_; (first | rw [← Ny107.out] at ho6 | (simp only [Int.reduceToNat] at ho6; rw [← Ny107.out] at ho6)); have n0_ := Aside0.mk (Kd.R_lower ho6 (below_size (by repeat (first | (with_reducible first | exact HB.out | apply below_alloc | apply pw_below_drewN | apply below_drew1) | exact HB.out)))); have n1_ := Aside0.mk (below_step (by repeat (first | (with_reducible first | exact HB.out | apply below_alloc | apply pw_below_drewN | apply below_drew1) | exact HB.out)) hb); clear HB; have HO109 := n0_; have HB := n1_; clear n0_ n1_; clear hb ho6))
  go_loopg [2, 10, 11, 12, 13] k (fun kq v2 v10 v11 v12 v13 w' => ∃ (x2_1 : Int) (x10_1 : List Int) (x11_1 : Int) (x12_1 : Int) (x13_1 : Int), v2 = .int .i64 x2_1 ∧ v11 = .int .i64 x11_1 ∧ v12 = .int .u16 x12_1 ∧ v13 = .int .i64 x13_1 ∧ Aside0 (hansomref08_Add.l0 kq a0 a1 x2_1 a3 x10_1 x11_1 x12_1 x13_1 = some (r1, r2)) ∧ Aside0 (kq ≤ k) ∧ Aside0 (Kd.R (Kd.int .i64) 3 w' w.heap.size (fun _ => True) v10 x10_1) ∧ Aside0 (Below w.heap.size w w'))
  case atStart => exact ⟨(a2), (y107), (a2), (0), (0), (by first | rfl | (simp; done) | (simp [*]; done)), (by first | rfl | (simp; done) | (simp [*]; done)), (by first | rfl | (simp; done) | (simp [*]; done)), (by first | rfl | (simp; done) | (simp [*]; done)), H', ⟨Nat.le_refl _⟩, ⟨by (with_reducible repeat (first | apply Kd.R_alloc | apply Kd.R_drewN | apply Kd.R_drew)); exact HO109.out⟩, ⟨by repeat (first | (with_reducible first | exact HB.out | apply below_alloc | apply pw_below_drewN | apply below_drew1) | exact HB.out)⟩⟩
  case round =>
    clear H'
    try clear c2
    try clear p2
    obtain ⟨x2_1, x10_1, x11_1, x12_1, x13_1, rfl, rfl, rfl, rfl, HA, HK1, HO_10, HB⟩ := hrel
    cases gk with
    | zero => exact absurd HA.out (by simp [hansomref08_Add.l0])
    | succ k1 =>
      have H := HA.out
      clear HA
      simp only [hansomref08_Add.l0] at H
      replace H := Option.bind_eq_some_iff.mp H
      obtain ⟨t110, A70, H⟩ := H
      replace H : (if x13_1 < t110 then ((hansomref08_Bit.f k1 a0 x13_1).bind fun t111 => ((hansomref08_Bit.f k1 a1 x13_1).bind fun t112 => (if x10_1.length < 17592186044416 then ((some (x10_1 ++ [Int.tmod (wrap64 ((wrap64 (t111 + t112)) + x2_1)) 2] : List Int)).bind fun y113 => (if x13_1 = 3 then (if (wrap64 (Int.tdiv (wrap64 ((wrap64 (t111 + t112)) + x2_1)) 2)) = 1 then (hansomref08_Add.l0 k1 a0 a1 (wrap64 (Int.tdiv (wrap64 ((wrap64 (t111 + t112)) + x2_1)) 2)) a3 y113 x2_1 (IntKind.u16.wrap (x12_1 + 16)) (wrap64 (x13_1 + 1))) else (hansomref08_Add.l0 k1 a0 a1 (wrap64 (Int.tdiv (wrap64 ((wrap64 (t111 + t112)) + x2_1)) 2)) a3 y113 x2_1 x12_1 (wrap64 (x13_1 + 1)))) else (hansomref08_Add.l0 k1 a0 a1 (wrap64 (Int.tdiv (wrap64 ((wrap64 (t111 + t112)) + x2_1)) 2)) a3 y113 x2_1 x12_1 (wrap64 (x13_1 + 1))))) else (none)))) else (if x2_1 = 1 then (hansomref08_Add.j1 k1 x2_1 a3 x10_1 x11_1 (IntKind.u16.wrap (x12_1 + 1))) else (hansomref08_Add.j1 k1 x2_1 a3 x10_1 x11_1 x12_1))) = some (r1, r2) := H
      have A7 := Aside0.mk A70
      clear A70
      by_cases c8 : x13_1 < t110
      · rw [if_pos c8] at H
        have c8b0 : decide (x13_1 < t110) = true := decide_eq_true c8
        clear c8
        replace H := Option.bind_eq_some_iff.mp H
        obtain ⟨t111, A90, H⟩ := H
        replace H : ((hansomref08_Bit.f k1 a1 x13_1).bind fun t112 => (if x10_1.length < 17592186044416 then ((some (x10_1 ++ [Int.tmod (wrap64 ((wrap64 (t111 + t112)) + x2_1)) 2] : List Int)).bind fun y113 => (if x13_1 = 3 then (if (wrap64 (Int.tdiv (wrap64 ((wrap64 (t111 + t112)) + x2_1)) 2)) = 1 then (hansomref08_Add.l0 k1 a0 a1 (wrap64 (Int.tdiv (wrap64 ((wrap64 (t111 + t112)) + x2_1)) 2)) a3 y113 x2_1 (IntKind.u16.wrap (x12_1 + 16)) (wrap64 (x13_1 + 1))) else (hansomref08_Add.l0 k1 a0 a1 (wrap64 (Int.tdiv (wrap64 ((wrap64 (t111 + t112)) + x2_1)) 2)) a3 y113 x2_1 x12_1 (wrap64 (x13_1 + 1)))) else (hansomref08_Add.l0 k1 a0 a1 (wrap64 (Int.tdiv (wrap64 ((wrap64 (t111 + t112)) + x2_1)) 2)) a3 y113 x2_1 x12_1 (wrap64 (x13_1 + 1))))) else (none))) = some (r1, r2) := H
        have A9 := Aside0.mk A90
        clear A90
        replace H := Option.bind_eq_some_iff.mp H
        obtain ⟨t112, A100, H⟩ := H
        replace H : (if x10_1.length < 17592186044416 then ((some (x10_1 ++ [Int.tmod (wrap64 ((wrap64 (t111 + t112)) + x2_1)) 2] : List Int)).bind fun y113 => (if x13_1 = 3 then (if (wrap64 (Int.tdiv (wrap64 ((wrap64 (t111 + t112)) + x2_1)) 2)) = 1 then (hansomref08_Add.l0 k1 a0 a1 (wrap64 (Int.tdiv (wrap64 ((wrap64 (t111 + t112)) + x2_1)) 2)) a3 y113 x2_1 (IntKind.u16.wrap (x12_1 + 16)) (wrap64 (x13_1 + 1))) else (hansomref08_Add.l0 k1 a0 a1 (wrap64 (Int.tdiv (wrap64 ((wrap64 (t111 + t112)) + x2_1)) 2)) a3 y113 x2_1 x12_1 (wrap64 (x13_1 + 1)))) else (hansomref08_Add.l0 k1 a0 a1 (wrap64 (Int.tdiv (wrap64 ((wrap64 (t111 + t112)) + x2_1)) 2)) a3 y113 x2_1 x12_1 (wrap64 (x13_1 + 1))))) else (none)) = some (r1, r2) := H
        have A10 := Aside0.mk A100
        clear A100
        by_cases c11 : x10_1.length < 17592186044416
        · rw [if_pos c11] at H
          have LMc11 := Aside0.mk c11
          clear c11
          obtain ⟨y113, hy113⟩ : ∃ y_ : List Int, y_ = (x10_1 ++ [Int.tmod (wrap64 ((wrap64 (t111 + t112)) + x2_1)) 2]) := ⟨_, rfl⟩
          replace H : (if x13_1 = 3 then (if (wrap64 (Int.tdiv (wrap64 ((wrap64 (t111 + t112)) + x2_1)) 2)) = 1 then (hansomref08_Add.l0 k1 a0 a1 (wrap64 (Int.tdiv (wrap64 ((wrap64 (t111 + t112)) + x2_1)) 2)) a3 y113 x2_1 (IntKind.u16.wrap (x12_1 + 16)) (wrap64 (x13_1 + 1))) else (hansomref08_Add.l0 k1 a0 a1 (wrap64 (Int.tdiv (wrap64 ((wrap64 (t111 + t112)) + x2_1)) 2)) a3 y113 x2_1 x12_1 (wrap64 (x13_1 + 1)))) else (hansomref08_Add.l0 k1 a0 a1 (wrap64 (Int.tdiv (wrap64 ((wrap64 (t111 + t112)) + x2_1)) 2)) a3 y113 x2_1 x12_1 (wrap64 (x13_1 + 1)))) = some (r1, r2) := by first | (rw [hy113]; with_reducible exact H) | (have H2_ := (Option.bind_some _ _).symm.trans H; rw [hy113]; with_reducible exact H2_) | (have H2_ := (Option.bind_some _ _).symm.trans H; with_reducible exact H2_) | with_reducible exact H | (rw [hy113]; exact H) | exact H
          have Ny113 := Aside0.mk hy113
          clear hy113
          by_cases c12 : x13_1 = 3
          · rw [if_pos c12] at H
            have c12b0 : (x13_1 == 3) = true := beq_iff_eq.mpr c12
            have c12b1 : (x13_1 != 3) = false := bne_eq_false_iff_eq.mpr c12
            clear c12
            by_cases c13 : (wrap64 (Int.tdiv (wrap64 ((wrap64 (t111 + t112)) + x2_1)) 2)) = 1
            · rw [if_pos c13] at H
              have c13b0 : ((wrap64 (Int.tdiv (wrap64 ((wrap64 (t111 + t112)) + x2_1)) 2)) == 1) = true := beq_iff_eq.mpr c13
              have c13b1 : ((wrap64 (Int.tdiv (wrap64 ((wrap64 (t111 + t112)) + x2_1)) 2)) != 1) = false := bne_eq_false_iff_eq.mpr c13
              clear c13
              have H' := Aside0.mk H
              clear H
              go_wp2_with (first | ((with_reducible refine gate_callee (f := 14) rfl ?_); refine goesL_ (some 20) rfl rfl Try.func14 (by kernel_rfl) rfl #[.bool a3] rfl (by (try simp only [List.map_toArray, List.map_cons, List.map_nil]); first | done | rfl | (simp only [List.length_drop, List.length_take]; rfl)) ?_; (with_reducible refine (hansomref08_Size.calls a3 t110 _ A7.out).mono ?_); rintro e w' ⟨rfl, ⟨nd, rfl⟩⟩; refine ⟨_, rfl, ?_⟩) | ((with_reducible refine gate_callee (f := 34) rfl ?_); refine goesL_ (some 26) rfl rfl Try.func34 (by kernel_rfl) rfl #[.int .u16 a0, .int .i64 x13_1] rfl (by (try simp only [List.map_toArray, List.map_cons, List.map_nil]); first | done | rfl | (simp only [List.length_drop, List.length_take]; rfl)) ?_; (with_reducible refine (hansomref08_Bit.calls k1 a0 x13_1 t111 _ A9.out).mono ?_); rintro e w' ⟨rfl, ⟨nd, rfl⟩⟩; refine ⟨_, rfl, ?_⟩) | ((with_reducible refine gate_callee (f := 34) rfl ?_); refine goesL_ (some 29) rfl rfl Try.func34 (by kernel_rfl) rfl #[.int .u16 a1, .int .i64 x13_1] rfl (by (try simp only [List.map_toArray, List.map_cons, List.map_nil]); first | done | rfl | (simp only [List.length_drop, List.length_take]; rfl)) ?_; (with_reducible refine (hansomref08_Bit.calls k1 a1 x13_1 t112 _ A10.out).mono ?_); rintro e w' ⟨rfl, ⟨nd, rfl⟩⟩; refine ⟨_, rfl, ?_⟩) | ((with_reducible refine gate_builtin (b := .append) (xs := #[.tmp 33, .tmp 36]) rfl ?_); at_builtin; refine Kd.R_append (Kd.int .i64) (w0 := w) w.heap.size rfl (.tmp 33) (.tmp 36) 55 3 (.int .i64 0) 8 rfl Try.underlying55 info3 rfl (by decide) (by omega) u10 x10_1 (Int.tmod (wrap64 ((wrap64 (t111 + t112)) + x2_1)) 2) [.int .i64 (Int.tmod (wrap64 ((wrap64 (t111 + t112)) + x2_1)) 2)] (fun _ => True) (fun _ => False) rfl rfl ?aP (fun _ hk => hk.elim) ?aF ?aO ?aB ?aS ?aL ?_; (case aP => exact rfl); (case aB => exact (by repeat (first | (with_reducible first | exact HB.out | apply below_alloc | apply pw_below_drewN | apply below_drew1) | exact HB.out))); (case aF => exact (fun _ _ => trivial)); (case aO => exact (by (with_reducible repeat (first | apply Kd.R_alloc | apply Kd.R_drewN | apply Kd.R_drew)); exact HO_10.out)); (case aS => exact (below_size (by repeat (first | (with_reducible first | exact HB.out | apply below_alloc | apply pw_below_drewN | apply below_drew1) | exact HB.out)))); (case aL => have := LMc11.out; omega); intro v114 w14 ho hb hg hat; rw [← Ny113.out] at ho; have n0_ := Aside0.mk (hb); have n1_ := Aside0.mk (ho); clear HB; clear HO_10; have HB := n0_; have HO115 := n1_; clear n0_ n1_; clear ho hb hg hat))
              go_roundg k1
              case measure => have := HK1.out; omega
              case rel => exact ⟨(wrap64 (Int.tdiv (wrap64 ((wrap64 (t111 + t112)) + x2_1)) 2)), (y113), (x2_1), (IntKind.u16.wrap (x12_1 + 16)), (wrap64 (x13_1 + 1)), (by first | rfl | (simp; done) | (simp [*]; done)), (by first | rfl | (simp; done) | (simp [*]; done)), (by first | rfl | (simp; done) | (simp [*]; done)), (by first | rfl | (simp; done) | (simp [*]; done)), H', ⟨by have := HK1.out; omega⟩, ⟨by (with_reducible repeat (first | apply Kd.R_alloc | apply Kd.R_drewN | apply Kd.R_drew)); exact HO115.out⟩, ⟨by repeat (first | (with_reducible first | exact HB.out | apply below_alloc | apply pw_below_drewN | apply below_drew1) | exact HB.out)⟩⟩
            · rw [if_neg c13] at H
              have c13b0 : ((wrap64 (Int.tdiv (wrap64 ((wrap64 (t111 + t112)) + x2_1)) 2)) == 1) = false := beq_eq_false_iff_ne.mpr c13
              have c13b1 : ((wrap64 (Int.tdiv (wrap64 ((wrap64 (t111 + t112)) + x2_1)) 2)) != 1) = true := bne_iff_ne.mpr c13
              have H' := Aside0.mk H
              clear H
              go_wp2_with (first | ((with_reducible refine gate_callee (f := 14) rfl ?_); refine goesL_ (some 20) rfl rfl Try.func14 (by kernel_rfl) rfl #[.bool a3] rfl (by (try simp only [List.map_toArray, List.map_cons, List.map_nil]); first | done | rfl | (simp only [List.length_drop, List.length_take]; rfl)) ?_; (with_reducible refine (hansomref08_Size.calls a3 t110 _ A7.out).mono ?_); rintro e w' ⟨rfl, ⟨nd, rfl⟩⟩; refine ⟨_, rfl, ?_⟩) | ((with_reducible refine gate_callee (f := 34) rfl ?_); refine goesL_ (some 26) rfl rfl Try.func34 (by kernel_rfl) rfl #[.int .u16 a0, .int .i64 x13_1] rfl (by (try simp only [List.map_toArray, List.map_cons, List.map_nil]); first | done | rfl | (simp only [List.length_drop, List.length_take]; rfl)) ?_; (with_reducible refine (hansomref08_Bit.calls k1 a0 x13_1 t111 _ A9.out).mono ?_); rintro e w' ⟨rfl, ⟨nd, rfl⟩⟩; refine ⟨_, rfl, ?_⟩) | ((with_reducible refine gate_callee (f := 34) rfl ?_); refine goesL_ (some 29) rfl rfl Try.func34 (by kernel_rfl) rfl #[.int .u16 a1, .int .i64 x13_1] rfl (by (try simp only [List.map_toArray, List.map_cons, List.map_nil]); first | done | rfl | (simp only [List.length_drop, List.length_take]; rfl)) ?_; (with_reducible refine (hansomref08_Bit.calls k1 a1 x13_1 t112 _ A10.out).mono ?_); rintro e w' ⟨rfl, ⟨nd, rfl⟩⟩; refine ⟨_, rfl, ?_⟩) | ((with_reducible refine gate_builtin (b := .append) (xs := #[.tmp 33, .tmp 36]) rfl ?_); at_builtin; refine Kd.R_append (Kd.int .i64) (w0 := w) w.heap.size rfl (.tmp 33) (.tmp 36) 55 3 (.int .i64 0) 8 rfl Try.underlying55 info3 rfl (by decide) (by omega) u10 x10_1 (Int.tmod (wrap64 ((wrap64 (t111 + t112)) + x2_1)) 2) [.int .i64 (Int.tmod (wrap64 ((wrap64 (t111 + t112)) + x2_1)) 2)] (fun _ => True) (fun _ => False) rfl rfl ?aP (fun _ hk => hk.elim) ?aF ?aO ?aB ?aS ?aL ?_; (case aP => exact rfl); (case aB => exact (by repeat (first | (with_reducible first | exact HB.out | apply below_alloc | apply pw_below_drewN | apply below_drew1) | exact HB.out))); (case aF => exact (fun _ _ => trivial)); (case aO => exact (by (with_reducible repeat (first | apply Kd.R_alloc | apply Kd.R_drewN | apply Kd.R_drew)); exact HO_10.out)); (case aS => exact (below_size (by repeat (first | (with_reducible first | exact HB.out | apply below_alloc | apply pw_below_drewN | apply below_drew1) | exact HB.out)))); (case aL => have := LMc11.out; omega); intro v114 w15 ho hb hg hat; rw [← Ny113.out] at ho; have n0_ := Aside0.mk (hb); have n1_ := Aside0.mk (ho); clear HB; clear HO_10; have HB := n0_; have HO115 := n1_; clear n0_ n1_; clear ho hb hg hat))
              go_roundg k1
              case measure => have := HK1.out; omega
              case rel => exact ⟨(wrap64 (Int.tdiv (wrap64 ((wrap64 (t111 + t112)) + x2_1)) 2)), (y113), (x2_1), (x12_1), (wrap64 (x13_1 + 1)), (by first | rfl | (simp; done) | (simp [*]; done)), (by first | rfl | (simp; done) | (simp [*]; done)), (by first | rfl | (simp; done) | (simp [*]; done)), (by first | rfl | (simp; done) | (simp [*]; done)), H', ⟨by have := HK1.out; omega⟩, ⟨by (with_reducible repeat (first | apply Kd.R_alloc | apply Kd.R_drewN | apply Kd.R_drew)); exact HO115.out⟩, ⟨by repeat (first | (with_reducible first | exact HB.out | apply below_alloc | apply pw_below_drewN | apply below_drew1) | exact HB.out)⟩⟩
          · rw [if_neg c12] at H
            have c12b0 : (x13_1 == 3) = false := beq_eq_false_iff_ne.mpr c12
            have c12b1 : (x13_1 != 3) = true := bne_iff_ne.mpr c12
            have H' := Aside0.mk H
            clear H
            go_wp2_with (first | ((with_reducible refine gate_callee (f := 14) rfl ?_); refine goesL_ (some 20) rfl rfl Try.func14 (by kernel_rfl) rfl #[.bool a3] rfl (by (try simp only [List.map_toArray, List.map_cons, List.map_nil]); first | done | rfl | (simp only [List.length_drop, List.length_take]; rfl)) ?_; (with_reducible refine (hansomref08_Size.calls a3 t110 _ A7.out).mono ?_); rintro e w' ⟨rfl, ⟨nd, rfl⟩⟩; refine ⟨_, rfl, ?_⟩) | ((with_reducible refine gate_callee (f := 34) rfl ?_); refine goesL_ (some 26) rfl rfl Try.func34 (by kernel_rfl) rfl #[.int .u16 a0, .int .i64 x13_1] rfl (by (try simp only [List.map_toArray, List.map_cons, List.map_nil]); first | done | rfl | (simp only [List.length_drop, List.length_take]; rfl)) ?_; (with_reducible refine (hansomref08_Bit.calls k1 a0 x13_1 t111 _ A9.out).mono ?_); rintro e w' ⟨rfl, ⟨nd, rfl⟩⟩; refine ⟨_, rfl, ?_⟩) | ((with_reducible refine gate_callee (f := 34) rfl ?_); refine goesL_ (some 29) rfl rfl Try.func34 (by kernel_rfl) rfl #[.int .u16 a1, .int .i64 x13_1] rfl (by (try simp only [List.map_toArray, List.map_cons, List.map_nil]); first | done | rfl | (simp only [List.length_drop, List.length_take]; rfl)) ?_; (with_reducible refine (hansomref08_Bit.calls k1 a1 x13_1 t112 _ A10.out).mono ?_); rintro e w' ⟨rfl, ⟨nd, rfl⟩⟩; refine ⟨_, rfl, ?_⟩) | ((with_reducible refine gate_builtin (b := .append) (xs := #[.tmp 33, .tmp 36]) rfl ?_); at_builtin; refine Kd.R_append (Kd.int .i64) (w0 := w) w.heap.size rfl (.tmp 33) (.tmp 36) 55 3 (.int .i64 0) 8 rfl Try.underlying55 info3 rfl (by decide) (by omega) u10 x10_1 (Int.tmod (wrap64 ((wrap64 (t111 + t112)) + x2_1)) 2) [.int .i64 (Int.tmod (wrap64 ((wrap64 (t111 + t112)) + x2_1)) 2)] (fun _ => True) (fun _ => False) rfl rfl ?aP (fun _ hk => hk.elim) ?aF ?aO ?aB ?aS ?aL ?_; (case aP => exact rfl); (case aB => exact (by repeat (first | (with_reducible first | exact HB.out | apply below_alloc | apply pw_below_drewN | apply below_drew1) | exact HB.out))); (case aF => exact (fun _ _ => trivial)); (case aO => exact (by (with_reducible repeat (first | apply Kd.R_alloc | apply Kd.R_drewN | apply Kd.R_drew)); exact HO_10.out)); (case aS => exact (below_size (by repeat (first | (with_reducible first | exact HB.out | apply below_alloc | apply pw_below_drewN | apply below_drew1) | exact HB.out)))); (case aL => have := LMc11.out; omega); intro v114 w16 ho hb hg hat; rw [← Ny113.out] at ho; have n0_ := Aside0.mk (hb); have n1_ := Aside0.mk (ho); clear HB; clear HO_10; have HB := n0_; have HO115 := n1_; clear n0_ n1_; clear ho hb hg hat))
            go_roundg k1
            case measure => have := HK1.out; omega
            case rel => exact ⟨(wrap64 (Int.tdiv (wrap64 ((wrap64 (t111 + t112)) + x2_1)) 2)), (y113), (x2_1), (x12_1), (wrap64 (x13_1 + 1)), (by first | rfl | (simp; done) | (simp [*]; done)), (by first | rfl | (simp; done) | (simp [*]; done)), (by first | rfl | (simp; done) | (simp [*]; done)), (by first | rfl | (simp; done) | (simp [*]; done)), H', ⟨by have := HK1.out; omega⟩, ⟨by (with_reducible repeat (first | apply Kd.R_alloc | apply Kd.R_drewN | apply Kd.R_drew)); exact HO115.out⟩, ⟨by repeat (first | (with_reducible first | exact HB.out | apply below_alloc | apply pw_below_drewN | apply below_drew1) | exact HB.out)⟩⟩
        · rw [if_neg c11] at H
          exact absurd H (by simp)
      · rw [if_neg c8] at H
        have c8b0 : decide (x13_1 < t110) = false := decide_eq_false c8
        clear c8
        have HC17 := Aside0.mk H
        clear H
        go_upto_if 50 with (first | ((with_reducible refine gate_callee (f := 14) rfl ?_); refine goesL_ (some 20) rfl rfl Try.func14 (by kernel_rfl) rfl #[.bool a3] rfl (by (try simp only [List.map_toArray, List.map_cons, List.map_nil]); first | done | rfl | (simp only [List.length_drop, List.length_take]; rfl)) ?_; (with_reducible refine (hansomref08_Size.calls a3 t110 _ A7.out).mono ?_); rintro e w' ⟨rfl, ⟨nd, rfl⟩⟩; refine ⟨_, rfl, ?_⟩))
        (try simp only [Act.put, List.setIfInBounds_toArray, List.set_cons_zero, List.set_cons_succ])
        go_cut [12] (fun v12 wc => ∃ (kq : Nat) (x12_16 : Int), v12 = .int .u16 x12_16 ∧ Aside0 (hansomref08_Add.j1 kq x2_1 a3 x10_1 x11_1 x12_16 = some (r1, r2)) ∧ Aside0 (kq ≤ k1) ∧ Aside0 (Kd.R (Kd.int .i64) 3 wc w.heap.size (fun _ => True) u10 x10_1) ∧ Aside0 (Below w.heap.size w wc))
        case first =>
          have H := HC17.out
          clear HC17
          by_cases c18 : x2_1 = 1
          · rw [if_pos c18] at H
            have c18b0 : (x2_1 == 1) = true := beq_iff_eq.mpr c18
            have c18b1 : (x2_1 != 1) = false := bne_eq_false_iff_eq.mpr c18
            clear c18
            (first | rw [c18b0] | (simp only [i64_w, i32_w]; rw [c18b0]) | skip)
            have H' := Aside0.mk H
            clear H
            go_wp2
            go_meet
            case rel => exact ⟨_, (IntKind.u16.wrap (x12_1 + 1)), (by first | rfl | (simp; done) | (simp [*]; done)), H', ⟨by have := HK1.out; first | omega | exact Nat.le_refl _⟩, ⟨by (with_reducible repeat (first | apply Kd.R_alloc | apply Kd.R_drewN | apply Kd.R_drew)); exact HO_10.out⟩, ⟨by repeat (first | (with_reducible first | exact HB.out | apply below_alloc | apply pw_below_drewN | apply below_drew1) | exact HB.out)⟩⟩
          · rw [if_neg c18] at H
            have c18b0 : (x2_1 == 1) = false := beq_eq_false_iff_ne.mpr c18
            have c18b1 : (x2_1 != 1) = true := bne_iff_ne.mpr c18
            (first | rw [c18b0] | (simp only [i64_w, i32_w]; rw [c18b0]) | skip)
            have H' := Aside0.mk H
            clear H
            go_wp2
            go_meet
            case rel => exact ⟨_, (x12_1), (by first | rfl | (simp; done) | (simp [*]; done)), H', ⟨by have := HK1.out; first | omega | exact Nat.le_refl _⟩, ⟨by (with_reducible repeat (first | apply Kd.R_alloc | apply Kd.R_drewN | apply Kd.R_drew)); exact HO_10.out⟩, ⟨by repeat (first | (with_reducible first | exact HB.out | apply below_alloc | apply pw_below_drewN | apply below_drew1) | exact HB.out)⟩⟩
        case rest =>
          clear HC17
          try clear c1
          try clear c2
          try clear p2
          try clear c3
          try clear p6
          try clear c8
          try clear c8b0
          try clear c11
          try clear c12
          try clear c12b0
          try clear c12b1
          try clear c13
          try clear c13b0
          try clear c13b1
          try clear c14
          try clear c18
          try clear c18b0
          try clear c18b1
          try clear p2
          obtain ⟨kq, x12_16, rfl, HA, HJ16, HO_10, HB⟩ := hcut
          cases kq with
          | zero => exact absurd HA.out (by simp [hansomref08_Add.j1])
          | succ kj16 =>
            have H := HA.out
            clear HA
            simp only [hansomref08_Add.j1] at H
            by_cases c19 : x2_1 = x11_1
            · rw [if_pos c19] at H
              have c19b0 : (x2_1 == x11_1) = true := beq_iff_eq.mpr c19
              have c19b1 : (x2_1 != x11_1) = false := bne_eq_false_iff_eq.mpr c19
              clear c19
              replace H := Option.bind_eq_some_iff.mp H
              obtain ⟨t116, A200, H⟩ := H
              replace H : ((hansomref08_Signs.f kj16 t116 a3).bind fun t117 => (some (t116, IntKind.u16.wrap (x12_16 + t117)))) = some (r1, r2) := H
              have A20 := Aside0.mk A200
              clear A200
              replace H := Option.bind_eq_some_iff.mp H
              obtain ⟨t117, A210, H⟩ := H
              replace H : (some (t116, IntKind.u16.wrap (x12_16 + t117))) = some (r1, r2) := H
              have A21 := Aside0.mk A210
              clear A210
              simp only [Option.some.injEq, Prod.mk.injEq] at H
              obtain ⟨rfl, rfl⟩ := H
              obtain ⟨Ao22, co22, eo22⟩ := Kd.R_slice HO_10.out
              subst eo22
              go_wp2_with (first | ((with_reducible refine gate_callee (f := 40) rfl ?_); refine goesL_ (some 59) rfl rfl Try.func40 (by kernel_rfl) rfl #[.slice Ao22 x10_1.length co22] rfl (by (try simp only [List.map_toArray, List.map_cons, List.map_nil]); first | done | rfl | (simp only [List.length_drop, List.length_take]; rfl)) ?_; (with_reducible refine (hansomref08_of.calls kj16 _ _ x10_1 t116 _ ?side1 ?side2 A20.out).mono ?_); (case side1 => repeat (first | exact (Kd.R_reads' HO_10.out).2.2 | (with_reducible refine Kd.C_alloc ?_ _) | (with_reducible refine Kd.C_drewN ?_ _) | (with_reducible refine Kd.C_drew ?_))); (case side2 => exact (Kd.R_reads' HO_10.out).2.1); rintro e w' ⟨rfl, ⟨nd, rfl⟩⟩; refine ⟨_, rfl, ?_⟩) | ((with_reducible refine gate_callee (f := 19) rfl ?_); refine goesL_ (some 64) rfl rfl Try.func19 (by kernel_rfl) rfl #[.int .u16 t116, .bool a3] rfl (by (try simp only [List.map_toArray, List.map_cons, List.map_nil]); first | done | rfl | (simp only [List.length_drop, List.length_take]; rfl)) ?_; (with_reducible refine (hansomref08_Signs.calls kj16 t116 a3 t117 _ A21.out).mono ?_); rintro e w' ⟨rfl, ⟨nd, rfl⟩⟩; refine ⟨_, rfl, ?_⟩))
              go_ret2
              exact ⟨by first | rfl | (simp [errW_none, errW_some] <;> rfl) | (simp [*, errW_none, errW_some] <;> rfl), by repeat (first | (with_reducible first | exact HB.out | apply below_alloc | apply pw_below_drewN | apply below_drew1) | exact HB.out)⟩
            · rw [if_neg c19] at H
              have c19b0 : (x2_1 == x11_1) = false := beq_eq_false_iff_ne.mpr c19
              have c19b1 : (x2_1 != x11_1) = true := bne_iff_ne.mpr c19
              replace H := Option.bind_eq_some_iff.mp H
              obtain ⟨t118, A230, H⟩ := H
              replace H : ((hansomref08_Signs.f kj16 t118 a3).bind fun t119 => (some (t118, IntKind.u16.wrap ((IntKind.u16.wrap (x12_16 + 2048)) + t119)))) = some (r1, r2) := H
              have A23 := Aside0.mk A230
              clear A230
              replace H := Option.bind_eq_some_iff.mp H
              obtain ⟨t119, A240, H⟩ := H
              replace H : (some (t118, IntKind.u16.wrap ((IntKind.u16.wrap (x12_16 + 2048)) + t119))) = some (r1, r2) := H
              have A24 := Aside0.mk A240
              clear A240
              simp only [Option.some.injEq, Prod.mk.injEq] at H
              obtain ⟨rfl, rfl⟩ := H
              obtain ⟨Ao25, co25, eo25⟩ := Kd.R_slice HO_10.out
              subst eo25
              go_wp2_with (first | ((with_reducible refine gate_callee (f := 40) rfl ?_); refine goesL_ (some 59) rfl rfl Try.func40 (by kernel_rfl) rfl #[.slice Ao25 x10_1.length co25] rfl (by (try simp only [List.map_toArray, List.map_cons, List.map_nil]); first | done | rfl | (simp only [List.length_drop, List.length_take]; rfl)) ?_; (with_reducible refine (hansomref08_of.calls kj16 _ _ x10_1 t118 _ ?side1 ?side2 A23.out).mono ?_); (case side1 => repeat (first | exact (Kd.R_reads' HO_10.out).2.2 | (with_reducible refine Kd.C_alloc ?_ _) | (with_reducible refine Kd.C_drewN ?_ _) | (with_reducible refine Kd.C_drew ?_))); (case side2 => exact (Kd.R_reads' HO_10.out).2.1); rintro e w' ⟨rfl, ⟨nd, rfl⟩⟩; refine ⟨_, rfl, ?_⟩) | ((with_reducible refine gate_callee (f := 19) rfl ?_); refine goesL_ (some 64) rfl rfl Try.func19 (by kernel_rfl) rfl #[.int .u16 t118, .bool a3] rfl (by (try simp only [List.map_toArray, List.map_cons, List.map_nil]); first | done | rfl | (simp only [List.length_drop, List.length_take]; rfl)) ?_; (with_reducible refine (hansomref08_Signs.calls kj16 t118 a3 t119 _ A24.out).mono ?_); rintro e w' ⟨rfl, ⟨nd, rfl⟩⟩; refine ⟨_, rfl, ?_⟩))
              go_ret2
              exact ⟨by first | rfl | (simp [errW_none, errW_some] <;> rfl) | (simp [*, errW_none, errW_some] <;> rfl), by repeat (first | (with_reducible first | exact HB.out | apply below_alloc | apply pw_below_drewN | apply below_drew1) | exact HB.out)⟩

end Go.Proofs.Ytefdfcdgghoknaa.PDo
