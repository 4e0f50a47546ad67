/- The walks of the laws AluDoes, AluOne and AluBack: each returns true at every input. -/
import Derived.Test.YtefdfcdgghoknaaAluD
namespace Go.Proofs.Ytefdfcdgghoknaa.My
open Go.RowKit Go.Proofs.YtefdfcdgghoknaaW.PrintWords Go.Proofs.YtefdfcdgghoknaaW.PrintLast Go.Proofs.YtefdfcdgghoknaaW.PrintMore Go.Proofs.Ytefdfcdgghoknaa.PDo
set_option linter.unusedVariables false
set_option linter.unusedSimpArgs false

theorem rdo_c (name : Int) (x y : Nat) (carry wide : Bool) (hx : x < 65536) (hy : y < 65536) (w : World) : Calls Try.prog 25 #[.int .i64 name, .int .u16 x, .int .u16 y, .bool carry, .bool wide] w fun e w' =>
    e = .returned (.tuple #[.int .u16 ((doN name x y carry wide).1 : Nat), .int .u16 ((doN name x y carry wide).2.1 : Nat), .bool (doN name x y carry wide).2.2]) ∧ Below w.heap.size w w' :=
  hansomref08_Do.calls 400 name x y carry wide _ _ _ w (do_f name x y carry wide hx hy 400 (by omega))
theorem radd_c (a b c : Nat) (wide : Bool) (ha : a < 65536) (hb : b < 65536) (hc : c ≤ 1) (w : World) : Calls Try.prog 22 #[.int .u16 a, .int .u16 b, .int .i64 c, .bool wide] w fun e w' =>
    e = .returned (.tuple #[.int .u16 (cutN (a + b + c) wide : Nat), .int .u16 (addF a b c wide : Nat)]) ∧ Below w.heap.size w w' :=
  hansomref08_Add.calls 400 a b c wide _ _ w (add_f a b c wide ha hb hc 400 (by omega))
theorem rsub_c (a b c : Nat) (wide : Bool) (ha : a < 65536) (hb : b < 65536) (hc : c ≤ 1) (w : World) : Calls Try.prog 23 #[.int .u16 a, .int .u16 b, .int .i64 c, .bool wide] w fun e w' =>
    e = .returned (.tuple #[.int .u16 (cutN (subS a b c) wide : Nat), .int .u16 (subF a b c wide : Nat)]) ∧ Below w.heap.size w w' :=
  hansomref08_Sub.calls 400 a b c wide _ _ w (sub_f a b c wide ha hb hc 400 (by omega))
theorem rcut_c (v : Nat) (wide : Bool) (hv : v < 65536) (w : World) : Calls Try.prog 15 #[.int .u16 v, .bool wide] w fun e w' => e = .returned (.int .u16 (cutN v wide : Nat)) ∧ Drawn0 w w' :=
  hansomref08_Cut.calls v wide _ w (cut_f v wide hv)
theorem rsigns_c (v : Nat) (wide : Bool) (hv : v < 65536) (w : World) : Calls Try.prog 19 #[.int .u16 v, .bool wide] w fun e w' => e = .returned (.int .u16 (signsN v wide : Nat)) ∧ Drawn0 w w' :=
  hansomref08_Signs.calls 400 v wide _ w (signs_f v 400 wide hv (by omega))

theorem quiet_eq {P : Program} {f : FuncId} {args : Array Value} {w : World} {n : Nat} {v : Value} (h : Calls P f args (w.drewN n) fun e w' => e = .returned v ∧ w.drewN n = w') : Calls P f args (w.drewN n) fun e w'' => e = .returned v ∧ ∃ m, w'' = w.drewN m :=
  h.mono fun _ _ ⟨he, hm⟩ => ⟨he, n, hm.symm⟩
theorem quiet_dr {P : Program} {f : FuncId} {args : Array Value} {w : World} {n : Nat} {v : Value} (h : Calls P f args (w.drewN n) fun e w' => e = .returned v ∧ Drawn0 (w.drewN n) w') : Calls P f args (w.drewN n) fun e w'' => e = .returned v ∧ ∃ m, w'' = w.drewN m :=
  h.mono fun _ _ ⟨he, ⟨m, hm⟩⟩ => ⟨he, n + m, by rw [hm, World.drewN_drewN]⟩
theorem awake08_c (w : World) : Calls Try.prog 26 #[] w fun e w' => e = .returned (.bool true) ∧ w = w' := by
  have hd : doN 1 127 1 false false = (128, 2192, true) := by decide +kernel
  have hc : cutN 511 false = 255 := by decide +kernel
  go_enter Try.func26, Try.ntmps26
  go_wp2_with (first
    | (go_at_call 24; refine (do_c 1 127 1 false false (by omega) (by omega) _).mono ?_; rintro e w' ⟨rfl, rfl⟩)
    | (go_at_call 29; refine (cut_c 511 false (by omega) _).mono ?_; rintro e w' ⟨rfl, rfl⟩))
  go_ret
  exact ⟨rfl, rfl⟩

set_option maxRecDepth 100000 in
set_option maxHeartbeats 2000000 in
theorem aluDoes_w (name a b how : Int) (w : World) (wn : (Lit.int .i64 name).wf = true) (wa : (Lit.int .u16 a).wf = true) (wb : (Lit.int .u16 b).wf = true) (wh : (Lit.int .i64 how).wf = true) :
    Calls Try.prog 7 #[.int .i64 name, .agg #[.int .u16 a, .int .u16 b], .int .i64 how] w fun e w' => e = .returned (.bool true) ∧ Below w.heap.size w w' := by
  obtain ⟨a0, a1⟩ := wf_u16 wa
  obtain ⟨b0, b1⟩ := wf_u16 wb
  clear wa wb wn wh
  obtain ⟨a, rfl⟩ := Int.eq_ofNat_of_zero_le a0
  obtain ⟨b, rfl⟩ := Int.eq_ofNat_of_zero_le b0
  have hm := i64_mask 8 (by omega) name
  simp at hm
  clear a0 b0
  cases h4 : decide (0 < Go.bits .and .i64 how 4)
  · clear hm
    go_enter Try.func7, Try.ntmps7
    go_wp2_with fail
    refine (do_c _ _ _ _ _ (by omega) (by omega) _).mono ?_
    rintro e w' ⟨rfl, rfl⟩
    go_wp2_with fail
    refine (rdo_c _ _ _ _ _ (by omega) (by omega) _).mono ?_
    rintro e w1 ⟨rfl, hb⟩
    have c0 := (hb.cell (p := ⟨w.heap.size, 0, none⟩) (by simp))
    have c1 := (hb.cell (p := ⟨w.heap.size, 1, none⟩) (by simp))
    have HB := Aside0.mk hb
    clear hb
    have d0 : w1.cell? ⟨w.heap.size, 0, none⟩ = some (.int .u16 a) := by rw [c0]; simp
    have d1 : w1.cell? ⟨w.heap.size, 1, none⟩ = some (.int .u16 b) := by rw [c1]; simp
    clear c0 c1
    go_wp2_with fail
    go_quiet ((first
      | (go_at_call 26; exact quiet_eq (awake08_c _))
      | (go_at_call 27; exact quiet_eq (signs_c _ _ (by omega) _))
      | (go_at_call 19; exact quiet_dr (rsigns_c _ _ (by omega) _))))
    go_wp2
    go_ret
    exact ⟨rfl, pw_below_drewN (below_then (below_alloc (Below.refl _ _) _) (by simp) HB.out) _⟩
  · cases hk : (name % 256 % 9 + 1 == 9)
    all_goals
      go_enter Try.func7, Try.ntmps7
      go_wp2_with fail
      refine (do_c _ _ _ _ _ (by omega) (by omega) _).mono ?_
      rintro e w' ⟨rfl, rfl⟩
      go_wp2_with fail
      refine (rdo_c _ _ _ _ _ (by omega) (by omega) _).mono ?_
      rintro e w1 ⟨rfl, hb⟩
      have c0 := (hb.cell (p := ⟨w.heap.size, 0, none⟩) (by simp))
      have c1 := (hb.cell (p := ⟨w.heap.size, 1, none⟩) (by simp))
      have HB := Aside0.mk hb
      clear hb
      have d0 : w1.cell? ⟨w.heap.size, 0, none⟩ = some (.int .u16 a) := by rw [c0]; simp
      have d1 : w1.cell? ⟨w.heap.size, 1, none⟩ = some (.int .u16 b) := by rw [c1]; simp
      clear c0 c1
      go_wp2_with fail
      go_quiet ((first
        | (go_at_call 26; exact quiet_eq (awake08_c _))
        | (go_at_call 27; exact quiet_eq (signs_c _ _ (by omega) _))
        | (go_at_call 19; exact quiet_dr (rsigns_c _ _ (by omega) _))))
      go_wp2
      go_ret
      exact ⟨rfl, pw_below_drewN (below_then (below_alloc (Below.refl _ _) _) (by simp) HB.out) _⟩

set_option maxRecDepth 100000 in
set_option maxHeartbeats 4000000 in
theorem aluOne_w (name a b : Int) (wide : Bool) (w : World) (wn : (Lit.int .i64 name).wf = true) (wa : (Lit.int .u16 a).wf = true) (wb : (Lit.int .u16 b).wf = true) :
    Calls Try.prog 8 #[.int .i64 name, .agg #[.int .u16 a, .int .u16 b], .bool wide] w fun e w' => e = .returned (.bool true) ∧ Below w.heap.size w w' := by
  obtain ⟨a0, a1⟩ := wf_u16 wa
  obtain ⟨b0, b1⟩ := wf_u16 wb
  clear wa wb wn
  obtain ⟨a, rfl⟩ := Int.eq_ofNat_of_zero_le a0
  obtain ⟨b, rfl⟩ := Int.eq_ofNat_of_zero_le b0
  clear a0 b0
  have ha := cutN_M a wide
  have hle := MM_le wide
  have hci := cutN_b a wide
  by_cases n15 : name = 15
  · subst n15
    have e1 : (oneV 15 a b wide).1 = ((cutN (cutN a wide + 1) wide : Nat) : Int) := rfl
    have e2 : (oneV 15 a b wide).2.1 = Go.bits .or .u16 (Go.bits .andNot .u16 ((addF (cutN a wide) 1 0 wide : Nat) : Int) 1) (Go.bits .and .u16 b 1) := rfl
    have e3 : (oneV 15 a b wide).2.2 = true := rfl
    go_enter Try.func8, Try.ntmps8
    go_wp2_with fail
    go_quiet ((go_at_call 15; exact quiet_dr (rcut_c _ _ (by omega) _)))
    go_wp2_with fail
    refine (radd_c _ 1 0 wide (by omega) (by omega) (by omega) _).mono ?_
    rintro e w1 ⟨rfl, hb⟩
    have c0 := (hb.cell (p := ⟨w.heap.size, 0, none⟩) (by simp))
    have HB := Aside0.mk hb
    clear hb
    have d0 : w1.cell? ⟨w.heap.size, 0, none⟩ = some (.int .u16 a) := by rw [c0]; simp
    clear c0
    go_wp2_with fail
    refine (one_c _ _ _ _ (by omega) (by omega) _).mono ?_
    rintro e w' ⟨rfl, rfl⟩
    go_wp2_with (first | (go_at_call 26; refine (awake08_c _).mono ?_; rintro e w' ⟨rfl, rfl⟩))
    go_ret
    exact ⟨rfl, below_then (pw_below_drewN (below_alloc (Below.refl _ _) _) _) (by simp) HB.out⟩
  by_cases n16 : name = 16
  · subst n16
    have e1 : (oneV 16 a b wide).1 = ((cutN (subS (cutN a wide) 1 0) wide : Nat) : Int) := rfl
    have e2 : (oneV 16 a b wide).2.1 = Go.bits .or .u16 (Go.bits .andNot .u16 ((subF (cutN a wide) 1 0 wide : Nat) : Int) 1) (Go.bits .and .u16 b 1) := rfl
    have e3 : (oneV 16 a b wide).2.2 = true := rfl
    go_enter Try.func8, Try.ntmps8
    go_wp2_with fail
    go_quiet ((go_at_call 15; exact quiet_dr (rcut_c _ _ (by omega) _)))
    go_wp2_with fail
    refine (rsub_c _ 1 0 wide (by omega) (by omega) (by omega) _).mono ?_
    rintro e w1 ⟨rfl, hb⟩
    have c0 := (hb.cell (p := ⟨w.heap.size, 0, none⟩) (by simp))
    have HB := Aside0.mk hb
    clear hb
    have d0 : w1.cell? ⟨w.heap.size, 0, none⟩ = some (.int .u16 a) := by rw [c0]; simp
    clear c0
    go_wp2_with fail
    refine (one_c _ _ _ _ (by omega) (by omega) _).mono ?_
    rintro e w' ⟨rfl, rfl⟩
    go_wp2_with (first | (go_at_call 26; refine (awake08_c _).mono ?_; rintro e w' ⟨rfl, rfl⟩))
    go_ret
    exact ⟨rfl, below_then (pw_below_drewN (below_alloc (Below.refl _ _) _) _) (by simp) HB.out⟩
  by_cases n85 : name = 85
  · subst n85
    have e1 : (oneV 85 a b wide).1 = ((cutN (subS 0 (cutN a wide) 0) wide : Nat) : Int) := rfl
    have e2 : (oneV 85 a b wide).2.1 = ((subF 0 (cutN a wide) 0 wide : Nat) : Int) := rfl
    have e3 : (oneV 85 a b wide).2.2 = true := rfl
    go_enter Try.func8, Try.ntmps8
    go_wp2_with fail
    go_quiet ((go_at_call 15; exact quiet_dr (rcut_c _ _ (by omega) _)))
    go_wp2_with fail
    refine (rsub_c 0 _ 0 wide (by omega) (by omega) (by omega) _).mono ?_
    rintro e w1 ⟨rfl, hb⟩
    have c0 := (hb.cell (p := ⟨w.heap.size, 0, none⟩) (by simp))
    have HB := Aside0.mk hb
    clear hb
    have d0 : w1.cell? ⟨w.heap.size, 0, none⟩ = some (.int .u16 a) := by rw [c0]; simp
    clear c0
    go_wp2_with fail
    refine (one_c _ _ _ _ (by omega) (by omega) _).mono ?_
    rintro e w' ⟨rfl, rfl⟩
    go_wp2_with (first | (go_at_call 26; refine (awake08_c _).mono ?_; rintro e w' ⟨rfl, rfl⟩))
    go_ret
    exact ⟨rfl, below_then (pw_below_drewN (below_alloc (Below.refl _ _) _) _) (by simp) HB.out⟩
  by_cases n84 : name = 84
  · subst n84
    have e1 : (oneV 84 a b wide).1 = ((cutN (65535 - cutN a wide) wide : Nat) : Int) := rfl
    have e2 : (oneV 84 a b wide).2.1 = Go.bits .and .u16 b 2261 := rfl
    have e3 : (oneV 84 a b wide).2.2 = true := rfl
    have hn : (65535 : Int) - (cutN a wide : Nat) = ((65535 - cutN a wide : Nat) : Int) := by omega
    go_enter Try.func8, Try.ntmps8
    go_wp2_with fail
    go_quiet ((go_at_call 15; exact quiet_dr (rcut_c _ _ (by omega) _)))
    go_wp2_with fail
    refine (rcut_c _ _ (by omega) _).mono ?_
    rintro e w' ⟨rfl, ⟨n2, rfl⟩⟩
    go_wp2_with fail
    refine (one_c _ _ _ _ (by omega) (by omega) _).mono ?_
    rintro e w' ⟨rfl, rfl⟩
    go_wp2_with (first | (go_at_call 26; refine (awake08_c _).mono ?_; rintro e w' ⟨rfl, rfl⟩))
    go_ret
    exact ⟨rfl, by repeat (first | exact Below.refl _ _ | apply pw_below_drewN | apply below_alloc)⟩
  have hd : oneV name a b wide = (0, 0, false) := by unfold oneV; simp [n15, n16, n84, n85]
  have e1 : (oneV name a b wide).1 = 0 := by rw [hd]
  have e2 : (oneV name a b wide).2.1 = 0 := by rw [hd]
  have e3 : (oneV name a b wide).2.2 = false := by rw [hd]
  clear hd
  have q15 : (name == 15) = false := by rw [beq_eq_false_iff_ne]; exact n15
  have q16 : (name == 16) = false := by rw [beq_eq_false_iff_ne]; exact n16
  have q84 : (name == 84) = false := by rw [beq_eq_false_iff_ne]; exact n84
  have q85 : (name == 85) = false := by rw [beq_eq_false_iff_ne]; exact n85
  clear n15 n16 n84 n85
  go_enter Try.func8, Try.ntmps8
  go_wp2_with fail
  go_quiet ((go_at_call 15; exact quiet_dr (rcut_c _ _ (by omega) _)))
  go_wp2_with fail
  refine (one_c _ _ _ _ (by omega) (by omega) _).mono ?_
  rintro e w' ⟨rfl, rfl⟩
  go_wp2_with (first | (go_at_call 26; refine (awake08_c _).mono ?_; rintro e w' ⟨rfl, rfl⟩))
  go_ret
  exact ⟨rfl, by repeat (first | exact Below.refl _ _ | apply pw_below_drewN | apply below_alloc)⟩
end Go.Proofs.Ytefdfcdgghoknaa.My
