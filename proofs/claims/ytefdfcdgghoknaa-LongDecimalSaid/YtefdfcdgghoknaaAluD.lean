/- alu.Do, alu.One and what they are held against, each by what it comes to. -/
import Derived.Test.YtefdfcdgghoknaaAluW
namespace Go.Proofs.Ytefdfcdgghoknaa.My
open Go.RowKit Go.Proofs.YtefdfcdgghoknaaW.PrintWords Go.Proofs.YtefdfcdgghoknaaW.PrintLast Go.Proofs.YtefdfcdgghoknaaW.PrintMore
set_option linter.unusedVariables false
set_option linter.unusedSimpArgs false

theorem cutN_M (v : Nat) (wide : Bool) : cutN v wide < MM wide := Nat.mod_lt _ (by unfold MM; cases wide <;> decide)
theorem r3 {k l : IntKind} {a b c d : Int} {x y : Bool} (h : a = c) (h2 : b = d) (h3 : x = y) : Ending.returned (.tuple #[.int k a, .int l b, .bool x]) = Ending.returned (.tuple #[.int k c, .int l d, .bool y]) := by rw [h, h2, h3]
set_option maxHeartbeats 4000000 in
theorem do_c (name : Int) (x y : Nat) (carry wide : Bool) (hx : x < 65536) (hy : y < 65536) (w : World) : Calls Try.prog 24 #[.int .i64 name, .int .u16 x, .int .u16 y, .bool carry, .bool wide] w fun e w' =>
    e = .returned (.tuple #[.int .u16 ((doN name x y carry wide).1 : Nat), .int .u16 ((doN name x y carry wide).2.1 : Nat), .bool (doN name x y carry wide).2.2]) ∧ w = w' := by
  have HD : Aside0 (doN name x y carry wide = doN name x y carry wide) := ⟨rfl⟩
  have ha := cutN_M x wide
  have hb := cutN_M y wide
  have hle := MM_le wide
  have ft : flagV 1 true = 1 := rfl
  have ff : flagV 1 false = 0 := rfl
  have ho := u16_or_nat (cutN x wide) (cutN y wide) (by omega) (by omega)
  have hn := u16_and_nat (cutN x wide) (cutN y wide) (by omega) (by omega)
  have hx2 := u16_xor_nat (cutN x wide) (cutN y wide) (by omega) (by omega)
  have l1 : cutN x wide ||| cutN y wide < 65536 := Nat.or_lt_two_pow (n := 16) (by omega) (by omega)
  have l2 : cutN x wide &&& cutN y wide < 65536 := Nat.and_lt_two_pow (n := 16) _ (by omega)
  have l3 : cutN x wide ^^^ cutN y wide < 65536 := Nat.xor_lt_two_pow (n := 16) (by omega) (by omega)
  by_cases n1 : name = 1
  · subst n1
    go_enter Try.func24, Try.ntmps24
    go_wp2_with (first
          | (go_at_call 29; refine (cut_c _ _ (by omega) _).mono ?_; rintro e w' ⟨rfl, rfl⟩)
          | (go_at_call 41; refine (flag_c _ _ _).mono ?_; rintro e w' ⟨rfl, rfl⟩)
          | (go_at_call 42; refine (sum_c _ _ 0 wide ha hb (by omega) _).mono ?_; rintro e w' ⟨rfl, rfl⟩))
    go_ret3
    exact ⟨rfl, rfl⟩
  by_cases n3 : name = 3
  · subst n3
    cases carry
    · go_enter Try.func24, Try.ntmps24
      go_wp2_with (first
            | (go_at_call 29; refine (cut_c _ _ (by omega) _).mono ?_; rintro e w' ⟨rfl, rfl⟩)
            | (go_at_call 41; refine (flag_c _ _ _).mono ?_; rintro e w' ⟨rfl, rfl⟩)
            | (go_at_call 42; refine (sum_c _ _ 0 wide ha hb (by omega) _).mono ?_; rintro e w' ⟨rfl, rfl⟩))
      go_ret3
      exact ⟨rfl, rfl⟩
    · go_enter Try.func24, Try.ntmps24
      go_wp2_with (first
            | (go_at_call 29; refine (cut_c _ _ (by omega) _).mono ?_; rintro e w' ⟨rfl, rfl⟩)
            | (go_at_call 41; refine (flag_c _ _ _).mono ?_; rintro e w' ⟨rfl, rfl⟩)
            | (go_at_call 42; refine (sum_c _ _ 1 wide ha hb (by omega) _).mono ?_; rintro e w' ⟨rfl, rfl⟩))
      go_ret3
      exact ⟨rfl, rfl⟩
  by_cases n6 : name = 6
  · subst n6
    go_enter Try.func24, Try.ntmps24
    go_wp2_with (first
          | (go_at_call 29; refine (cut_c _ _ (by omega) _).mono ?_; rintro e w' ⟨rfl, rfl⟩)
          | (go_at_call 41; refine (flag_c _ _ _).mono ?_; rintro e w' ⟨rfl, rfl⟩)
          | (go_at_call 43; refine (less_c _ _ 0 wide ha hb (by omega) _).mono ?_; rintro e w' ⟨rfl, rfl⟩))
    go_ret3
    exact ⟨rfl, rfl⟩
  by_cases n8 : name = 8
  · subst n8
    go_enter Try.func24, Try.ntmps24
    go_wp2_with (first
          | (go_at_call 29; refine (cut_c _ _ (by omega) _).mono ?_; rintro e w' ⟨rfl, rfl⟩)
          | (go_at_call 41; refine (flag_c _ _ _).mono ?_; rintro e w' ⟨rfl, rfl⟩)
          | (go_at_call 43; refine (less_c _ _ 0 wide ha hb (by omega) _).mono ?_; rintro e w' ⟨rfl, rfl⟩))
    go_ret3
    exact ⟨rfl, rfl⟩
  by_cases n4 : name = 4
  · subst n4
    cases carry
    · go_enter Try.func24, Try.ntmps24
      go_wp2_with (first
            | (go_at_call 29; refine (cut_c _ _ (by omega) _).mono ?_; rintro e w' ⟨rfl, rfl⟩)
            | (go_at_call 41; refine (flag_c _ _ _).mono ?_; rintro e w' ⟨rfl, rfl⟩)
            | (go_at_call 43; refine (less_c _ _ 0 wide ha hb (by omega) _).mono ?_; rintro e w' ⟨rfl, rfl⟩))
      go_ret3
      exact ⟨rfl, rfl⟩
    · go_enter Try.func24, Try.ntmps24
      go_wp2_with (first
            | (go_at_call 29; refine (cut_c _ _ (by omega) _).mono ?_; rintro e w' ⟨rfl, rfl⟩)
            | (go_at_call 41; refine (flag_c _ _ _).mono ?_; rintro e w' ⟨rfl, rfl⟩)
            | (go_at_call 43; refine (less_c _ _ 1 wide ha hb (by omega) _).mono ?_; rintro e w' ⟨rfl, rfl⟩))
      go_ret3
      exact ⟨rfl, rfl⟩
  by_cases n2 : name = 2
  · subst n2
    go_enter Try.func24, Try.ntmps24
    go_wp2_with (first
          | (go_at_call 29; refine (cut_c _ _ (by omega) _).mono ?_; rintro e w' ⟨rfl, rfl⟩)
          | (go_at_call 41; refine (flag_c _ _ _).mono ?_; rintro e w' ⟨rfl, rfl⟩)
          | (go_at_call 27; refine (signs_c _ wide l1 _).mono ?_; rintro e w' ⟨rfl, rfl⟩))
    go_ret3
    exact ⟨rfl, rfl⟩
  by_cases n5 : name = 5
  · subst n5
    go_enter Try.func24, Try.ntmps24
    go_wp2_with (first
          | (go_at_call 29; refine (cut_c _ _ (by omega) _).mono ?_; rintro e w' ⟨rfl, rfl⟩)
          | (go_at_call 41; refine (flag_c _ _ _).mono ?_; rintro e w' ⟨rfl, rfl⟩)
          | (go_at_call 27; refine (signs_c _ wide l2 _).mono ?_; rintro e w' ⟨rfl, rfl⟩))
    go_ret3
    exact ⟨rfl, rfl⟩
  by_cases n33 : name = 33
  · subst n33
    go_enter Try.func24, Try.ntmps24
    go_wp2_with (first
          | (go_at_call 29; refine (cut_c _ _ (by omega) _).mono ?_; rintro e w' ⟨rfl, rfl⟩)
          | (go_at_call 41; refine (flag_c _ _ _).mono ?_; rintro e w' ⟨rfl, rfl⟩)
          | (go_at_call 27; refine (signs_c _ wide l2 _).mono ?_; rintro e w' ⟨rfl, rfl⟩))
    go_ret3
    exact ⟨rfl, rfl⟩
  by_cases n7 : name = 7
  · subst n7
    go_enter Try.func24, Try.ntmps24
    go_wp2_with (first
          | (go_at_call 29; refine (cut_c _ _ (by omega) _).mono ?_; rintro e w' ⟨rfl, rfl⟩)
          | (go_at_call 41; refine (flag_c _ _ _).mono ?_; rintro e w' ⟨rfl, rfl⟩)
          | (go_at_call 27; refine (signs_c _ wide l3 _).mono ?_; rintro e w' ⟨rfl, rfl⟩))
    go_ret3
    exact ⟨rfl, rfl⟩
  have hd : doN name x y carry wide = (0, 0, false) := by unfold doN; simp [n1, n3, n6, n8, n4, n2, n5, n33, n7]
  have HK := Aside0.mk hd
  clear hd HD
  have q1 : (name == 1) = false := by rw [beq_eq_false_iff_ne]; exact n1
  have q3 : (name == 3) = false := by rw [beq_eq_false_iff_ne]; exact n3
  have q6 : (name == 6) = false := by rw [beq_eq_false_iff_ne]; exact n6
  have q8 : (name == 8) = false := by rw [beq_eq_false_iff_ne]; exact n8
  have q4 : (name == 4) = false := by rw [beq_eq_false_iff_ne]; exact n4
  have q2 : (name == 2) = false := by rw [beq_eq_false_iff_ne]; exact n2
  have q5 : (name == 5) = false := by rw [beq_eq_false_iff_ne]; exact n5
  have q33 : (name == 33) = false := by rw [beq_eq_false_iff_ne]; exact n33
  have q7 : (name == 7) = false := by rw [beq_eq_false_iff_ne]; exact n7
  clear n1 n3 n6 n8 n4 n2 n5 n33 n7
  go_enter Try.func24, Try.ntmps24
  go_wp2_with (first
        | (go_at_call 29; refine (cut_c _ _ (by omega) _).mono ?_; rintro e w' ⟨rfl, rfl⟩)
        | (go_at_call 41; refine (flag_c _ _ _).mono ?_; rintro e w' ⟨rfl, rfl⟩))
  go_ret3
  exact ⟨by rw [HK.out]; rfl, rfl⟩

/-- All bits of a word turned. -/
def notV (n : Int) : Int := Go.bits .xor .u16 IntKind.u16.max n
theorem unary_not16 (n : Int) : Op.unary .xor (.int .u16 n) = pure (.int .u16 (notV n)) := rfl
attribute [local go_sem high] unary_not16
theorem notV_nat (n : Nat) (h : n < 65536) : notV n = ((65535 - n : Nat) : Int) := by
  have hm : IntKind.u16.max = ((65535 : Nat) : Int) := by decide +kernel
  unfold notV
  rw [hm, u16_xor_nat _ _ (by omega) h]
  congr 1
  apply Nat.eq_of_testBit_eq
  intro i
  have hs := Nat.testBit_two_pow_sub_succ (x := n) (n := 16) (by omega) i
  rw [show 2 ^ 16 - (n + 1) = 65535 - n by omega] at hs
  rw [hs, Nat.testBit_xor, show (65535 : Nat) = 2 ^ 16 - 1 from rfl, Nat.testBit_two_pow_sub_one]
  by_cases hi : i < 16
  · simp [hi]
  · have : n.testBit i = false := Nat.testBit_lt_two_pow (Nat.lt_of_lt_of_le h (Nat.pow_le_pow_right (n := 2) (i := 16) (by decide) (by omega)))
    simp [hi, this]
def oneV (name : Int) (x was : Nat) (wide : Bool) : Int × Int × Bool :=
  if name = 15 then ((cutN (cutN x wide + 1 + 0) wide : Nat), Go.bits .or .u16 (Go.bits .andNot .u16 (addF (cutN x wide) 1 0 wide : Nat) 1) (Go.bits .and .u16 was 1), true)
  else if name = 16 then ((cutN (subS (cutN x wide) 1 0) wide : Nat), Go.bits .or .u16 (Go.bits .andNot .u16 (subF (cutN x wide) 1 0 wide : Nat) 1) (Go.bits .and .u16 was 1), true)
  else if name = 84 then ((cutN (65535 - cutN x wide) wide : Nat), Go.bits .and .u16 was 2261, true)
  else if name = 85 then ((cutN (subS 0 (cutN x wide) 0) wide : Nat), (subF 0 (cutN x wide) 0 wide : Nat), true)
  else (0, 0, false)
set_option maxHeartbeats 4000000 in
theorem one_c (name : Int) (x was : Nat) (wide : Bool) (hx : x < 65536) (hw : was < 65536) (w : World) : Calls Try.prog 28 #[.int .i64 name, .int .u16 x, .int .u16 was, .bool wide] w fun e w' =>
    e = .returned (.tuple #[.int .u16 (oneV name x was wide).1, .int .u16 (oneV name x was wide).2.1, .bool (oneV name x was wide).2.2]) ∧ w = w' := by
  have ha := cutN_M x wide
  have hle := MM_le wide
  have h1 : 1 < MM wide := by unfold MM; cases wide <;> decide
  have h0 : 0 < MM wide := by omega
  have hci := cutN_b x wide
  by_cases n15 : name = 15
  · subst n15
    go_enter Try.func28, Try.ntmps28
    go_wp2_with (first
      | (go_at_call 29; refine (cut_c _ _ (by omega) _).mono ?_; rintro e w' ⟨rfl, rfl⟩)
      | (go_at_call 42; refine (sum_c _ 1 0 wide ha h1 (by omega) _).mono ?_; rintro e w' ⟨rfl, rfl⟩))
    go_ret3
    exact ⟨rfl, rfl⟩
  by_cases n16 : name = 16
  · subst n16
    go_enter Try.func28, Try.ntmps28
    go_wp2_with (first
      | (go_at_call 29; refine (cut_c _ _ (by omega) _).mono ?_; rintro e w' ⟨rfl, rfl⟩)
      | (go_at_call 43; refine (less_c _ 1 0 wide ha h1 (by omega) _).mono ?_; rintro e w' ⟨rfl, rfl⟩))
    go_ret3
    exact ⟨rfl, rfl⟩
  by_cases n85 : name = 85
  · subst n85
    go_enter Try.func28, Try.ntmps28
    go_wp2_with (first
      | (go_at_call 29; refine (cut_c _ _ (by omega) _).mono ?_; rintro e w' ⟨rfl, rfl⟩)
      | (go_at_call 43; refine (less_c 0 _ 0 wide h0 ha (by omega) _).mono ?_; rintro e w' ⟨rfl, rfl⟩))
    go_ret3
    exact ⟨rfl, rfl⟩
  by_cases n84 : name = 84
  · subst n84
    go_enter Try.func28, Try.ntmps28
    go_wp2_with fail
    refine (cut_c _ _ (by omega) _).mono ?_
    rintro e w' ⟨rfl, rfl⟩
    have hnv := notV_nat (cutN x wide) (cutN_lt x wide)
    go_wp2_with fail
    refine (cut_c _ _ (by omega) _).mono ?_
    rintro e w' ⟨rfl, rfl⟩
    go_wp2_with fail
    go_ret3
    exact ⟨rfl, rfl⟩
  have hd : oneV name x was wide = (0, 0, false) := by unfold oneV; simp [n15, n16, n84, n85]
  have HK := Aside0.mk hd
  clear hd
  have q1 : (name == 15) = false := by rw [beq_eq_false_iff_ne]; exact n15
  have q2 : (name == 16) = false := by rw [beq_eq_false_iff_ne]; exact n16
  have q3 : (name == 84) = false := by rw [beq_eq_false_iff_ne]; exact n84
  have q4 : (name == 85) = false := by rw [beq_eq_false_iff_ne]; exact n85
  clear n15 n16 n84 n85
  go_enter Try.func28, Try.ntmps28
  go_wp2_with (first
    | (go_at_call 29; refine (cut_c _ _ (by omega) _).mono ?_; rintro e w' ⟨rfl, rfl⟩))
  go_ret3
  exact ⟨by rw [HK.out]; rfl, rfl⟩
end Go.Proofs.Ytefdfcdgghoknaa.My
