/- The walk of the law FloatIs: it returns true at every input. -/
import Derived.Test.YtdhingmjnhhjnaaFloatI0
import Derived.Test.YtdhingmjnhhjnaaFloatI1
import Derived.Test.YtdhingmjnhhjnaaFloatI2
import Derived.Test.YtdhingmjnhhjnaaFloatI3
namespace Go.Proofs.Ytdhingmjnhhjnaa.My
open Go.RowKit Go.Proofs.YtdhingmjnhhjnaaW.PrintWords Go.Proofs.YtdhingmjnhhjnaaW.PrintLast Go.Proofs.YtdhingmjnhhjnaaW.PrintMore Go.Proofs.Ytdhingmjnhhjnaa.PFloatIs
set_option linter.unusedVariables false
set_option linter.unusedSimpArgs false
theorem top_bit63 (b : Nat) (hb : b < 18446744073709551616) : Go.bits .and .u64 (b : Int) 9223372036854775808 = ((b / 9223372036854775808 * 9223372036854775808 : Nat) : Int) := by
  have h := u64_and_nat b 9223372036854775808 hb (by omega)
  rw [show ((9223372036854775808 : Nat) : Int) = 9223372036854775808 from rfl] at h
  rw [h, show b &&& 9223372036854775808 = b / 9223372036854775808 % 2 * 9223372036854775808 from nat_bit 63 b]
  omega
theorem or_ones : ∀ y, y < 2048 → y ||| 2047 = 2047 := by decide +kernel
theorem or_inf (b : Nat) (hb : b < 18446744073709551616) : b ||| 9218868437227405312 < 18446744073709551616 ∧ kindF (b ||| 9218868437227405312) ≠ 0 := by
  have hl : b ||| 9218868437227405312 < 2 ^ 64 := Nat.or_lt_two_pow hb (by omega)
  refine ⟨hl, ?_⟩
  have e : (b ||| 9218868437227405312) / 4503599627370496 % 2048 = 2047 := by
    have h1 : (b ||| 9218868437227405312) / 2 ^ 52 = b / 2 ^ 52 ||| 2047 := by rw [← Nat.shiftRight_eq_div_pow, Nat.shiftRight_or_distrib, Nat.shiftRight_eq_div_pow]; rfl
    have h2 : (b / 2 ^ 52 ||| 2047) % 2 ^ 11 = b / 2 ^ 52 % 2 ^ 11 ||| 2047 := by rw [Nat.or_mod_two_pow]
    have h3 := or_ones (b / 2 ^ 52 % 2 ^ 11) (Nat.mod_lt _ (by decide))
    calc (b ||| 9218868437227405312) / 4503599627370496 % 2048 = (b ||| 9218868437227405312) / 2 ^ 52 % 2 ^ 11 := rfl
      _ = 2047 := by rw [h1, h2, h3]
  generalize b ||| 9218868437227405312 = x at *
  unfold kindF
  rw [if_neg (by omega)]
  split <;> omega
theorem kind_3 (b : Nat) : kindF b = 0 ∨ kindF b = 1 ∨ kindF b = 2 := by
  unfold kindF; split; exact Or.inl rfl; split; exact Or.inr (Or.inl rfl); exact Or.inr (Or.inr rfl)
theorem floatIs_w (b kind : Int) (w : World) (wb : (Lit.int .u64 b).wf = true) (wk : (Lit.int .i64 kind).wf = true) :
    Calls Try.prog 5 #[.int .u64 b, .int .i64 kind] w fun e w' => e = .returned (.bool true) ∧ Below w.heap.size w w' := by
  obtain ⟨b0, b1⟩ := wf_u64 wb
  clear wb wk
  obtain ⟨b, rfl⟩ := Int.eq_ofNat_of_zero_le b0
  have hb : b < 18446744073709551616 := by omega
  clear b0 b1
  obtain ⟨m, hm⟩ : ∃ m, Go.bits .and .i64 kind 7 = m := ⟨_, rfl⟩
  have ht := top_bit63 b hb
  by_cases q0 : m = 0
  · have h0 : (m == 0) = true := by simp [q0]
    refine fi_0_1 b (b / 9223372036854775808 * 9223372036854775808 + 9218868437227405312) kind m (by omega) hm h0 ?_ ?_ w
    · rw [ht, IntKind.wrap_u64]; omega
    · unfold kindF; rw [if_neg (by omega), if_pos (by omega)]
  have h0 : (m == 0) = false := by simp [q0]
  by_cases q1 : m = 1
  · have h1 : (m == 1) = true := by simp [q1]
    obtain ⟨o1, o2⟩ := or_inf b hb
    have e0 := u64_or_nat b 9218868437227405312 hb (by omega)
    rw [show ((9218868437227405312 : Nat) : Int) = 9218868437227405312 from rfl] at e0
    rcases kind_3 (b ||| 9218868437227405312) with h | h | h
    · exact absurd h o2
    · exact fi_1_1 b _ kind m o1 hm h0 h1 e0 h w
    · exact fi_1_2 b _ kind m o1 hm h0 h1 e0 h w
  have h1 : (m == 1) = false := by simp [q1]
  by_cases q2 : m = 2
  · have h2 : (m == 2) = true := by simp [q2]
    refine fi_2_0 b (b / 9223372036854775808 * 9223372036854775808) kind m (by omega) hm h0 h1 h2 ht ?_ w
    unfold kindF; rw [if_pos (by omega)]
  have h2 : (m == 2) = false := by simp [q2]
  rcases kind_3 b with h | h | h
  · exact fi_3_0 b b kind m hb hm h0 h1 h2 rfl h w
  · exact fi_3_1 b b kind m hb hm h0 h1 h2 rfl h w
  · exact fi_3_2 b b kind m hb hm h0 h1 h2 rfl h w
end Go.Proofs.Ytdhingmjnhhjnaa.My
