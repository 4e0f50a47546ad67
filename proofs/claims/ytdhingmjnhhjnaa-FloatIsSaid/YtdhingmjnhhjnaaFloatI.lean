/- The walk of the law FloatIs: it returns true at every input. -/
import Derived.Test.YtdhingmjnhhjnaaFloatQ
import Derived.Test.YtdhingmjnhhjnaaPFloatIsx1
import Derived.Test.YtdhingmjnhhjnaaLem
namespace Go.Proofs.Ytdhingmjnhhjnaa.My
open Go.RowKit Go.Proofs.YtdhingmjnhhjnaaW.PrintWords Go.Proofs.YtdhingmjnhhjnaaW.PrintLast Go.Proofs.YtdhingmjnhhjnaaW.PrintMore Go.Proofs.Ytdhingmjnhhjnaa.PFloatIs
set_option linter.unusedVariables false
set_option linter.unusedSimpArgs false
def eight (X : Nat) : List Int := [(X : Int) % 256, (X : Int) / 256 % 256, (X : Int) / 65536 % 256, (X : Int) / 16777216 % 256, (X : Int) / 4294967296 % 256, (X : Int) / 1099511627776 % 256, (X : Int) / 281474976710656 % 256, (X : Int) / 72057594037927936 % 256]
theorem bytes_f (X : Nat) : float_Bytes.f 9 (X : Int) = some (eight X) := by
  have h : float_Bytes.f 9 (X : Int) = some ((X : Int) / 1 % 256 :: (eight X).drop 1) := by kernel_rfl
  rw [h, Int.ediv_one]; rfl
theorem bytes_cells {w1 : World} {B : Nat} {ok : Nat → Prop} {v : Value} {r : List Int} (hR : Kd.R (Kd.int .u8) 5 w1 B ok v r) (hl : r.length = 8) : ∃ g c, v = .slice (some ⟨g, 0, none⟩) 8 c ∧ 8 ≤ c ∧ ∀ i : Nat, i < 8 → w1.cell? ⟨g, i, none⟩ = some (.int .u8 (r.getD i 0)) := by
  obtain ⟨g, c, rfl, hb, hlt, _⟩ := Kd.R_form hR (by omega)
  obtain ⟨A, c', he, hc, _⟩ := Kd.R_reads hR
  have ho : w1.ownsRow B 5 1 (.slice (some ⟨g, 0, none⟩) r.length c) r.length (nums .u8 r) := Kd.own_of_R hR
  refine ⟨g, c, by rw [hl], ?_, fun i hi => ?_⟩
  · injection he with _ _ h3; omega
  · have := (own_at ho (i : Int) (by omega) (by omega)).1
    exact this
theorem and_lo (X : Nat) (n : Nat) (hX : X < 18446744073709551616) (hn : n ≤ 63) : Go.bits .and .u64 (X : Int) ((2 ^ n - 1 : Nat) : Int) = ((X % 2 ^ n : Nat) : Int) := by
  have hp : 2 ^ n ≤ 2 ^ 63 := Nat.pow_le_pow_right (by decide) hn
  rw [u64_and_nat X (2 ^ n - 1) hX (by omega), Nat.and_two_pow_sub_one_eq_mod]
theorem t_exp (X : Nat) (hX : X < 18446744073709551616) : (Go.bits .and .u64 ((X : Int) / 4503599627370496) 2047 == 2047) = decide (kindF X ≠ 0) := by
  have h := and_lo (X / 4503599627370496) 11 (by omega) (by decide)
  rw [show ((2 ^ 11 - 1 : Nat) : Int) = 2047 from rfl, show ((X / 4503599627370496 : Nat) : Int) = (X : Int) / 4503599627370496 by omega, show (2 : Nat) ^ 11 = 2048 from rfl] at h
  rw [h, Bool.eq_iff_iff]
  simp only [beq_iff_eq, decide_eq_true_eq]
  unfold kindF
  split
  · omega
  · split <;> omega
theorem t_frac (X : Nat) (hX : X < 18446744073709551616) (h : kindF X ≠ 0) : decide (0 < Go.bits .and .u64 (X : Int) 4503599627370495) = decide (kindF X = 2) := by
  have h1 := and_lo X 52 hX (by decide)
  rw [show ((2 ^ 52 - 1 : Nat) : Int) = 4503599627370495 from rfl, show (2 : Nat) ^ 52 = 4503599627370496 from rfl] at h1
  rw [h1]
  refine decide_eq_decide.2 ?_
  unfold kindF at *
  split at h
  · omega
  · rename_i q; rw [if_neg q]; split <;> omega
theorem t_sign (X : Nat) (hX : X < 18446744073709551616) : (signF X == ((X : Int) / 9223372036854775808 == 1)) = true := by
  unfold signF
  rw [beq_iff_eq, Bool.eq_iff_iff]
  simp only [beq_iff_eq, decide_eq_true_eq]
  unfold wrap64
  omega
theorem conv_at (w1 : World) (g c k : Nat) (r : List Int) (h : ∀ i : Nat, i < 8 → w1.cell? ⟨g, i, none⟩ = some (.int .u8 (r.getD i 0))) (hk : k < 8) :
    (convert 35 9 (.slice (some ⟨g, k, none⟩) 1 c)).run Try.prog w1 = .ok (.string (strOfNums [r.getD k 0])) w1 := by
  refine run_convert_bytes_arg w1 35 5 Try.underlying35 Try.underlying5 g k 1 c [r.getD k 0] rfl ?_ 9 Try.underlying9
  intro i hi
  obtain rfl : i = 0 := by omega
  exact h k hk
theorem str_cat (a b : List Int) : (strOfNums a ++ strOfNums b) = strOfNums (a ++ b) := strOfNums_cat a b
end Go.Proofs.Ytdhingmjnhhjnaa.My
