/- The walk of the law LongDecimal: it returns true at every input. -/
import Derived.Laws.BitsLemmas
import Derived.Test.YtefdfcdgghoknaaDecLA
import Derived.Test.YtefdfcdgghoknaaDecLB
import Derived.Test.YtefdfcdgghoknaaDecLC0
import Derived.Test.YtefdfcdgghoknaaDecLC1
import Derived.Test.YtefdfcdgghoknaaDecLC2
import Derived.Test.YtefdfcdgghoknaaDecLD0
import Derived.Test.YtefdfcdgghoknaaDecLD1
import Derived.Test.YtefdfcdgghoknaaDecLD2
namespace Go.Proofs.Ytefdfcdgghoknaa.My
open Go.RowKit Go.Proofs.YtefdfcdgghoknaaW.PrintWords Go.Proofs.YtefdfcdgghoknaaW.PrintLast Go.Proofs.YtefdfcdgghoknaaW.PrintMore
set_option linter.unusedVariables false
set_option linter.unusedSimpArgs false
theorem i64_and3 (n : Int) : Go.bits .and .i64 n 3 = n % 4 := by
  have h3 : (BitVec.ofInt 64 3).toNat = 2 ^ 2 - 1 := by decide
  have key : (BitVec.ofInt 64 n &&& BitVec.ofInt 64 3).toNat = (n % ((2 ^ 64 : Nat) : Int)).toNat % 2 ^ 2 := by
    rw [BitVec.toNat_and, BitVec.toNat_ofInt, h3, Nat.and_two_pow_sub_one_eq_mod]
  show IntKind.i64.wrap ((BitVec.ofInt 64 n &&& BitVec.ofInt 64 3).toNat : Nat) = n % 4
  rw [key, IntKind.wrap_i64]
  omega
theorem hs3 (x : Nat) (p : Prop) : 9 < x ∨ (x ≤ 9 ∧ p) ∨ (x ≤ 9 ∧ ¬ p) := by
  by_cases h : 9 < x
  · exact Or.inl h
  · by_cases hp : p
    · exact Or.inr (Or.inl ⟨by omega, hp⟩)
    · exact Or.inr (Or.inr ⟨by omega, hp⟩)
theorem ws3 (x : Nat) (p : Prop) : 153 < x ∨ (x ≤ 153 ∧ p) ∨ (x ≤ 153 ∧ ¬ p) := by
  by_cases h : 153 < x
  · exact Or.inl h
  · by_cases hp : p
    · exact Or.inr (Or.inl ⟨by omega, hp⟩)
    · exact Or.inr (Or.inr ⟨by omega, hp⟩)
theorem longDecimal_w (ax was kind : Int) (w : World) (wa : (Lit.int .u16 ax).wf = true) (wb : (Lit.int .u16 was).wf = true) (wk : (Lit.int .i64 kind).wf = true) :
    Calls Try.prog 5 #[.int .u16 ax, .int .u16 was, .int .i64 kind] w fun e w' => e = .returned (.bool true) ∧ Below w.heap.size w w' := by
  obtain ⟨a0, a1⟩ := wf_u16 wa
  obtain ⟨b0, b1⟩ := wf_u16 wb
  clear wa wb wk
  obtain ⟨ax, rfl⟩ := Int.eq_ofNat_of_zero_le a0
  obtain ⟨was, rfl⟩ := Int.eq_ofNat_of_zero_le b0
  have h1 : ax < 65536 := by omega
  have h2 : was < 65536 := by omega
  clear a0 a1 b0 b1
  have hk := i64_and3 kind
  rcases (show kind % 4 = 0 ∨ kind % 4 = 1 ∨ kind % 4 = 2 ∨ kind % 4 = 3 by omega) with h | h | h | h <;> rw [h] at hk
  · rcases hs3 (ax % 256 % 16) (was / 16 % 2 = 1) with hh | hh | hh <;> rcases ws3 (ax % 256) (was % 2 = 1) with hw | hw | hw
    · exact decl_11_00 ax was kind w h1 h2 hk hh hw
    · exact decl_11_01 ax was kind w h1 h2 hk hh hw
    · exact decl_11_02 ax was kind w h1 h2 hk hh hw
    · exact decl_11_10 ax was kind w h1 h2 hk hh hw
    · exact decl_11_11 ax was kind w h1 h2 hk hh hw
    · exact decl_11_12 ax was kind w h1 h2 hk hh hw
    · exact decl_11_20 ax was kind w h1 h2 hk hh hw
    · exact decl_11_21 ax was kind w h1 h2 hk hh hw
    · exact decl_11_22 ax was kind w h1 h2 hk hh hw
  · rcases hs3 (ax % 256 % 16) (was / 16 % 2 = 1) with hh | hh | hh <;> rcases ws3 (ax % 256) (was % 2 = 1) with hw | hw | hw
    · exact decl_12_00 ax was kind w h1 h2 hk hh hw
    · exact decl_12_01 ax was kind w h1 h2 hk hh hw
    · exact decl_12_02 ax was kind w h1 h2 hk hh hw
    · exact decl_12_10 ax was kind w h1 h2 hk hh hw
    · exact decl_12_11 ax was kind w h1 h2 hk hh hw
    · exact decl_12_12 ax was kind w h1 h2 hk hh hw
    · exact decl_12_20 ax was kind w h1 h2 hk hh hw
    · exact decl_12_21 ax was kind w h1 h2 hk hh hw
    · exact decl_12_22 ax was kind w h1 h2 hk hh hw
  · rcases hs3 (ax % 256 % 16) (was / 16 % 2 = 1) with hh | hh | hh
    · exact decl_13_0 ax was kind w h1 h2 hk hh
    · exact decl_13_1 ax was kind w h1 h2 hk hh
    · exact decl_13_2 ax was kind w h1 h2 hk hh
  · rcases hs3 (ax % 256 % 16) (was / 16 % 2 = 1) with hh | hh | hh
    · exact decl_14_0 ax was kind w h1 h2 hk hh
    · exact decl_14_1 ax was kind w h1 h2 hk hh
    · exact decl_14_2 ax was kind w h1 h2 hk hh
end Go.Proofs.Ytefdfcdgghoknaa.My
