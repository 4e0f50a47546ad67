/- The walk of the law LongDiv: it returns true at every input. -/
import Derived.Test.YtefdfcdgghoknaaLongDA
import Derived.Test.YtefdfcdgghoknaaLongDB
import Derived.Test.YtefdfcdgghoknaaLongDC
namespace Go.Proofs.Ytefdfcdgghoknaa.My
open Go.RowKit Go.Proofs.YtefdfcdgghoknaaW.PrintWords Go.Proofs.YtefdfcdgghoknaaW.PrintLast Go.Proofs.YtefdfcdgghoknaaW.PrintMore
set_option linter.unusedVariables false
set_option linter.unusedSimpArgs false

theorem longDiv_w (n0 n1 n2 how : Int) (w : World) (w0 : (Lit.int .u16 n0).wf = true) (w1 : (Lit.int .u16 n1).wf = true) (w2 : (Lit.int .u16 n2).wf = true) (wh : (Lit.int .i64 how).wf = true) :
    Calls Try.prog 3 #[.agg #[.int .u16 n0, .int .u16 n1, .int .u16 n2], .int .i64 how] w fun e w' => e = .returned (.bool true) ∧ Below w.heap.size w w' := by
  obtain ⟨a0, a1⟩ := wf_u16 w0
  obtain ⟨b0, b1⟩ := wf_u16 w1
  obtain ⟨c0, c1⟩ := wf_u16 w2
  obtain ⟨n0, rfl⟩ := Int.eq_ofNat_of_zero_le a0
  obtain ⟨n1, rfl⟩ := Int.eq_ofNat_of_zero_le b0
  obtain ⟨n2, rfl⟩ := Int.eq_ofNat_of_zero_le c0
  have hk := i64_mask 1 (by omega) how
  simp only [Int.pow_one] at hk
  rw [show (2 : Int) - 1 = 1 from rfl] at hk
  rcases Int.emod_two_eq how with h | h <;> cases h2 : decide (0 < Go.bits .and .i64 how 2) <;> cases h4 : decide (0 < Go.bits .and .i64 how 4) <;> cases h8 : decide (0 < Go.bits .and .i64 how 8)
  · exact div_88_false_00 n0 n1 n2 how w (by omega) (by omega) (by omega) (by rw [hk, h]) h2 h4 h8
  · exact div_88_false_01 n0 n1 n2 how w (by omega) (by omega) (by omega) (by rw [hk, h]) h2 h4 h8
  · exact div_88_false_10 n0 n1 n2 how w (by omega) (by omega) (by omega) (by rw [hk, h]) h2 h4 h8
  · exact div_88_false_11 n0 n1 n2 how w (by omega) (by omega) (by omega) (by rw [hk, h]) h2 h4 h8
  · exact div_88_true_00 n0 n1 n2 how w (by omega) (by omega) (by omega) (by rw [hk, h]) h2 h4 h8
  · exact div_88_true_01 n0 n1 n2 how w (by omega) (by omega) (by omega) (by rw [hk, h]) h2 h4 h8
  · exact div_88_true_10 n0 n1 n2 how w (by omega) (by omega) (by omega) (by rw [hk, h]) h2 h4 h8
  · exact div_88_true_11 n0 n1 n2 how w (by omega) (by omega) (by omega) (by rw [hk, h]) h2 h4 h8
  · exact div_89_false_00 n0 n1 n2 how w (by omega) (by omega) (by omega) (by rw [hk, h]) h2 h4 h8
  · exact div_89_false_01 n0 n1 n2 how w (by omega) (by omega) (by omega) (by rw [hk, h]) h2 h4 h8
  · exact div_89_false_10 n0 n1 n2 how w (by omega) (by omega) (by omega) (by rw [hk, h]) h2 h4 h8
  · exact div_89_false_11 n0 n1 n2 how w (by omega) (by omega) (by omega) (by rw [hk, h]) h2 h4 h8
  · exact div_89_true_00 n0 n1 n2 how w (by omega) (by omega) (by omega) (by rw [hk, h]) h2 h4 h8
  · exact div_89_true_01 n0 n1 n2 how w (by omega) (by omega) (by omega) (by rw [hk, h]) h2 h4 h8
  · exact div_89_true_10 n0 n1 n2 how w (by omega) (by omega) (by omega) (by rw [hk, h]) h2 h4 h8
  · exact div_89_true_11 n0 n1 n2 how w (by omega) (by omega) (by omega) (by rw [hk, h]) h2 h4 h8
end Go.Proofs.Ytefdfcdgghoknaa.My
