/- A world by the plain machine: calls of it, and all that happened. -/
import Derived.Test.YtfllmggfbfjheaaWP
namespace Go.Proofs.Ytfllmggfbfjheaa.VM
open Go Go.RowKit
set_option linter.unusedVariables false
set_option linter.unusedSimpArgs false
set_option maxRecDepth 40000
set_option maxHeartbeats 1600000
theorem wint_F (mk : Mk) (k lo : Nat) (hk : 3 ≤ k) {H : List Blk} {wb : Nat} {R : List Int} {rv : Val} {n : Nat} {E : List Ev} {lv : Val} {eb : Nat} (h : HasW H wb R rv n E lv eb) (hlo : lo ≤ wb) (hle : lo ≤ eb) (hE : E.length < 1000) (at0 : Nat) (ha : n = min at0 R.length) (hR : R.length < 4611686018427387904) (m a b c d : Int) (hm : U8 m) (hua : U16 a) (z : Bool) (hz : z = (m == 32 || (m == 33 && a / 256 == 76))) :
    Ends (FF mk k lo 23 [.ptr (.hp wb) 0, .int .u8 m, .int .u16 a, .int .u16 b, .int .u16 c, .int .u16 d] H) fun r => r.1 = .tup [.int .u16 (if z then a else R.getD at0 0), .bool z] ∧ EvOk H r.2 wb R rv (if z then n else min (at0 + 1) R.length) (E ++ [⟨3, m, if z then a else R.getD at0 0, a, b, c, d⟩]) eb := by
  obtain ⟨k, rfl⟩ : ∃ m, k = m + 1 := ⟨k - 1, by omega⟩
  have em : IntKind.u16.wrap m = m := by unfold U8 at hm; rw [wu16]; omega
  have noteT := note_F mk k lo (by omega) h hlo hle hE ⟨3, m, a, a, b, c, d⟩
  have nextT := next_F mk k lo (by omega) h hlo at0 ha hR
  generalize R.getD at0 0 = y at *
  conv => enter [1]; whnf
  by_cases c1 : m = 32
  · have b1 : (m == 32) = true := beq_iff_eq.2 c1
    rw [b1, Bool.true_or] at hz
    subst hz
    rw [b1]
    conv => enter [1]; whnf
    rw [em]
    refine Ends.callE noteT (fun v H2 hv => ?_)
    obtain ⟨hv, lv2, eb2, h2, k2, hl2⟩ := hv
    replace hv : v = .tup [] := hv
    subst hv
    conv => enter [1]; whnf
    exact Ends.some' ⟨rfl, lv2, eb2, h2, k2, hl2⟩
  · have b1 : (m == 32) = false := beq_eq_false_iff_ne.2 c1
    rw [b1, Bool.false_or] at hz
    rw [b1]
    conv => enter [1]; whnf
    by_cases c2 : m = 33
    · have b2 : (m == 33) = true := beq_iff_eq.2 c2
      rw [b2, Bool.true_and] at hz
      rw [b2]
      conv => enter [1]; whnf
      refine Ends.call (high_F mk _ _ (by omega) _ hua _) ?_
      conv => enter [1]; whnf
      cases z
      · have b3 : (a / 256 == 76) = false := hz.symm
        rw [b3]
        conv => enter [1]; whnf
        refine Ends.callE nextT (fun v H1 hv => ?_)
        obtain ⟨hv, h1, k1⟩ := hv
        replace hv : v = .int .u16 y := hv
        subst hv
        replace h1 : HasW H1 wb R rv (min (at0 + 1) R.length) E lv eb := h1
        replace k1 : KeepW H H1 wb eb := k1
        conv => enter [1]; whnf
        rw [em]
        refine Ends.callE (note_F mk k lo (by omega) h1 hlo hle hE ⟨3, m, y, a, b, c, d⟩) (fun v H2 hv => ?_)
        obtain ⟨hv, lv2, eb2, h2, k2, hl2⟩ := hv
        replace hv : v = .tup [] := hv
        subst hv
        conv => enter [1]; whnf
        exact Ends.some' ⟨rfl, lv2, eb2, h2, k1.trans k2 (.inl rfl), Nat.le_trans k1.1 hl2⟩
      · have b3 : (a / 256 == 76) = true := hz.symm
        rw [b3]
        conv => enter [1]; whnf
        rw [em]
        refine Ends.callE noteT (fun v H2 hv => ?_)
        obtain ⟨hv, lv2, eb2, h2, k2, hl2⟩ := hv
        replace hv : v = .tup [] := hv
        subst hv
        conv => enter [1]; whnf
        exact Ends.some' ⟨rfl, lv2, eb2, h2, k2, hl2⟩
    · have b2 : (m == 33) = false := beq_eq_false_iff_ne.2 c2
      rw [b2, Bool.false_and] at hz
      subst hz
      rw [b2]
      conv => enter [1]; whnf
      refine Ends.callE nextT (fun v H1 hv => ?_)
      obtain ⟨hv, h1, k1⟩ := hv
      replace hv : v = .int .u16 y := hv
      subst hv
      replace h1 : HasW H1 wb R rv (min (at0 + 1) R.length) E lv eb := h1
      replace k1 : KeepW H H1 wb eb := k1
      conv => enter [1]; whnf
      rw [em]
      refine Ends.callE (note_F mk k lo (by omega) h1 hlo hle hE ⟨3, m, y, a, b, c, d⟩) (fun v H2 hv => ?_)
      obtain ⟨hv, lv2, eb2, h2, k2, hl2⟩ := hv
      replace hv : v = .tup [] := hv
      subst hv
      conv => enter [1]; whnf
      exact Ends.some' ⟨rfl, lv2, eb2, h2, k1.trans k2 (.inl rfl), Nat.le_trans k1.1 hl2⟩
end Go.Proofs.Ytfllmggfbfjheaa.VM
