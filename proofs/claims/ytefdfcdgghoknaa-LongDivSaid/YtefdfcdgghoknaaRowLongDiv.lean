/- The law hansom/hansomlaw10.LongDiv: for every input the call returns true, and each argument reads behind it as it read before. No condition. -/
import Derived.Test.YtefdfcdgghoknaaRows
import Derived.Test.YtefdfcdgghoknaaLongD
import Derived.WalkKit
import Derived.ProofKit
import Derived.OpenShut
import Derived.ShutString
import Derived.ChangeOld
import Derived.Below
import Derived.Carry
import Derived.SizedLaws
namespace Go.Proofs.Ytefdfcdgghoknaa.MyLongDiv
open Go.ChangeShapes Go.WideShapes Go.ChangeAt Go.RowKit
open Go.ChangeMaps (open_string shut_string)
set_option linter.unusedVariables false
set_option linter.unusedSimpArgs false
theorem own : ownKnob Try.prog.godebug = none := by kernel_rfl
theorem laidOut : laidOutB Try.prog = true := by kernel_rfl
theorem rr23 : Try.prog.readableRec 23 = true := by kernel_rfl
theorem rw23 : 23 < Try.prog.types.size := of_decide_eq_true (by kernel_rfl)
theorem ce0 : Try.prog.cellsOf 22 = 1 := by kernel_rfl
theorem ct0 : Try.prog.cellsOf 23 = 3 := by kernel_rfl
theorem openA0 {H : Type} {enc : TypeId × Value → H} {w : World} {base : Nat} {spare : Nat → Bool} {held : Bool} {r : Reach} {b0 : Nat} {v : Value} {d : DataW H} {p : List MemPlace}
    (hv : Value.okWide Try.prog w r b0 23 v) (h : DataW.Trod enc Try.prog w base spare held 23 v d p) : ∃ a0_0 a0_1 a0_2 : Int, v = .agg #[.int .u16 a0_0, .int .u16 a0_1, .int .u16 a0_2] ∧ d = .agg [.lit (.int .u16 a0_0), .lit (.int .u16 a0_1), .lit (.int .u16 a0_2)] ∧ p = [] ∧ (Lit.int .u16 a0_0).wf = true ∧ (Lit.int .u16 a0_1).wf = true ∧ (Lit.int .u16 a0_2).wf = true := by
  obtain ⟨fuel, hf⟩ := h
  have hsh : ∃ cs, v = .agg cs := by
    unfold Value.okWide at hv
    rw [Try.underlying23] at hv
    cases v <;> simp_all
  obtain ⟨cs, rfl⟩ := hsh
  obtain ⟨xs, m, rfl, hx, hl, hn, hi⟩ := DataW.trod_array Try.underlying23 hf
  rw [ct0] at hl
  simp only [ce0] at hi
  simp only [Value.cells] at hl hi
  obtain ⟨l⟩ := cs
  simp only at hl hi
  match l, hl with
  | [c0, c1, c2], _ =>
    match xs, hn with
    | [y0, y1, y2], _ =>
      obtain ⟨a0_0, e0, f0, g0⟩ := DataW.trod_int Try.underlying22 (hi 0 (by omega))
      simp at e0; subst e0; subst f0
      obtain ⟨a0_1, e1, f1, g1⟩ := DataW.trod_int Try.underlying22 (hi 1 (by omega))
      simp at e1; subst e1; subst f1
      obtain ⟨a0_2, e2, f2, g2⟩ := DataW.trod_int Try.underlying22 (hi 2 (by omega))
      simp at e2; subst e2; subst f2
      simp only [Prod.mk.injEq] at hx
      obtain ⟨rfl, rfl⟩ := hx
      exact ⟨a0_0, a0_1, a0_2, rfl, rfl, rfl, g0, g1, g2⟩

set_option maxRecDepth 100000 in
theorem lifted (os : Os) (started : os.Started) (H : Type) (enc : TypeId × Value → H) :
    ReturnsInHanded {} Try.checked os 3 .any (Rows.longDivSpec.pre6 enc Try.prog Try.f3 Rows.longDivRow.domain false) (Rows.longDivSpec.post enc Try.prog Try.f3 false true false false) := by
  refine returnsInHanded_of_change (C := Try.checked) own started (by kernel_rfl) Try.func3
    (ChangeSpec.witness6 (enc := enc) (C := Try.checked) false ⟨#[], #[.agg #[.int .u16 0, .int .u16 0, .int .u16 0], .int .i64 0], []⟩ 8 (by kernel_rfl) (by kernel_rfl) (by kernel_rfl) (by kernel_rfl)) ?_
  intro W base args ds gs before hval0 hW hcnd _
  have hval : ∀ (j : Nat) t v, Try.f3.params[j]? = some t → args[j]? = some v → Value.okWide Try.prog W .any base t v := hval0
  have hW' := hW
  obtain ⟨p, q, hA0, hV, rfl, hfz, hnd⟩ := hW
  have hA : DataW.TrodAll enc Try.prog W 0 (fun _ => true) true Try.f3.params.toList args.toList ds p := hA0
  rw [Try.params3] at hA hval
  obtain ⟨v0, vs0, d0, ds0, p0, q0, hargs, rfl, rfl, h0, r0⟩ := trodAll_cons hA
  obtain ⟨v1, vs1, d1, ds1, p1, q1, rfl, rfl, rfl, h1, r1⟩ := trodAll_cons r0
  obtain ⟨rfl, rfl, rfl⟩ := trodAll_nil r1
  obtain rfl : args = #[v0, v1] := by cases args; simp_all
  obtain ⟨rfl, rfl⟩ := trodVars_none hV
  have g0 := h0
  obtain ⟨a0_0, a0_1, a0_2, rfl, rfl, rfl, w0_0, w0_1, w0_2⟩ := openA0 (hval 0 23 v0 rfl rfl) h0
  obtain ⟨a1, rfl, rfl, rfl, w1⟩ := open_int Try.underlying3 (hval 1 3 v1 rfl rfl) h1
  clear hA0 hval0
  refine (Go.Proofs.Ytefdfcdgghoknaa.My.longDiv_w a0_0 a0_1 a0_2 a1 W w0_0 w0_1 w0_2 w1).mono fun e W' ⟨he, bel⟩ => ?_
  subst he
  exact ⟨_, rfl, _, _, _, [], _, [], hW', trodAll_mk1 (shut_bool Try.underlying4 _), (trodAll_cons_mk (Below.trod laidOut rr23 rw23 g0 bel (by simp)) (trodAll_cons_mk (shut_int Try.underlying3 w1) trodAll_mk0)), rfl, bel.frame _, fun h => by cases h⟩
theorem proved : Rows.LongDivSaid :=
  OpenClaim.holds_of_wide 3 Try.f3 rfl rfl rfl rfl rfl rfl rfl ⟨rfl, rfl, rfl, rfl, rfl⟩ rfl rfl rfl rfl rfl (by kernel_rfl) Try.func3 (by kernel_rfl)
    (of_decide_eq_true (by kernel_rfl)) (by unfold Func.isWrapper; first | (rw [if_pos (by decide +kernel)]; kernel_rfl) | (rw [if_neg (by decide +kernel)]; exact ⟨rfl, rfl⟩))
    (fun os started H enc _ => lifted os started H enc)
end Go.Proofs.Ytefdfcdgghoknaa.MyLongDiv
namespace Go.Proofs.Ytefdfcdgghoknaa
/-- The law, under a short name. -/
theorem longDiv_holds : Rows.LongDivSaid := MyLongDiv.proved
#print axioms longDiv_holds
end Go.Proofs.Ytefdfcdgghoknaa
