/- The law hansom/hansomlaw08.AluOne: for every input the call returns true, and each argument reads behind it as it read before. No condition. -/
import Derived.Test.YtefdfcdgghoknaaRows
import Derived.Test.YtefdfcdgghoknaaAluL
import Derived.WalkKit
import Derived.ProofKit
import Derived.OpenShut
import Derived.ShutString
import Derived.ChangeOld
import Derived.Below
import Derived.Carry
import Derived.SizedLaws
namespace Go.Proofs.Ytefdfcdgghoknaa.MyAluOne
open Go.ChangeShapes Go.WideShapes Go.ChangeAt Go.RowKit
open Go.ChangeMaps (open_string shut_string)
set_option linter.unusedVariables false
set_option linter.unusedSimpArgs false
theorem own : ownKnob Try.prog.godebug = none := by kernel_rfl
theorem laidOut : laidOutB Try.prog = true := by kernel_rfl
theorem rr38 : Try.prog.readableRec 38 = true := by kernel_rfl
theorem rw38 : 38 < Try.prog.types.size := of_decide_eq_true (by kernel_rfl)
theorem ce1 : Try.prog.cellsOf 22 = 1 := by kernel_rfl
theorem ct1 : Try.prog.cellsOf 38 = 2 := by kernel_rfl
theorem openA1 {H : Type} {enc : TypeId × Value → H} {w : World} {base : Nat} {spare : Nat → Bool} {held : Bool} {r : Reach} {b0 : Nat} {v : Value} {d : DataW H} {p : List MemPlace}
    (hv : Value.okWide Try.prog w r b0 38 v) (h : DataW.Trod enc Try.prog w base spare held 38 v d p) : ∃ a1_0 a1_1 : Int, v = .agg #[.int .u16 a1_0, .int .u16 a1_1] ∧ d = .agg [.lit (.int .u16 a1_0), .lit (.int .u16 a1_1)] ∧ p = [] ∧ (Lit.int .u16 a1_0).wf = true ∧ (Lit.int .u16 a1_1).wf = true := by
  obtain ⟨fuel, hf⟩ := h
  have hsh : ∃ cs, v = .agg cs := by
    unfold Value.okWide at hv
    rw [Try.underlying38] at hv
    cases v <;> simp_all
  obtain ⟨cs, rfl⟩ := hsh
  obtain ⟨xs, m, rfl, hx, hl, hn, hi⟩ := DataW.trod_array Try.underlying38 hf
  rw [ct1] at hl
  simp only [ce1] at hi
  simp only [Value.cells] at hl hi
  obtain ⟨l⟩ := cs
  simp only at hl hi
  match l, hl with
  | [c0, c1], _ =>
    match xs, hn with
    | [y0, y1], _ =>
      obtain ⟨a1_0, e0, f0, g0⟩ := DataW.trod_int Try.underlying22 (hi 0 (by omega))
      simp at e0; subst e0; subst f0
      obtain ⟨a1_1, e1, f1, g1⟩ := DataW.trod_int Try.underlying22 (hi 1 (by omega))
      simp at e1; subst e1; subst f1
      simp only [Prod.mk.injEq] at hx
      obtain ⟨rfl, rfl⟩ := hx
      exact ⟨a1_0, a1_1, rfl, rfl, rfl, g0, g1⟩

set_option maxRecDepth 100000 in
theorem lifted (os : Os) (started : os.Started) (H : Type) (enc : TypeId × Value → H) :
    ReturnsInHanded {} Try.checked os 8 .any (Rows.aluOneSpec.pre6 enc Try.prog Try.f8 Rows.aluOneRow.domain false) (Rows.aluOneSpec.post enc Try.prog Try.f8 false true false false) := by
  refine returnsInHanded_of_change (C := Try.checked) own started (by kernel_rfl) Try.func8
    (ChangeSpec.witness6 (enc := enc) (C := Try.checked) false ⟨#[], #[.int .i64 0, .agg #[.int .u16 0, .int .u16 0], .bool false], []⟩ 8 (by kernel_rfl) (by kernel_rfl) (by kernel_rfl) (by kernel_rfl)) ?_
  intro W base args ds gs before hval0 hW hcnd _
  have hval : ∀ (j : Nat) t v, Try.f8.params[j]? = some t → args[j]? = some v → Value.okWide Try.prog W .any base t v := hval0
  have hW' := hW
  obtain ⟨p, q, hA0, hV, rfl, hfz, hnd⟩ := hW
  have hA : DataW.TrodAll enc Try.prog W 0 (fun _ => true) true Try.f8.params.toList args.toList ds p := hA0
  rw [Try.params8] at hA hval
  obtain ⟨v0, vs0, d0, ds0, p0, q0, hargs, rfl, rfl, h0, r0⟩ := trodAll_cons hA
  obtain ⟨v1, vs1, d1, ds1, p1, q1, rfl, rfl, rfl, h1, r1⟩ := trodAll_cons r0
  obtain ⟨v2, vs2, d2, ds2, p2, q2, rfl, rfl, rfl, h2, r2⟩ := trodAll_cons r1
  obtain ⟨rfl, rfl, rfl⟩ := trodAll_nil r2
  obtain rfl : args = #[v0, v1, v2] := by cases args; simp_all
  obtain ⟨rfl, rfl⟩ := trodVars_none hV
  have g1 := h1
  obtain ⟨a0, rfl, rfl, rfl, w0⟩ := open_int Try.underlying3 (hval 0 3 v0 rfl rfl) h0
  obtain ⟨a1_0, a1_1, rfl, rfl, rfl, w1_0, w1_1⟩ := openA1 (hval 1 38 v1 rfl rfl) h1
  obtain ⟨a2, rfl, rfl, rfl⟩ := open_bool Try.underlying4 (hval 2 4 v2 rfl rfl) h2
  clear hA0 hval0
  refine (Go.Proofs.Ytefdfcdgghoknaa.My.aluOne_w a0 a1_0 a1_1 a2 W w0 w1_0 w1_1).mono fun e W' ⟨he, bel⟩ => ?_
  subst he
  exact ⟨_, rfl, _, _, _, [], _, [], hW', trodAll_mk1 (shut_bool Try.underlying4 _), (trodAll_cons_mk (shut_int Try.underlying3 w0) (trodAll_cons_mk (Below.trod laidOut rr38 rw38 g1 bel (by simp)) (trodAll_cons_mk (shut_bool Try.underlying4 a2) trodAll_mk0))), rfl, bel.frame _, fun h => by cases h⟩
theorem proved : Rows.AluOneSaid :=
  OpenClaim.holds_of_wide 8 Try.f8 rfl rfl rfl rfl rfl rfl rfl ⟨rfl, rfl, rfl, rfl, rfl⟩ rfl rfl rfl rfl rfl (by kernel_rfl) Try.func8 (by kernel_rfl)
    (of_decide_eq_true (by kernel_rfl)) (by unfold Func.isWrapper; first | (rw [if_pos (by decide +kernel)]; kernel_rfl) | (rw [if_neg (by decide +kernel)]; exact ⟨rfl, rfl⟩))
    (fun os started H enc _ => lifted os started H enc)
end Go.Proofs.Ytefdfcdgghoknaa.MyAluOne
namespace Go.Proofs.Ytefdfcdgghoknaa
/-- The law, under a short name. -/
theorem aluOne_holds : Rows.AluOneSaid := MyAluOne.proved
#print axioms aluOne_holds
end Go.Proofs.Ytefdfcdgghoknaa
