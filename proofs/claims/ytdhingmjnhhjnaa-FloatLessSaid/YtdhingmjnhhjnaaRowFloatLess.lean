/- The law hansom/hansomlaw35.FloatLess: for every input the call returns true, and each argument reads behind it as it read before. No condition. -/
import Derived.Test.YtdhingmjnhhjnaaRows
import Derived.Test.YtdhingmjnhhjnaaFloatU
import Derived.WalkKit
import Derived.ProofKit
import Derived.OpenShut
import Derived.ShutString
import Derived.ChangeOld
import Derived.Below
import Derived.Carry
import Derived.SizedLaws
namespace Go.Proofs.Ytdhingmjnhhjnaa.MyFloatLess
open Go.ChangeShapes Go.WideShapes Go.ChangeAt Go.RowKit
open Go.ChangeMaps (open_string shut_string)
set_option linter.unusedVariables false
set_option linter.unusedSimpArgs false
theorem own : ownKnob Try.prog.godebug = none := by kernel_rfl
theorem trodLt {H : Type} {enc : TypeId × Value → H} {P : Program} {W : World} {base : Nat} {spare : Nat → Bool} {held : Bool} {t : TypeId} {v : Value} {d : DataW H} {ps : List MemPlace} (h : DataW.Trod enc P W base spare held t v d ps) : ∀ x ∈ ps, x.block < W.heap.size := by
  obtain ⟨n, hf⟩ := h
  exact DataW.trod_lt n t _ _ hf
theorem cell_int {P : Program} {w : World} {r : Reach} {b : Nat} {u : TypeId} {k : IntKind} {v : Value} (hu : P.underlying u = some (.int k)) (h : Cell.okWide P w r b u v) : ∃ n, v = .int k n ∧ (Lit.int k n).wf = true := by
  simp only [Cell.okWide, hu] at h
  cases v <;> simp_all [Cell.ok, IntKind.has, Lit.wf]
theorem cell_bool {P : Program} {w : World} {r : Reach} {b : Nat} {u : TypeId} {v : Value} (hu : P.underlying u = some .bool) (h : Cell.okWide P w r b u v) : ∃ x, v = .bool x := by
  simp only [Cell.okWide, hu] at h
  cases v <;> simp_all [Cell.ok]
theorem cell_string {P : Program} {w : World} {r : Reach} {b : Nat} {u : TypeId} {v : Value} (hu : P.underlying u = some .string) (h : Cell.okWide P w r b u v) : ∃ s, v = .string s ∧ (s.size : Int) ≤ IntKind.i64.max := by
  simp only [Cell.okWide, hu] at h
  cases v <;> simp_all [Cell.ok]
theorem laidOut : laidOutB Try.prog = true := by kernel_rfl
theorem rr29 : Try.prog.readableRec 29 = true := by kernel_rfl
theorem rw29 : 29 < Try.prog.types.size := of_decide_eq_true (by kernel_rfl)
theorem ct0 : Try.prog.cellTypes Try.prog.depth 29 = some [28, 28] := by kernel_rfl
theorem cn0 : Try.prog.cellsOf 29 = 2 := by kernel_rfl
set_option maxRecDepth 100000 in
theorem openA0 {w : World} {r : Reach} {b0 : Nat} {v : Value} (hv : Value.okWide Try.prog w r b0 29 v) : ∃ (a0_0 : Int) (a0_1 : Int), v = .agg #[.int .u32 a0_0, .int .u32 a0_1] ∧ (Lit.int .u32 a0_0).wf = true ∧ (Lit.int .u32 a0_1).wf = true := by
  obtain ⟨cs, rfl, hsz, hrow⟩ : ∃ cs, v = .agg cs ∧ cs.size = Try.prog.cellsOf 29 ∧ Row.okWide Try.prog w r b0 29 cs := by
    unfold Value.okWide at hv; rw [Try.underlying29] at hv; exact hv
  obtain ⟨ts, hts, _, hc⟩ := hrow
  rw [ct0] at hts
  obtain rfl := Option.some.inj hts.symm
  rw [cn0] at hsz
  obtain ⟨l⟩ := cs
  match l, hsz, hc with
  | [c0, c1], _, hc =>
    obtain ⟨u0, hu0, hk0⟩ := hc 0 c0 rfl
    obtain rfl : 28 = u0 := Option.some.inj hu0
    obtain ⟨a0_0, rfl, w0_0⟩ := cell_int Try.underlying28 hk0
    obtain ⟨u1, hu1, hk1⟩ := hc 1 c1 rfl
    obtain rfl : 28 = u1 := Option.some.inj hu1
    obtain ⟨a0_1, rfl, w0_1⟩ := cell_int Try.underlying28 hk1
    exact ⟨a0_0, a0_1, rfl, w0_0, w0_1⟩
theorem ct1 : Try.prog.cellTypes Try.prog.depth 29 = some [28, 28] := by kernel_rfl
theorem cn1 : Try.prog.cellsOf 29 = 2 := by kernel_rfl
set_option maxRecDepth 100000 in
theorem openA1 {w : World} {r : Reach} {b0 : Nat} {v : Value} (hv : Value.okWide Try.prog w r b0 29 v) : ∃ (a1_0 : Int) (a1_1 : Int), v = .agg #[.int .u32 a1_0, .int .u32 a1_1] ∧ (Lit.int .u32 a1_0).wf = true ∧ (Lit.int .u32 a1_1).wf = true := by
  obtain ⟨cs, rfl, hsz, hrow⟩ : ∃ cs, v = .agg cs ∧ cs.size = Try.prog.cellsOf 29 ∧ Row.okWide Try.prog w r b0 29 cs := by
    unfold Value.okWide at hv; rw [Try.underlying29] at hv; exact hv
  obtain ⟨ts, hts, _, hc⟩ := hrow
  rw [ct1] at hts
  obtain rfl := Option.some.inj hts.symm
  rw [cn1] at hsz
  obtain ⟨l⟩ := cs
  match l, hsz, hc with
  | [c0, c1], _, hc =>
    obtain ⟨u0, hu0, hk0⟩ := hc 0 c0 rfl
    obtain rfl : 28 = u0 := Option.some.inj hu0
    obtain ⟨a1_0, rfl, w1_0⟩ := cell_int Try.underlying28 hk0
    obtain ⟨u1, hu1, hk1⟩ := hc 1 c1 rfl
    obtain rfl : 28 = u1 := Option.some.inj hu1
    obtain ⟨a1_1, rfl, w1_1⟩ := cell_int Try.underlying28 hk1
    exact ⟨a1_0, a1_1, rfl, w1_0, w1_1⟩
set_option maxRecDepth 100000 in
theorem lifted (os : Os) (started : os.Started) (H : Type) (enc : TypeId × Value → H) :
    ReturnsInHanded {} Try.checked os 4 .any (Rows.floatLessSpec.pre6 enc Try.prog Try.f4 Rows.floatLessRow.domain false) (Rows.floatLessSpec.post enc Try.prog Try.f4 false true false false) := by
  refine returnsInHanded_of_change (C := Try.checked) own started (by kernel_rfl) Try.func4
    (ChangeSpec.witness6 (enc := enc) (C := Try.checked) false ⟨#[], #[.agg #[.int .u32 0, .int .u32 0], .agg #[.int .u32 0, .int .u32 0], .int .i64 0], []⟩ 8 (by kernel_rfl) (by kernel_rfl) (by kernel_rfl) (by kernel_rfl)) ?_
  intro W base args ds gs before hval0 hW hcnd _
  have hval : ∀ (j : Nat) t v, Try.f4.params[j]? = some t → args[j]? = some v → Value.okWide Try.prog W .any base t v := hval0
  have hW' := hW
  obtain ⟨p, q, hA0, hV, rfl, hfz, hnd⟩ := hW
  have hA : DataW.TrodAll enc Try.prog W 0 (fun _ => true) true Try.f4.params.toList args.toList ds p := hA0
  rw [Try.params4] at hA hval
  obtain ⟨v0, vs0, d0, ds0, p0, q0, hargs, rfl, rfl, h0, r0⟩ := trodAll_cons hA
  obtain ⟨v1, vs1, d1, ds1, p1, q1, rfl, rfl, rfl, h1, r1⟩ := trodAll_cons r0
  obtain ⟨v2, vs2, d2, ds2, p2, q2, rfl, rfl, rfl, h2, r2⟩ := trodAll_cons r1
  obtain ⟨rfl, rfl, rfl⟩ := trodAll_nil r2
  obtain rfl : args = #[v0, v1, v2] := by cases args; simp_all
  obtain ⟨rfl, rfl⟩ := trodVars_none hV
  obtain ⟨a0_0, a0_1, rfl, w0_0, w0_1⟩ := openA0 (hval 0 29 v0 rfl rfl)
  obtain ⟨a1_0, a1_1, rfl, w1_0, w1_1⟩ := openA1 (hval 1 29 v1 rfl rfl)
  obtain ⟨a2, rfl, rfl, rfl, w2⟩ := open_int Try.underlying3 (hval 2 3 v2 rfl rfl) h2
  clear hA0 hval0
  refine (Go.Proofs.Ytdhingmjnhhjnaa.My.floatLess_w a0_0 a0_1 a1_0 a1_1 a2 W w0_0 w0_1 w1_0 w1_1 w2).mono fun e W' ⟨he, bel⟩ => ?_
  subst he
  exact ⟨_, rfl, _, _, _, [], _, [], hW', trodAll_mk1 (shut_bool Try.underlying4 _), (trodAll_cons_mk (Below.trod laidOut rr29 rw29 h0 bel (trodLt h0)) (trodAll_cons_mk (Below.trod laidOut rr29 rw29 h1 bel (trodLt h1)) (trodAll_cons_mk (shut_int Try.underlying3 w2) trodAll_mk0))), rfl, bel.frame _, fun h => by cases h⟩
theorem proved : Rows.FloatLessSaid :=
  OpenClaim.holds_of_wide 4 Try.f4 rfl rfl rfl rfl rfl rfl rfl ⟨rfl, rfl, rfl, rfl, rfl⟩ rfl rfl rfl rfl rfl (by kernel_rfl) Try.func4 (by kernel_rfl)
    (of_decide_eq_true (by kernel_rfl)) (by unfold Func.isWrapper; first | (rw [if_pos (by decide +kernel)]; kernel_rfl) | (rw [if_neg (by decide +kernel)]; exact ⟨rfl, rfl⟩))
    (fun os started H enc _ => lifted os started H enc)
end Go.Proofs.Ytdhingmjnhhjnaa.MyFloatLess
namespace Go.Proofs.Ytdhingmjnhhjnaa
/-- The law, under a short name. -/
theorem floatLess_holds : Rows.FloatLessSaid := MyFloatLess.proved
#print axioms floatLess_holds
end Go.Proofs.Ytdhingmjnhhjnaa
