/- The law hansom/hansomlaw33.AssumePicks: for every input the call returns true, and each argument reads behind it as it read before. No condition. -/
import Derived.Test.YtbkniomfegbdaaaRows
import Derived.Test.YtbkniomfegbdaaaASf
import Derived.WalkKit
import Derived.ProofKit
import Derived.OpenShut
import Derived.ShutString
import Derived.ChangeOld
import Derived.Below
import Derived.Carry
import Derived.SliceStrings
import Derived.SizedLaws
namespace Go.Proofs.Ytbkniomfegbdaaa.MyAssumePicks
open Go.ChangeShapes Go.WideShapes Go.ChangeAt Go.RowKit
open Go.ChangeMaps (open_string shut_string)
set_option linter.unusedVariables false
set_option linter.unusedSimpArgs false
theorem own : ownKnob Try.prog.godebug = none := by kernel_rfl
theorem trodLt {H : Type} {enc : TypeId × Value → H} {P : Program} {W : World} {base : Nat} {spare : Nat → Bool} {held : Bool} {t : TypeId} {v : Value} {d : DataW H} {ps : List MemPlace} (h : DataW.Trod enc P W base spare held t v d ps) : ∀ x ∈ ps, x.block < W.heap.size := by
  obtain ⟨n, hf⟩ := h
  exact DataW.trod_lt n t _ _ hf
theorem cell_int {P : Program} {w : World} {r : Reach} {b : Nat} {u : TypeId} {k : IntKind} {v : Value} (hu : P.underlying u = some (.int k)) (h : Cell.okWide P w r b u v) : ∃ n, v = .int k n ∧ (Lit.int k n).wf = true := by
  simp only [Cell.okWide, hu] at h
  cases v <;> simp_all [Cell.ok, IntKind.has, Lit.wf]
theorem cell_bool {P : Program} {w : World} {r : Reach} {b : Nat} {u : TypeId} {v : Value} (hu : P.underlying u = some .bool) (h : Cell.okWide P w r b u v) : ∃ x, v = .bool x := by
  simp only [Cell.okWide, hu] at h
  cases v <;> simp_all [Cell.ok]
theorem cell_string {P : Program} {w : World} {r : Reach} {b : Nat} {u : TypeId} {v : Value} (hu : P.underlying u = some .string) (h : Cell.okWide P w r b u v) : ∃ s, v = .string s ∧ (s.size : Int) ≤ IntKind.i64.max := by
  simp only [Cell.okWide, hu] at h
  cases v <;> simp_all [Cell.ok]
theorem laidOut : laidOutB Try.prog = true := by kernel_rfl
theorem rr22 : Try.prog.readableRec 22 = true := by kernel_rfl
theorem rw22 : 22 < Try.prog.types.size := of_decide_eq_true (by kernel_rfl)
theorem ct0 : Try.prog.cellTypes Try.prog.depth 22 = some [3, 3, 3, 3, 3, 3, 3, 3] := by kernel_rfl
theorem cn0 : Try.prog.cellsOf 22 = 8 := by kernel_rfl
set_option maxRecDepth 100000 in
theorem openA0 {w : World} {r : Reach} {b0 : Nat} {v : Value} (hv : Value.okWide Try.prog w r b0 22 v) : ∃ (a0_0 : Int) (a0_1 : Int) (a0_2 : Int) (a0_3 : Int) (a0_4 : Int) (a0_5 : Int) (a0_6 : Int) (a0_7 : Int), v = .agg #[.int .i64 a0_0, .int .i64 a0_1, .int .i64 a0_2, .int .i64 a0_3, .int .i64 a0_4, .int .i64 a0_5, .int .i64 a0_6, .int .i64 a0_7] ∧ (Lit.int .i64 a0_0).wf = true ∧ (Lit.int .i64 a0_1).wf = true ∧ (Lit.int .i64 a0_2).wf = true ∧ (Lit.int .i64 a0_3).wf = true ∧ (Lit.int .i64 a0_4).wf = true ∧ (Lit.int .i64 a0_5).wf = true ∧ (Lit.int .i64 a0_6).wf = true ∧ (Lit.int .i64 a0_7).wf = true := by
  obtain ⟨cs, rfl, hsz, hrow⟩ : ∃ cs, v = .agg cs ∧ cs.size = Try.prog.cellsOf 22 ∧ Row.okWide Try.prog w r b0 22 cs := by
    unfold Value.okWide at hv; rw [Try.underlying22] at hv; exact hv
  obtain ⟨ts, hts, _, hc⟩ := hrow
  rw [ct0] at hts
  obtain rfl := Option.some.inj hts.symm
  rw [cn0] at hsz
  obtain ⟨l⟩ := cs
  match l, hsz, hc with
  | [c0, c1, c2, c3, c4, c5, c6, c7], _, hc =>
    obtain ⟨u0, hu0, hk0⟩ := hc 0 c0 rfl
    obtain rfl : 3 = u0 := Option.some.inj hu0
    obtain ⟨a0_0, rfl, w0_0⟩ := cell_int Try.underlying3 hk0
    obtain ⟨u1, hu1, hk1⟩ := hc 1 c1 rfl
    obtain rfl : 3 = u1 := Option.some.inj hu1
    obtain ⟨a0_1, rfl, w0_1⟩ := cell_int Try.underlying3 hk1
    obtain ⟨u2, hu2, hk2⟩ := hc 2 c2 rfl
    obtain rfl : 3 = u2 := Option.some.inj hu2
    obtain ⟨a0_2, rfl, w0_2⟩ := cell_int Try.underlying3 hk2
    obtain ⟨u3, hu3, hk3⟩ := hc 3 c3 rfl
    obtain rfl : 3 = u3 := Option.some.inj hu3
    obtain ⟨a0_3, rfl, w0_3⟩ := cell_int Try.underlying3 hk3
    obtain ⟨u4, hu4, hk4⟩ := hc 4 c4 rfl
    obtain rfl : 3 = u4 := Option.some.inj hu4
    obtain ⟨a0_4, rfl, w0_4⟩ := cell_int Try.underlying3 hk4
    obtain ⟨u5, hu5, hk5⟩ := hc 5 c5 rfl
    obtain rfl : 3 = u5 := Option.some.inj hu5
    obtain ⟨a0_5, rfl, w0_5⟩ := cell_int Try.underlying3 hk5
    obtain ⟨u6, hu6, hk6⟩ := hc 6 c6 rfl
    obtain rfl : 3 = u6 := Option.some.inj hu6
    obtain ⟨a0_6, rfl, w0_6⟩ := cell_int Try.underlying3 hk6
    obtain ⟨u7, hu7, hk7⟩ := hc 7 c7 rfl
    obtain rfl : 3 = u7 := Option.some.inj hu7
    obtain ⟨a0_7, rfl, w0_7⟩ := cell_int Try.underlying3 hk7
    exact ⟨a0_0, a0_1, a0_2, a0_3, a0_4, a0_5, a0_6, a0_7, rfl, w0_0, w0_1, w0_2, w0_3, w0_4, w0_5, w0_6, w0_7⟩
theorem rr24 : Try.prog.readableRec 24 = true := by kernel_rfl
theorem rw24 : 24 < Try.prog.types.size := of_decide_eq_true (by kernel_rfl)
theorem ct1 : Try.prog.cellTypes Try.prog.depth 24 = some [3, 3, 3, 3, 3, 4] := by kernel_rfl
theorem cn1 : Try.prog.cellsOf 24 = 6 := by kernel_rfl
set_option maxRecDepth 100000 in
theorem openA1 {w : World} {r : Reach} {b0 : Nat} {v : Value} (hv : Value.okWide Try.prog w r b0 24 v) : ∃ (a1_0 : Int) (a1_1 : Int) (a1_2 : Int) (a1_3 : Int) (a1_4 : Int) (a1_5 : Bool), v = .agg #[.int .i64 a1_0, .int .i64 a1_1, .int .i64 a1_2, .int .i64 a1_3, .int .i64 a1_4, .bool a1_5] ∧ (Lit.int .i64 a1_0).wf = true ∧ (Lit.int .i64 a1_1).wf = true ∧ (Lit.int .i64 a1_2).wf = true ∧ (Lit.int .i64 a1_3).wf = true ∧ (Lit.int .i64 a1_4).wf = true := by
  obtain ⟨cs, rfl, hsz, hrow⟩ : ∃ cs, v = .agg cs ∧ cs.size = Try.prog.cellsOf 24 ∧ Row.okWide Try.prog w r b0 24 cs := by
    unfold Value.okWide at hv; rw [Try.underlying24] at hv; exact hv
  obtain ⟨ts, hts, _, hc⟩ := hrow
  rw [ct1] at hts
  obtain rfl := Option.some.inj hts.symm
  rw [cn1] at hsz
  obtain ⟨l⟩ := cs
  match l, hsz, hc with
  | [c0, c1, c2, c3, c4, c5], _, hc =>
    obtain ⟨u0, hu0, hk0⟩ := hc 0 c0 rfl
    obtain rfl : 3 = u0 := Option.some.inj hu0
    obtain ⟨a1_0, rfl, w1_0⟩ := cell_int Try.underlying3 hk0
    obtain ⟨u1, hu1, hk1⟩ := hc 1 c1 rfl
    obtain rfl : 3 = u1 := Option.some.inj hu1
    obtain ⟨a1_1, rfl, w1_1⟩ := cell_int Try.underlying3 hk1
    obtain ⟨u2, hu2, hk2⟩ := hc 2 c2 rfl
    obtain rfl : 3 = u2 := Option.some.inj hu2
    obtain ⟨a1_2, rfl, w1_2⟩ := cell_int Try.underlying3 hk2
    obtain ⟨u3, hu3, hk3⟩ := hc 3 c3 rfl
    obtain rfl : 3 = u3 := Option.some.inj hu3
    obtain ⟨a1_3, rfl, w1_3⟩ := cell_int Try.underlying3 hk3
    obtain ⟨u4, hu4, hk4⟩ := hc 4 c4 rfl
    obtain rfl : 3 = u4 := Option.some.inj hu4
    obtain ⟨a1_4, rfl, w1_4⟩ := cell_int Try.underlying3 hk4
    obtain ⟨u5, hu5, hk5⟩ := hc 5 c5 rfl
    obtain rfl : 4 = u5 := Option.some.inj hu5
    obtain ⟨a1_5, rfl⟩ := cell_bool Try.underlying4 hk5
    exact ⟨a1_0, a1_1, a1_2, a1_3, a1_4, a1_5, rfl, w1_0, w1_1, w1_2, w1_3, w1_4⟩
theorem rr25 : Try.prog.readableRec 25 = true := by kernel_rfl
theorem rw25 : 25 < Try.prog.types.size := of_decide_eq_true (by kernel_rfl)
set_option maxRecDepth 100000 in
theorem lifted (os : Os) (started : os.Started) (H : Type) (enc : TypeId × Value → H) :
    ReturnsInHanded {} Try.checked os 3 .any (Rows.assumePicksSpec.pre6 enc Try.prog Try.f3 Rows.assumePicksRow.domain false) (Rows.assumePicksSpec.post enc Try.prog Try.f3 false true false false) := by
  refine returnsInHanded_of_change (C := Try.checked) own started (by kernel_rfl) Try.func3
    (ChangeSpec.witness6 (enc := enc) (C := Try.checked) false ⟨#[], #[.agg #[.int .i64 0, .int .i64 0, .int .i64 0, .int .i64 0, .int .i64 0, .int .i64 0, .int .i64 0, .int .i64 0], .agg #[.int .i64 0, .int .i64 0, .int .i64 0, .int .i64 0, .int .i64 0, .bool false], .slice none 0 0], []⟩ 8 (by kernel_rfl) (by kernel_rfl) (by kernel_rfl) (by kernel_rfl)) ?_
  intro W base args ds gs before hval0 hW hcnd _
  have hval : ∀ (j : Nat) t v, Try.f3.params[j]? = some t → args[j]? = some v → Value.okWide Try.prog W .any base t v := hval0
  have hW' := hW
  obtain ⟨p, q, hA0, hV, rfl, hfz, hnd⟩ := hW
  have hA : DataW.TrodAll enc Try.prog W 0 (fun _ => true) true Try.f3.params.toList args.toList ds p := hA0
  rw [Try.params3] at hA hval
  obtain ⟨v0, vs0, d0, ds0, p0, q0, hargs, rfl, rfl, h0, r0⟩ := trodAll_cons hA
  obtain ⟨v1, vs1, d1, ds1, p1, q1, rfl, rfl, rfl, h1, r1⟩ := trodAll_cons r0
  obtain ⟨v2, vs2, d2, ds2, p2, q2, rfl, rfl, rfl, h2, r2⟩ := trodAll_cons r1
  obtain ⟨rfl, rfl, rfl⟩ := trodAll_nil r2
  obtain rfl : args = #[v0, v1, v2] := by cases args; simp_all
  obtain ⟨rfl, rfl⟩ := trodVars_none hV
  obtain ⟨a0_0, a0_1, a0_2, a0_3, a0_4, a0_5, a0_6, a0_7, rfl, w0_0, w0_1, w0_2, w0_3, w0_4, w0_5, w0_6, w0_7⟩ := openA0 (hval 0 22 v0 rfl rfl)
  obtain ⟨a1_0, a1_1, a1_2, a1_3, a1_4, a1_5, rfl, w1_0, w1_1, w1_2, w1_3, w1_4⟩ := openA1 (hval 1 24 v1 rfl rfl)
  obtain ⟨A2, len2, c2, rfl⟩ := okWide_slice Try.underlying25 (hval 2 25 v2 rfl rfl)
  have lt2 := trodLt h2
  obtain ⟨rs2, hr2, hw2, hc2⟩ := VM.open_nest (ks := [.sl [.int .i64]]) Try.underlying25 (by kernel_rfl) (by kernel_rfl) (by decide) (hval 2 25 _ rfl rfl) h2
  clear hA0 hval0
  refine (Go.Proofs.Ytbkniomfegbdaaa.VM.assumePicks_w a0_0 a0_1 a0_2 a0_3 a0_4 a0_5 a0_6 a0_7 a1_0 a1_1 a1_2 a1_3 a1_4 a1_5 A2 len2 c2 rs2 W w0_0 w0_1 w0_2 w0_3 w0_4 w0_5 w0_6 w0_7 w1_0 w1_1 w1_2 w1_3 w1_4 hr2 hw2 hc2).mono fun e W' ⟨he, bel⟩ => ?_
  subst he
  exact ⟨_, rfl, _, _, _, [], _, [], hW', trodAll_mk1 (shut_bool Try.underlying4 _), (trodAll_cons_mk (Below.trod laidOut rr22 rw22 h0 bel (trodLt h0)) (trodAll_cons_mk (Below.trod laidOut rr24 rw24 h1 bel (trodLt h1)) (trodAll_cons_mk (Below.trod laidOut rr25 rw25 h2 bel lt2) trodAll_mk0))), rfl, bel.frame _, fun h => by cases h⟩
theorem proved : Rows.AssumePicksSaid :=
  OpenClaim.holds_of_wide 3 Try.f3 rfl rfl rfl rfl rfl rfl rfl ⟨rfl, rfl, rfl, rfl, rfl⟩ rfl rfl rfl rfl rfl (by kernel_rfl) Try.func3 (by kernel_rfl)
    (of_decide_eq_true (by kernel_rfl)) (by unfold Func.isWrapper; first | (rw [if_pos (by decide +kernel)]; kernel_rfl) | (rw [if_neg (by decide +kernel)]; exact ⟨rfl, rfl⟩))
    (fun os started H enc _ => lifted os started H enc)
end Go.Proofs.Ytbkniomfegbdaaa.MyAssumePicks
namespace Go.Proofs.Ytbkniomfegbdaaa
/-- The law, under a short name. -/
theorem assumePicks_holds : Rows.AssumePicksSaid := MyAssumePicks.proved
#print axioms assumePicks_holds
end Go.Proofs.Ytbkniomfegbdaaa
