/- The law hansom/hansomlaw12.WorldApart: for every input the call returns true, and each argument reads behind it as it read before. No condition. -/
import Derived.Test.YtielhghmihlfkaaRows
import Derived.Test.YtielhghmihlfkaaWDd
import Derived.WalkKit
import Derived.ProofKit
import Derived.OpenShut
import Derived.ShutString
import Derived.ChangeOld
import Derived.Below
import Derived.Carry
import Derived.SliceStrings
import Derived.SizedLaws
namespace Go.Proofs.Ytielhghmihlfkaa.MyWorldApart
open Go.ChangeShapes Go.WideShapes Go.ChangeAt Go.RowKit
open Go.ChangeMaps (open_string shut_string)
set_option linter.unusedVariables false
set_option linter.unusedSimpArgs false
theorem own : ownKnob Try.prog.godebug = none := by kernel_rfl
theorem trodLt {H : Type} {enc : TypeId × Value → H} {P : Program} {W : World} {base : Nat} {spare : Nat → Bool} {held : Bool} {t : TypeId} {v : Value} {d : DataW H} {ps : List MemPlace} (h : DataW.Trod enc P W base spare held t v d ps) : ∀ x ∈ ps, x.block < W.heap.size := by
  obtain ⟨n, hf⟩ := h
  exact DataW.trod_lt n t _ _ hf
theorem cell_int {P : Program} {w : World} {r : Reach} {b : Nat} {u : TypeId} {k : IntKind} {v : Value} (hu : P.underlying u = some (.int k)) (h : Cell.okWide P w r b u v) : ∃ n, v = .int k n ∧ (Lit.int k n).wf = true := by
  simp only [Cell.okWide, hu] at h
  cases v <;> simp_all [Cell.ok, IntKind.has, Lit.wf]
theorem cell_bool {P : Program} {w : World} {r : Reach} {b : Nat} {u : TypeId} {v : Value} (hu : P.underlying u = some .bool) (h : Cell.okWide P w r b u v) : ∃ x, v = .bool x := by
  simp only [Cell.okWide, hu] at h
  cases v <;> simp_all [Cell.ok]
theorem cell_string {P : Program} {w : World} {r : Reach} {b : Nat} {u : TypeId} {v : Value} (hu : P.underlying u = some .string) (h : Cell.okWide P w r b u v) : ∃ s, v = .string s ∧ (s.size : Int) ≤ IntKind.i64.max := by
  simp only [Cell.okWide, hu] at h
  cases v <;> simp_all [Cell.ok]
theorem laidOut : laidOutB Try.prog = true := by kernel_rfl
theorem rr64 : Try.prog.readableRec 64 = true := by kernel_rfl
theorem rw64 : 64 < Try.prog.types.size := of_decide_eq_true (by kernel_rfl)
theorem rr70 : Try.prog.readableRec 70 = true := by kernel_rfl
theorem rw70 : 70 < Try.prog.types.size := of_decide_eq_true (by kernel_rfl)
theorem ct2 : Try.prog.cellTypes Try.prog.depth 70 = some [3, 65, 65, 65, 65, 65, 65] := by kernel_rfl
theorem cn2 : Try.prog.cellsOf 70 = 7 := by kernel_rfl
set_option maxRecDepth 100000 in
theorem openA2 {w : World} {r : Reach} {b0 : Nat} {v : Value} (hv : Value.okWide Try.prog w r b0 70 v) : ∃ (a2_0 : Int) (a2_1 : Int) (a2_2 : Int) (a2_3 : Int) (a2_4 : Int) (a2_5 : Int) (a2_6 : Int), v = .agg #[.int .i64 a2_0, .int .u16 a2_1, .int .u16 a2_2, .int .u16 a2_3, .int .u16 a2_4, .int .u16 a2_5, .int .u16 a2_6] ∧ (Lit.int .i64 a2_0).wf = true ∧ (Lit.int .u16 a2_1).wf = true ∧ (Lit.int .u16 a2_2).wf = true ∧ (Lit.int .u16 a2_3).wf = true ∧ (Lit.int .u16 a2_4).wf = true ∧ (Lit.int .u16 a2_5).wf = true ∧ (Lit.int .u16 a2_6).wf = true := by
  obtain ⟨cs, rfl, hsz, hrow⟩ : ∃ cs, v = .agg cs ∧ cs.size = Try.prog.cellsOf 70 ∧ Row.okWide Try.prog w r b0 70 cs := by
    unfold Value.okWide at hv; rw [Try.underlying70] at hv; exact hv
  obtain ⟨ts, hts, _, hc⟩ := hrow
  rw [ct2] at hts
  obtain rfl := Option.some.inj hts.symm
  rw [cn2] at hsz
  obtain ⟨l⟩ := cs
  match l, hsz, hc with
  | [c0, c1, c2, c3, c4, c5, c6], _, hc =>
    obtain ⟨u0, hu0, hk0⟩ := hc 0 c0 rfl
    obtain rfl : 3 = u0 := Option.some.inj hu0
    obtain ⟨a2_0, rfl, w2_0⟩ := cell_int Try.underlying3 hk0
    obtain ⟨u1, hu1, hk1⟩ := hc 1 c1 rfl
    obtain rfl : 65 = u1 := Option.some.inj hu1
    obtain ⟨a2_1, rfl, w2_1⟩ := cell_int Try.underlying65 hk1
    obtain ⟨u2, hu2, hk2⟩ := hc 2 c2 rfl
    obtain rfl : 65 = u2 := Option.some.inj hu2
    obtain ⟨a2_2, rfl, w2_2⟩ := cell_int Try.underlying65 hk2
    obtain ⟨u3, hu3, hk3⟩ := hc 3 c3 rfl
    obtain rfl : 65 = u3 := Option.some.inj hu3
    obtain ⟨a2_3, rfl, w2_3⟩ := cell_int Try.underlying65 hk3
    obtain ⟨u4, hu4, hk4⟩ := hc 4 c4 rfl
    obtain rfl : 65 = u4 := Option.some.inj hu4
    obtain ⟨a2_4, rfl, w2_4⟩ := cell_int Try.underlying65 hk4
    obtain ⟨u5, hu5, hk5⟩ := hc 5 c5 rfl
    obtain rfl : 65 = u5 := Option.some.inj hu5
    obtain ⟨a2_5, rfl, w2_5⟩ := cell_int Try.underlying65 hk5
    obtain ⟨u6, hu6, hk6⟩ := hc 6 c6 rfl
    obtain rfl : 65 = u6 := Option.some.inj hu6
    obtain ⟨a2_6, rfl, w2_6⟩ := cell_int Try.underlying65 hk6
    exact ⟨a2_0, a2_1, a2_2, a2_3, a2_4, a2_5, a2_6, rfl, w2_0, w2_1, w2_2, w2_3, w2_4, w2_5, w2_6⟩
set_option maxRecDepth 100000 in
theorem lifted (os : Os) (started : os.Started) (H : Type) (enc : TypeId × Value → H) :
    ReturnsInHanded {} Try.checked os 7 .any (Rows.worldApartSpec.pre6 enc Try.prog Try.f7 Rows.worldApartRow.domain false) (Rows.worldApartSpec.post enc Try.prog Try.f7 false true false false) := by
  refine returnsInHanded_of_change (C := Try.checked) own started (by kernel_rfl) Try.func7
    (ChangeSpec.witness6 (enc := enc) (C := Try.checked) false ⟨#[], #[.slice none 0 0, .int .i64 0, .agg #[.int .i64 0, .int .u16 0, .int .u16 0, .int .u16 0, .int .u16 0, .int .u16 0, .int .u16 0]], []⟩ 8 (by kernel_rfl) (by kernel_rfl) (by kernel_rfl) (by kernel_rfl)) ?_
  intro W base args ds gs before hval0 hW hcnd _
  have hval : ∀ (j : Nat) t v, Try.f7.params[j]? = some t → args[j]? = some v → Value.okWide Try.prog W .any base t v := hval0
  have hW' := hW
  obtain ⟨p, q, hA0, hV, rfl, hfz, hnd⟩ := hW
  have hA : DataW.TrodAll enc Try.prog W 0 (fun _ => true) true Try.f7.params.toList args.toList ds p := hA0
  rw [Try.params7] at hA hval
  obtain ⟨v0, vs0, d0, ds0, p0, q0, hargs, rfl, rfl, h0, r0⟩ := trodAll_cons hA
  obtain ⟨v1, vs1, d1, ds1, p1, q1, rfl, rfl, rfl, h1, r1⟩ := trodAll_cons r0
  obtain ⟨v2, vs2, d2, ds2, p2, q2, rfl, rfl, rfl, h2, r2⟩ := trodAll_cons r1
  obtain ⟨rfl, rfl, rfl⟩ := trodAll_nil r2
  obtain rfl : args = #[v0, v1, v2] := by cases args; simp_all
  obtain ⟨rfl, rfl⟩ := trodVars_none hV
  obtain ⟨A0, len0, c0, rfl⟩ := okWide_slice Try.underlying64 (hval 0 64 v0 rfl rfl)
  have lt0 := trodLt h0
  obtain ⟨els0, hr0, hw0, hc0⟩ := VM.open_flat (ks := [.int .i64, .int .u16, .int .u16, .int .u16, .int .u16, .int .u16, .int .u16]) Try.underlying64 (by kernel_rfl) (by kernel_rfl) (by decide) (hval 0 64 _ rfl rfl) h0
  obtain ⟨a1, rfl, rfl, rfl, w1⟩ := open_int Try.underlying3 (hval 1 3 v1 rfl rfl) h1
  obtain ⟨a2_0, a2_1, a2_2, a2_3, a2_4, a2_5, a2_6, rfl, w2_0, w2_1, w2_2, w2_3, w2_4, w2_5, w2_6⟩ := openA2 (hval 2 70 v2 rfl rfl)
  clear hA0 hval0
  refine (Go.Proofs.Ytielhghmihlfkaa.VM.worldApart_w A0 len0 c0 els0 a1 a2_0 a2_1 a2_2 a2_3 a2_4 a2_5 a2_6 W hr0 hw0 hc0 w1 w2_0 w2_1 w2_2 w2_3 w2_4 w2_5 w2_6).mono fun e W' ⟨he, bel⟩ => ?_
  subst he
  exact ⟨_, rfl, _, _, _, [], _, [], hW', trodAll_mk1 (shut_bool Try.underlying4 _), (trodAll_cons_mk (Below.trod laidOut rr64 rw64 h0 bel lt0) (trodAll_cons_mk (shut_int Try.underlying3 w1) (trodAll_cons_mk (Below.trod laidOut rr70 rw70 h2 bel (trodLt h2)) trodAll_mk0))), rfl, bel.frame _, fun h => by cases h⟩
theorem proved : Rows.WorldApartSaid :=
  OpenClaim.holds_of_wide 7 Try.f7 rfl rfl rfl rfl rfl rfl rfl ⟨rfl, rfl, rfl, rfl, rfl⟩ rfl rfl rfl rfl rfl (by kernel_rfl) Try.func7 (by kernel_rfl)
    (of_decide_eq_true (by kernel_rfl)) (by unfold Func.isWrapper; first | (rw [if_pos (by decide +kernel)]; kernel_rfl) | (rw [if_neg (by decide +kernel)]; exact ⟨rfl, rfl⟩))
    (fun os started H enc _ => lifted os started H enc)
end Go.Proofs.Ytielhghmihlfkaa.MyWorldApart
namespace Go.Proofs.Ytielhghmihlfkaa
/-- The law, under a short name. -/
theorem worldApart_holds : Rows.WorldApartSaid := MyWorldApart.proved
#print axioms worldApart_holds
end Go.Proofs.Ytielhghmihlfkaa
