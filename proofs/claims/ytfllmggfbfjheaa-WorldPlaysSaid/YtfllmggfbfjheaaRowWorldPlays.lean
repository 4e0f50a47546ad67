/- The law hansom/hansomlaw12.WorldPlays: for every input the call returns true, and each argument reads behind it as it read before. No condition. -/
import Derived.Test.YtfllmggfbfjheaaRows
import Derived.Test.YtfllmggfbfjheaaWV
import Derived.WalkKit
import Derived.ProofKit
import Derived.OpenShut
import Derived.ShutString
import Derived.ChangeOld
import Derived.Below
import Derived.Carry
import Derived.SliceStrings
import Derived.SizedLaws
namespace Go.Proofs.Ytfllmggfbfjheaa.MyWorldPlays
open Go.ChangeShapes Go.WideShapes Go.ChangeAt Go.RowKit
open Go.ChangeMaps (open_string shut_string)
set_option linter.unusedVariables false
set_option linter.unusedSimpArgs false
theorem own : ownKnob Try.prog.godebug = none := by kernel_rfl
theorem trodLt {H : Type} {enc : TypeId × Value → H} {P : Program} {W : World} {base : Nat} {spare : Nat → Bool} {held : Bool} {t : TypeId} {v : Value} {d : DataW H} {ps : List MemPlace} (h : DataW.Trod enc P W base spare held t v d ps) : ∀ x ∈ ps, x.block < W.heap.size := by
  obtain ⟨n, hf⟩ := h
  exact DataW.trod_lt n t _ _ hf
theorem cell_int {P : Program} {w : World} {r : Reach} {b : Nat} {u : TypeId} {k : IntKind} {v : Value} (hu : P.underlying u = some (.int k)) (h : Cell.okWide P w r b u v) : ∃ n, v = .int k n ∧ (Lit.int k n).wf = true := by
  simp only [Cell.okWide, hu] at h
  cases v <;> simp_all [Cell.ok, IntKind.has, Lit.wf]
theorem cell_bool {P : Program} {w : World} {r : Reach} {b : Nat} {u : TypeId} {v : Value} (hu : P.underlying u = some .bool) (h : Cell.okWide P w r b u v) : ∃ x, v = .bool x := by
  simp only [Cell.okWide, hu] at h
  cases v <;> simp_all [Cell.ok]
theorem cell_string {P : Program} {w : World} {r : Reach} {b : Nat} {u : TypeId} {v : Value} (hu : P.underlying u = some .string) (h : Cell.okWide P w r b u v) : ∃ s, v = .string s ∧ (s.size : Int) ≤ IntKind.i64.max := by
  simp only [Cell.okWide, hu] at h
  cases v <;> simp_all [Cell.ok]
theorem laidOut : laidOutB Try.prog = true := by kernel_rfl
theorem rr60 : Try.prog.readableRec 60 = true := by kernel_rfl
theorem rw60 : 60 < Try.prog.types.size := of_decide_eq_true (by kernel_rfl)
theorem rr61 : Try.prog.readableRec 61 = true := by kernel_rfl
theorem rw61 : 61 < Try.prog.types.size := of_decide_eq_true (by kernel_rfl)
set_option maxRecDepth 100000 in
theorem lifted (os : Os) (started : os.Started) (H : Type) (enc : TypeId × Value → H) :
    ReturnsInHanded {} Try.checked os 6 .any (Rows.worldPlaysSpec.pre6 enc Try.prog Try.f6 Rows.worldPlaysRow.domain false) (Rows.worldPlaysSpec.post enc Try.prog Try.f6 false true false false) := by
  refine returnsInHanded_of_change_sized (C := Try.checked) own started (by kernel_rfl) Try.func6
    (ChangeSpec.witness6 (enc := enc) (C := Try.checked) false ⟨#[], #[.slice none 0 0, .slice none 0 0], []⟩ 8 (by kernel_rfl) (by kernel_rfl) (by kernel_rfl) (by kernel_rfl)) ?_
  intro W base args ds gs before hval0 hW hcnd hsz _
  have hval : ∀ (j : Nat) t v, Try.f6.params[j]? = some t → args[j]? = some v → Value.okWide Try.prog W .any base t v := hval0
  have hW' := hW
  obtain ⟨p, q, hA0, hV, rfl, hfz, hnd⟩ := hW
  have hA : DataW.TrodAll enc Try.prog W 0 (fun _ => true) true Try.f6.params.toList args.toList ds p := hA0
  rw [Try.params6] at hA hval
  obtain ⟨v0, vs0, d0, ds0, p0, q0, hargs, rfl, rfl, h0, r0⟩ := trodAll_cons hA
  obtain ⟨v1, vs1, d1, ds1, p1, q1, rfl, rfl, rfl, h1, r1⟩ := trodAll_cons r0
  obtain ⟨rfl, rfl, rfl⟩ := trodAll_nil r1
  obtain rfl : args = #[v0, v1] := by cases args; simp_all
  obtain ⟨rfl, rfl⟩ := trodVars_none hV
  obtain ⟨A0, len0, c0, rfl⟩ := okWide_slice Try.underlying60 (hval 0 60 v0 rfl rfl)
  have lt0 := trodLt h0
  obtain ⟨els0, hr0, hw0, hc0⟩ := VM.open_flat (ks := [.int .u16]) Try.underlying60 (by kernel_rfl) (by kernel_rfl) (by decide) (hval 0 60 _ rfl rfl) h0
  have hz0 : len0 * Try.prog.bytesOf 65 ≤ reachBytes := by
    rcases VM.open_size Try.underlying60 h0 with z | ⟨el, sp, rfl, hel⟩
    · rw [z, Nat.zero_mul]; exact Nat.zero_le _
    · have hb := sized_slice hsz (j := 0) (t := 60) (e := 65) rfl rfl Try.underlying60
      exact Nat.le_trans (Nat.mul_le_mul_right _ (by omega)) hb
  rw [show Try.prog.bytesOf 65 = 2 by kernel_rfl] at hz0
  obtain ⟨A1, len1, c1, rfl⟩ := okWide_slice Try.underlying61 (hval 1 61 v1 rfl rfl)
  have lt1 := trodLt h1
  obtain ⟨els1, hr1, hw1, hc1⟩ := VM.open_flat (ks := [.int .i64, .int .u16, .int .u16, .bool]) Try.underlying61 (by kernel_rfl) (by kernel_rfl) (by decide) (hval 1 61 _ rfl rfl) h1
  clear hA0 hval0
  refine (Go.Proofs.Ytfllmggfbfjheaa.VM.worldPlays_w A0 len0 c0 els0 A1 len1 c1 els1 W hr0 hw0 hc0 hz0 hr1 hw1 hc1).mono fun e W' ⟨he, bel⟩ => ?_
  subst he
  exact ⟨_, rfl, _, _, _, [], _, [], hW', trodAll_mk1 (shut_bool Try.underlying4 _), (trodAll_cons_mk (Below.trod laidOut rr60 rw60 h0 bel lt0) (trodAll_cons_mk (Below.trod laidOut rr61 rw61 h1 bel lt1) trodAll_mk0)), rfl, bel.frame _, fun h => by cases h⟩
theorem proved : Rows.WorldPlaysSaid :=
  OpenClaim.holds_of_wide 6 Try.f6 rfl rfl rfl rfl rfl rfl rfl ⟨rfl, rfl, rfl, rfl, rfl⟩ rfl rfl rfl rfl rfl (by kernel_rfl) Try.func6 (by kernel_rfl)
    (of_decide_eq_true (by kernel_rfl)) (by unfold Func.isWrapper; first | (rw [if_pos (by decide +kernel)]; kernel_rfl) | (rw [if_neg (by decide +kernel)]; exact ⟨rfl, rfl⟩))
    (fun os started H enc _ => lifted os started H enc)
end Go.Proofs.Ytfllmggfbfjheaa.MyWorldPlays
namespace Go.Proofs.Ytfllmggfbfjheaa
/-- The law, under a short name. -/
theorem worldPlays_holds : Rows.WorldPlaysSaid := MyWorldPlays.proved
#print axioms worldPlays_holds
end Go.Proofs.Ytfllmggfbfjheaa
