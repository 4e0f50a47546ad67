/- AssumePicks by the plain machine: the law. -/
import Derived.Test.YtbkniomfegbdaaaASn
namespace Go.Proofs.Ytbkniomfegbdaaa.VM
open Go Go.RowKit Go.ChangeShapes
set_option linter.unusedVariables false
set_option linter.unusedSimpArgs false
set_option maxRecDepth 100000
set_option maxHeartbeats 3200000
theorem nestV_one {ksz : Nat} : ∀ {l : List Inn} {b : Nat} (i : Nat), (∀ r ∈ l, r.pre = []) → (nestV ksz b l)[i]? = (l[i]?).map fun r => slVal (b + i) ksz r.A r.n
  | [], b, i, _ => by simp [nestV]
  | r :: l, b, i, h => by
    simp only [nestV, Inn.cells, h r (by simp), List.nil_append, List.cons_append]
    cases i with
    | zero => simp
    | succ i =>
      rw [List.getElem?_cons_succ, List.getElem?_cons_succ, nestV_one i fun r hr => h r (by simp [hr])]
      rw [show b + 1 + i = b + (i + 1) by omega]
theorem toIRow : ∀ {els : List (List Val)} (h : ∀ el ∈ els, rowOk [.int .i64] el), ∃ y : List Int, els = y.map fun n => [.int .i64 n]
  | [], _ => ⟨[], rfl⟩
  | el :: els, h => by
    have h1 := h el (by simp)
    obtain ⟨l, rfl⟩ := toIRow (els := els) fun x hx => h x (by simp [hx])
    match el, h1 with
    | [.int k n], h1 =>
      obtain ⟨⟨rfl, hw⟩, _⟩ := h1
      exact ⟨n :: l, rfl⟩
theorem flat_iV (y : List Int) : (y.map fun n => [Val.int .i64 n]).flatten = iV y := by
  induction y with
  | nil => rfl
  | cons b l ih => simp only [List.map_cons, List.flatten_cons, ih]; rfl
theorem inG_of {W : World} {n : Nat} {l : List Inn} (hm : l.length = min n 3) (h : ∀ (i : Nat) (x : Inn), l[i]? = some x → ∃ vs, InnIs W [] [.int .i64] x vs) :
    ∃ Y : List (List Int), InG (⟨nestV 1 1 l, true⟩ :: nestH l) n (nestV 1 1 l) Y ∧ ∀ y ∈ Y, y.length < 9223372036854775808 := by
  have hpre : ∀ r ∈ l, r.pre = [] := by
    intro r hr
    obtain ⟨i, hi, rfl⟩ := List.getElem_of_mem hr
    obtain ⟨vs, pv, _, _, _, h5, _⟩ := h i _ (List.getElem?_eq_getElem hi)
    exact List.length_eq_zero_iff.1 (rowOk_length h5)
  have hY : ∀ i (hi : i < l.length), ∃ y : List Int, l[i].els.flatten = iV y ∧ y.length = l[i].n ∧ l[i].els.length = l[i].n := by
    intro i hi
    obtain ⟨vs, pv, _, _, _, _, h6, h7, h8⟩ := h i _ (List.getElem?_eq_getElem hi)
    obtain ⟨y, hy⟩ := toIRow h7
    exact ⟨y, by rw [hy, flat_iV], by rw [← h6.1, hy, List.length_map], h6.1⟩
  let g : Nat → List Int := fun i => if hi : i < l.length then Classical.choose (hY i hi) else []
  have hg : ∀ i (hi : i < l.length), g i = Classical.choose (hY i hi) := fun i hi => by simp only [g]; rw [dif_pos hi]
  have hll : (nestV 1 1 l).length = l.length := by rw [nestV_len (sz := 1) (fun r hr => by rw [hpre r hr]; rfl), Nat.mul_one]
  refine ⟨(List.range l.length).map g, ⟨rfl, by rw [List.length_map, List.length_range, hll], by rw [hll, hm], fun i hi => ?_⟩, fun y hy => ?_⟩
  · have hil : i < l.length := by simpa using hi
    have hgi : ((List.range l.length).map g)[i] = g i := by simp
    rw [hgi, hg i hil]
    obtain ⟨s1, s2, s3⟩ := Classical.choose_spec (hY i hil)
    obtain ⟨vs, pv, _, _, _, _, h6, h7, h8⟩ := h i _ (List.getElem?_eq_getElem hil)
    rw [nestV_one i hpre, List.getElem?_eq_getElem hil]
    simp only [Option.map_some, Option.some.injEq]
    cases hA : l[i].A with
    | none =>
      left
      refine ⟨rfl, List.length_eq_zero_iff.1 ?_⟩
      rw [s2]
      obtain ⟨_, ⟨_, h1, _⟩ | ⟨a, h1, _⟩⟩ := h6
      · exact h1
      · rw [hA] at h1; cases h1
    | some a =>
      right
      refine ⟨1 + i, by rw [s2]; rfl, ?_⟩
      rw [Nat.add_comm, List.getElem?_cons_succ]
      show (l.map fun r => (⟨r.els.flatten, true⟩ : Blk))[i]? = _
      rw [List.getElem?_map, List.getElem?_eq_getElem hil]
      exact congrArg (fun x => some (Blk.mk x true)) s1
  · simp only [List.mem_map, List.mem_range] at hy
    obtain ⟨i, hi, rfl⟩ := hy
    rw [hg i hi]
    obtain ⟨s1, s2, s3⟩ := Classical.choose_spec (hY i hi)
    obtain ⟨vs, pv, _, _, _, _, h6, h7, h8⟩ := h i _ (List.getElem?_eq_getElem hi)
    rw [s2]
    unfold maxLen at h8
    obtain ⟨_, ⟨_, h1, _⟩ | ⟨a, _, h1, _⟩⟩ := h6 <;> omega
theorem assumePicks_w (a0 a1 a2 a3 a4 a5 a6 a7 b0 b1 b2 b3 b4 : Int) (b5 : Bool) (A : Option Addr) (len c : Nat) (rs : List (List Value)) (W : World) (_ : (Lit.int .i64 a0).wf = true) (_ : (Lit.int .i64 a1).wf = true) (_ : (Lit.int .i64 a2).wf = true) (_ : (Lit.int .i64 a3).wf = true) (_ : (Lit.int .i64 a4).wf = true) (_ : (Lit.int .i64 a5).wf = true) (_ : (Lit.int .i64 a6).wf = true) (_ : (Lit.int .i64 a7).wf = true) (_ : (Lit.int .i64 b0).wf = true) (_ : (Lit.int .i64 b1).wf = true) (_ : (Lit.int .i64 b2).wf = true) (_ : (Lit.int .i64 b3).wf = true) (_ : (Lit.int .i64 b4).wf = true) (hr : NRow W A len c 1 rs) (hw : ∀ r ∈ rs, InRow W [.sl [.int .i64]] r) (hc : c ≤ maxLen) :
    Calls Try.prog 3 #[.agg #[.int .i64 a0, .int .i64 a1, .int .i64 a2, .int .i64 a3, .int .i64 a4, .int .i64 a5, .int .i64 a6, .int .i64 a7], .agg #[.int .i64 b0, .int .i64 b1, .int .i64 b2, .int .i64 b3, .int .i64 b4, .bool b5], .slice A len c] W fun e W' => e = .returned (.bool true) ∧ Below W.heap.size W W' := by
  obtain ⟨K, hK⟩ : ∃ K, K = 100 := ⟨_, rfl⟩
  cases A with
  | none =>
    obtain ⟨rfl, rfl, rfl⟩ := no_nest hr
    obtain ⟨⟨v, H'⟩, he, hv⟩ := assumePicks_n Mk.plain K 0 hK (fun i => [a0, a1, a2, a3, a4, a5, a6, a7].getD i 0) ⟨b0, b1, b2, b3, b4, b5⟩ [] (Nat.le_refl _)
    replace hv : v = .bool true := hv
    subst hv
    exact law_of (ρ := fun _ => none) (H0 := []) follows annok extok he (fun b c z => by cases z) (fun k c cs z => by cases z) (fun b c z => by cases z) ⟨⟨_, rfl, rfl, rfl, rfl, rfl, rfl, rfl, rfl, rfl, trivial⟩, ⟨_, rfl, rfl, rfl, rfl, rfl, rfl, rfl, trivial⟩, rfl, trivial⟩
  | some a =>
    obtain ⟨l0, hl0, hl⟩ := toInns (kp := []) (ks := [.int .i64]) hw
    have hl' : ∀ (i : Nat) (x : Inn), (l0.take 3)[i]? = some x → ∃ r, rs[i]? = some r ∧ InnIs W [] [.int .i64] x r := by
      intro i x hx
      rw [List.getElem?_take] at hx
      split at hx
      · exact hl i x hx
      · cases hx
    have hlen : len < 9223372036854775808 := by
      obtain ⟨_, ⟨h, _⟩ | ⟨_, _, _, _, _, _, h, _⟩⟩ := hr
      · cases h
      · unfold maxLen at hc; omega
    obtain ⟨ρ, h1, h2, h3, h4⟩ := nest_ok (kp := []) (ks := [.int .i64]) hr hl'
    obtain ⟨Y, hY, hY2⟩ := inG_of (W := W) (n := len) (l := l0.take 3) (by rw [List.length_take, hl0, hr.1, Nat.min_comm]) fun i x hx => by obtain ⟨r, _, h⟩ := hl' i x hx; exact ⟨r, h⟩
    obtain ⟨⟨v, H'⟩, he, hv⟩ := assumePicks_l Mk.plain K (nestH (l0.take 3)).length.succ hK (fun i => [a0, a1, a2, a3, a4, a5, a6, a7].getD i 0) ⟨b0, b1, b2, b3, b4, b5⟩ len hlen _ Y _ (Nat.le_refl _) (Nat.succ_le_succ (Nat.zero_le _)) hY hY2
    replace hv : v = .bool true := hv
    subst hv
    exact law_of (ρ := ρ) (H0 := ⟨nestV 1 1 (l0.take 3), true⟩ :: nestH (l0.take 3)) follows annok extok he h2 h3 h4 ⟨⟨_, rfl, rfl, rfl, rfl, rfl, rfl, rfl, rfl, rfl, trivial⟩, ⟨_, rfl, rfl, rfl, rfl, rfl, rfl, rfl, trivial⟩, h1, trivial⟩
end Go.Proofs.Ytbkniomfegbdaaa.VM
