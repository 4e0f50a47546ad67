/- CoreStack by the plain machine: the law. -/
import Derived.Test.YtkjcipdfciajhaaMX
import Derived.Test.YtkjcipdfciajhaaVZ
namespace Go.Proofs.Ytkjcipdfciajhaa.VM
open Go Go.RowKit Go.ChangeShapes
set_option linter.unusedVariables false
set_option linter.unusedSimpArgs false
set_option maxRecDepth 100000
set_option maxHeartbeats 3200000
theorem coreStack_n (mk : Mk) (K lo : Nat) (hK : K = 200) (sp : Int) (hsp : U16 sp) (H : List Blk) (hlo : lo ≤ H.length) :
    Ends (FF mk (K + 1) lo 3 [.nils, .int .u16 sp] H) (fun r => r.1 = .bool true) := by
  obtain ⟨N, hN⟩ : ∃ N, N = 1048576 := ⟨_, rfl⟩
  obtain ⟨k, rfl⟩ : ∃ k, K = k + 1 := ⟨199, hK⟩
  conv => enter [1]; whnf
  refine Ends.callE (begin13_F mk (k + 1) lo (by omega) hN H hlo 256 65536 sp (by unfold U16; decide) (by decide)) (fun v H1 hv => ?_)
  obtain ⟨c, p, w, q, r, hv, h1, m1, g1, hc, hq, hr, hcq, hcr, hcp⟩ := hv
  replace hv : v = .ptr (.hp c) 0 := hv
  subst hv
  replace g1 : Grown H H1 := g1
  conv => enter [1]; whnf
  refine Ends.call (cstate_F mk (k + 1) lo (by omega) h1) ?_
  conv => enter [1]; whnf
  refine Ends.opt (h1.get _) ?_
  conv => enter [1]; whnf
  refine Ends.opt (by rfl) ?_
  conv => enter [1]; whnf
  refine Ends.callE (awake13_F mk (k + 1) lo (by omega) H1 (by have := g1.len; omega)) (fun v H3 hv => ?_)
  obtain ⟨hv, g3⟩ := hv
  replace hv : v = .bool true := hv
  replace g3 : Grown H1 H3 := g3
  subst hv
  conv => enter [1]; whnf
  have hs1 : ((updR g0 4 (sp, false) 4).1 == IntKind.u16.wrap (sp - IntKind.u16.wrap (IntKind.i64.wrap (2 * if (20 : Int) < 0 then 20 else 0)))) = true := by
    refine beq_iff_eq.2 ?_
    rw [if_neg (by decide), show IntKind.u16.wrap (IntKind.i64.wrap (2 * 0)) = 0 by decide, updR_same, wu16]
    show sp = _
    unfold U16 at hsp; omega
  refine Ends.iteT (guardT hs1) ?_
  conv => enter [1]; whnf
  have h3 : HasMach H3 c (updR g0 4 (sp, false)) (fun _ => (256, true)) 0 0 p w (256 * 16) 65536 0 := ⟨g3.at h1.hc⟩
  refine Ends.opt (h3.get _) ?_
  conv => enter [1]; whnf
  refine Ends.opt (by rfl) ?_
  conv => enter [1]; whnf
  refine Ends.iteT (guardT (beq_iff_eq.2 (congrArg Prod.fst (updR_same _ _ _)))) ?_
  conv => enter [1]; whnf
  refine Ends.call (cstate_F mk (k + 1) lo (by omega) h3) ?_
  conv => enter [1]; whnf
  exact Ends.some' rfl
theorem toVt {el : List Val} (h : rowOk [.int .u16, .bool] el) : ∃ a : VT, el = pairV a ∧ U16 a.1 := by
  match el, h with
  | [.int k0 a0, .bool a1], h =>
    obtain ⟨⟨rfl, w0⟩, _⟩ := h
    exact ⟨(a0, a1), rfl, u16_wf' w0⟩
theorem toVts : ∀ {els : List (List Val)} (h : ∀ el ∈ els, rowOk [.int .u16, .bool] el), ∃ l : List VT, els = l.map pairV ∧ ∀ a ∈ l, U16 a.1
  | [], _ => ⟨[], rfl, by simp⟩
  | el :: els, h => by
    obtain ⟨e, rfl, he⟩ := toVt (h el (by simp))
    obtain ⟨l, rfl, hl⟩ := toVts (els := els) fun x hx => h x (by simp [hx])
    refine ⟨e :: l, rfl, fun a ha => ?_⟩
    rcases List.mem_cons.1 ha with rfl | ha
    · exact he
    · exact hl a ha
theorem coreStack_w (A0 : Option Addr) (len0 c0 : Nat) (els0 : List (List Val)) (sp : Int) (W : World) (hr0 : SlRow W A0 len0 c0 2 els0) (hw0 : ∀ el ∈ els0, rowOk [.int .u16, .bool] el) (hc0 : c0 ≤ maxLen) (wsp : (Lit.int .u16 sp).wf = true) :
    Calls Try.prog 3 #[.slice A0 len0 c0, .int .u16 sp] W fun e W' => e = .returned (.bool true) ∧ Below W.heap.size W W' := by
  have hsp : U16 sp := u16_wf' wsp
  obtain ⟨K, hK⟩ : ∃ K, K = 200 := ⟨_, rfl⟩
  cases A0 with
  | none =>
    obtain ⟨rfl, rfl, rfl⟩ := no_slice hr0
    obtain ⟨⟨v, H'⟩, he, hv⟩ := coreStack_n Mk.plain K 0 hK sp hsp [] (by simp)
    replace hv : v = .bool true := hv
    subst hv
    exact law_of (ρ := fun _ => none) (H0 := []) follows annok extok he (fun b c z => by cases z) (fun k c cs z => by cases z) (fun b c z => by cases z) ⟨rfl, rfl, trivial⟩
  | some x =>
    obtain ⟨ρ, h1, h2, h3, h4⟩ := sl_ok hr0 hw0
    obtain ⟨l, rfl, hu⟩ := toVts hw0
    have hl : l.length = len0 := by have := hr0.1; simpa using this
    subst hl
    obtain ⟨⟨v, H'⟩, he, hv⟩ := coreStack_l Mk.plain K 1 hK l hu sp hsp [⟨vtsV l, true⟩] (by simp) (by simp) rfl
    replace hv : v = .bool true := hv
    subst hv
    exact law_of (ρ := ρ) (H0 := [⟨vtsV l, true⟩]) follows annok extok he h2 h3 h4 ⟨h1, rfl, trivial⟩
end Go.Proofs.Ytkjcipdfciajhaa.VM
