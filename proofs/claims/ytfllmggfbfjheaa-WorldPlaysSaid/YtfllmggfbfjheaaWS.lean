/- A world by the plain machine: it ends. -/
import Derived.Test.YtfllmggfbfjheaaWR
namespace Go.Proofs.Ytfllmggfbfjheaa.VM
open Go Go.RowKit
set_option linter.unusedVariables false
set_option linter.unusedSimpArgs false
set_option maxRecDepth 40000
set_option maxHeartbeats 3200000
theorem grown_of {H H' : List Blk} (hl : H.length ≤ H'.length) (h : ∀ (b : Nat) (k : Blk), H[b]? = some k → H'[b]? = some k) : Grown H H' := by
  refine ⟨H'.drop H.length, ?_⟩
  apply List.ext_getElem?
  intro i
  by_cases c : i < H.length
  · rw [List.getElem?_append_left c, List.getElem?_eq_getElem c]
    exact h i _ (List.getElem?_eq_getElem c)
  · rw [List.getElem?_append_right (by omega), List.getElem?_drop, show H.length + (i - H.length) = i by omega]
theorem guardT {x : Bool} (h : x = true) : ((bif (true == true) then x else false) == true) = true := by subst h; rfl
theorem awake12_F (mk : Mk) (k lo : Nat) (hk : 12 ≤ k) (H : List Blk) (hlo : lo ≤ H.length) : Ends (FF mk k lo 26 [] H) fun r => r.1 = .bool true ∧ Grown H r.2 := by
  obtain ⟨k, rfl⟩ : ∃ m, k = m + 1 := ⟨k - 1, by omega⟩
  obtain ⟨R, hRe⟩ : ∃ R : List Int, R = [7] := ⟨_, rfl⟩
  have hRl : R.length = 1 := by rw [hRe]; rfl
  have r0 : R.getD 0 0 = 7 := by rw [hRe]; rfl
  have r1 : R.getD 1 0 = 0 := by rw [hRe]; rfl
  have hu : ∀ i, U16 (R.getD i 0) := by
    intro i
    rw [hRe]
    match i with
    | 0 => unfold U16; decide
    | i + 1 => show (0 : Int) ≤ 0 ∧ (0 : Int) < 65536; decide
  have hn := wnew_F mk k lo (by omega) R H.length (by omega) (H ++ [⟨uV R, true⟩]) (by rw [List.length_append]; omega) (snoc_top rfl)
  rw [hRl] at hn
  have hcell : uV R = [.int .u16 7] := by rw [hRe]; rfl
  rw [hcell] at hn
  conv => enter [1]; whnf
  refine Ends.callE hn (fun v H1 hv => ?_)
  obtain ⟨wb, rv, hv, h1, g1, hwb, hwl⟩ := hv
  replace hv : v = .ptr (.hp wb) 0 := hv
  subst hv
  replace h1 : HasW H1 wb R rv 0 [] .nils wb := h1
  replace g1 : Grown (H ++ [⟨[.int .u16 7], true⟩]) H1 := g1
  have g1' : Grown H H1 := (Grown.one _ _).trans g1
  replace hwb : H.length + 1 ≤ wb := by simpa using hwb
  conv => enter [1]; whnf
  refine Ends.callE (wint_F mk k lo (by omega) h1 (by omega) (by omega) (by simp) 0 (by omega) (by omega) 33 19457 0 0 0 (by unfold U8; decide) (by unfold U16; decide) true (by decide)) (fun v H2 hv => ?_)
  obtain ⟨hv, lv2, eb2, h2, k2, he2⟩ := hv
  replace hv : v = .tup [.int .u16 19457, .bool true] := hv
  subst hv
  replace h2 : HasW H2 wb R rv 0 _ lv2 eb2 := h2
  replace k2 : KeepW H1 H2 wb wb := k2
  replace he2 : H1.length ≤ eb2 := he2
  have L1 := g1'.len
  have wl := h1.len
  conv => enter [1]; whnf
  refine Ends.callE (win_F mk k lo (by omega) h2 (by omega) (by omega) (by simp) 0 (by omega) (by omega) 5 true hu) (fun v H3 hv => ?_)
  obtain ⟨hv, lv3, eb3, h3, k3, he3⟩ := hv
  rw [r0] at hv
  replace hv : v = .int .u16 7 := hv
  subst hv
  replace h3 : HasW H3 wb R rv (min (0 + 1) R.length) _ lv3 eb3 := h3
  replace k3 : KeepW H2 H3 wb eb2 := k3
  replace he3 : H2.length ≤ eb3 := he3
  have L2 := k2.1
  conv => enter [1]; whnf
  refine Ends.callE (win_F mk k lo (by omega) h3 (by omega) (by omega) (by simp) 1 (by omega) (by omega) 5 true hu) (fun v H4 hv => ?_)
  obtain ⟨hv, lv4, eb4, h4, k4, he4⟩ := hv
  rw [r1] at hv
  replace hv : v = .int .u16 0 := hv
  subst hv
  replace h4 : HasW H4 wb R rv (min (1 + 1) R.length) _ lv4 eb4 := h4
  replace k4 : KeepW H3 H4 wb eb3 := k4
  have L3 := k3.1
  have L4 := k4.1
  conv => enter [1]; whnf
  refine Ends.call (wused_F mk k lo (by omega) h4) ?_
  conv => enter [1]; whnf
  refine Ends.iteT (guardT (beq_iff_eq.2 (by rw [hRl]; rfl))) ?_
  conv => enter [1]; whnf
  refine Ends.callE (wevents_F mk k lo (by omega) h4 (by omega) (by simp)) (fun v H5 hv => ?_)
  obtain ⟨g5, hv⟩ := hv
  replace g5 : Grown H4 H5 := g5
  rcases hv with ⟨hv, _⟩ | ⟨b5, hv, h5⟩
  · simp at hv
  · replace hv : v = .sl (.hp b5) 0 3 7 := hv
    subst hv
    conv => enter [1]; whnf
    refine Ends.some' ⟨rfl, ?_⟩
    refine grown_of (by have := g5.len; show H.length ≤ H5.length; omega) fun b k e => ?_
    have hb := at_lt e
    exact g5.at (k4.2 b k (k3.2 b k (k2.2 b k (g1'.at e) (by omega) (by omega)) (by omega) (by omega)) (by omega) (by omega))
end Go.Proofs.Ytfllmggfbfjheaa.VM
