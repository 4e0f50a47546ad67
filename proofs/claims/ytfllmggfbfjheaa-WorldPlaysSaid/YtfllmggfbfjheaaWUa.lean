/- WorldPlays by the plain machine: nothing is asked. -/
import Derived.Test.YtfllmggfbfjheaaWTa
namespace Go.Proofs.Ytfllmggfbfjheaa.VM
open Go Go.RowKit
set_option linter.unusedVariables false
set_option linter.unusedSimpArgs false
set_option maxRecDepth 40000
set_option maxHeartbeats 3200000
theorem worldPlays_sn (mk : Mk) (K lo : Nat) (hK : K = 300) (R : List Int) (hRl : R.length * 2 ≤ 140737488351232) (rb0 : Nat) (H : List Blk) (hlo : lo ≤ H.length) (hRb : H[rb0]? = some ⟨uV R, true⟩) :
    Ends (FF mk (K + 1) lo 6 [.sl (.hp rb0) 0 R.length 1, .nils] H) (fun r => r.1 = .bool true) := by
  conv => enter [1]; whnf
  have hnew := wnew_F mk K lo (by omega) R rb0 (by omega) H hlo hRb
  refine Ends.callE hnew (fun v H1 hv => ?_)
  obtain ⟨wb, rv, hv, h1, g1, hwb, hwl⟩ := hv
  replace hv : v = .ptr (.hp wb) 0 := hv
  subst hv
  replace h1 : HasW H1 wb R rv 0 [] .nils wb := h1
  replace g1 : Grown H H1 := g1
  conv => enter [1]; whnf
  obtain ⟨E, hE⟩ : ∃ E : List Ev, E = [] := ⟨_, rfl⟩
  have hEl : E.length = 0 := by rw [hE]; rfl
  obtain ⟨wr, hwre⟩ : ∃ wr, wr = H1.length := ⟨_, rfl⟩
  obtain ⟨H', hH'⟩ : ∃ H', H' = H1 ++ [(⟨[], true⟩ : Blk)] := ⟨_, rfl⟩
  have h : HasW H' wb R rv 0 E .nils wb := by rw [hH', hE]; exact h1.keep (Grown.one _ _)
  have hwr : H'[wr]? = some ⟨evsV E, true⟩ := by rw [hH', hwre, snoc_top rfl, hE]; rfl
  have hG : Grown H H' := by rw [hH']; exact g1.trans (Grown.one _ _)
  rw [← hH', ← hwre]
  refine Ends.loop (fun m T M => 0 < m ∧ T = [.sl (.hp rb0) 0 R.length 1, .nils, .undef, .undef, .undef, .ptr (.hp wb) 0, .int .i64 0, .sl (.hp wr) 0 E.length 7, .int .i64 0, .undef, .undef, .undef, .undef, .undef, .undef, .undef, .undef, .undef, .undef, .undef, .undef, .undef, .undef, .undef, .undef, .undef, .undef, .undef, .undef, .undef, .undef, .undef, .undef, .undef, .undef, .undef, .undef, .undef, .undef, .undef, .undef, .undef, .undef, .undef, .undef, .undef, .undef, .undef, .undef, .undef, .undef, .undef, .undef, .undef, .undef, .undef, .undef, .undef, .undef, .undef, .undef, .undef, .undef, .undef, .undef, .undef, .undef, .undef, .undef, .undef, .undef, .undef, .undef, .undef, .undef, .undef, .undef, .undef, .undef, .undef, .undef, .undef, .undef, .undef, .undef, .undef, .undef, .undef, .undef, .undef, .undef, .undef, .undef, .undef, .undef, .undef, .undef, .undef, .undef, .undef, .undef, .undef, .undef, .undef, .undef, .undef, .undef, .undef, .undef, .undef, .undef, .undef, .undef, .undef, .undef, .undef, .undef, .undef, .undef, .undef, .undef, .undef, .undef, .undef, .undef, .undef, .undef, .undef, .undef, .undef, .undef, .undef, .undef, .undef, .undef, .undef, .undef, .undef, .undef, .undef, .undef, .undef, .undef, .undef, .undef, .undef, .undef, .undef, .undef, .undef, .undef, .undef, .undef, .undef, .undef, .undef, .undef, .undef, .undef, .undef, .undef, .undef, .undef] ∧ M = ⟨[], H'⟩) (fun T M ⟨h, _⟩ => by omega) ?_ _ _ ⟨by omega, by rw [hE]; rfl, rfl⟩
  rintro m T M L ⟨_, rfl, rfl⟩ hL
  conv => enter [1]; whnf
  refine Ends.callE (awake12_F mk K lo (by omega) H' (by have := hG.len; omega)) (fun v H4 hv => ?_)
  obtain ⟨hv, g4⟩ := hv
  replace hv : v = .bool true := hv
  subst hv
  replace g4 : Grown H' H4 := g4
  have h4 := h.keep g4
  have L4 := g4.len
  have LG := hG.len
  conv => enter [1]; whnf
  refine Ends.callE (wevents_F mk K lo (by omega) h4 (by omega) (by omega)) (fun v5 H5 hv5 => ?_)
  obtain ⟨g5, hv5⟩ := hv5
  replace g5 : Grown H4 H5 := g5
  have h5 := h4.keep g5
  have L5 := g5.len
  have hs5 := wsame_T mk K lo E (by omega) (by omega) H5 v5 wr hv5 (g5.at (g4.at hwr))
  have hvv5 : (E = [] ∧ v5 = .nils) ∨ ∃ b, v5 = .sl (.hp b) 0 E.length 7 := by
    rcases hv5 with z | ⟨b, z, _⟩
    · exact .inl z
    · exact .inr ⟨b, z⟩
  rcases hvv5 with ⟨_, rfl⟩ | ⟨b5, rfl⟩
  all_goals
    conv => enter [1]; whnf
    refine Ends.call hs5 ?_
    conv => enter [1]; whnf
    refine Ends.callE (wevents_F mk K lo (by omega) h5 (by omega) (by omega)) (fun v6 H6 hv6 => ?_)
    obtain ⟨g6, hv6⟩ := hv6
    replace g6 : Grown H5 H6 := g6
    have hs6 := wapart_T mk K lo E (by omega) (by omega) H6 v6 wr hv6 (g6.at (g5.at (g4.at hwr)))
    have hvv6 : (E = [] ∧ v6 = .nils) ∨ ∃ b, v6 = .sl (.hp b) 0 E.length 7 := by
      rcases hv6 with z | ⟨b, z, _⟩
      · exact .inl z
      · exact .inr ⟨b, z⟩
    rcases hvv6 with ⟨_, rfl⟩ | ⟨b6, rfl⟩
    all_goals
      conv => enter [1]; whnf
      refine Ends.call hs6 ?_
      conv => enter [1]; whnf
      exact Ends.some' rfl
theorem worldPlays_nn (mk : Mk) (K lo : Nat) (hK : K = 300) (R : List Int) (hRl : R.length * 2 ≤ 140737488351232) (hR0 : R = []) (H : List Blk) (hlo : lo ≤ H.length) :
    Ends (FF mk (K + 1) lo 6 [.nils, .nils] H) (fun r => r.1 = .bool true) := by
  conv => enter [1]; whnf
  have hnew := wnew_N mk K lo (by omega) H
  rw [← hR0] at hnew
  refine Ends.callE hnew (fun v H1 hv => ?_)
  obtain ⟨wb, rv, hv, h1, g1, hwb, hwl⟩ := hv
  replace hv : v = .ptr (.hp wb) 0 := hv
  subst hv
  replace h1 : HasW H1 wb R rv 0 [] .nils wb := h1
  replace g1 : Grown H H1 := g1
  conv => enter [1]; whnf
  obtain ⟨E, hE⟩ : ∃ E : List Ev, E = [] := ⟨_, rfl⟩
  have hEl : E.length = 0 := by rw [hE]; rfl
  obtain ⟨wr, hwre⟩ : ∃ wr, wr = H1.length := ⟨_, rfl⟩
  obtain ⟨H', hH'⟩ : ∃ H', H' = H1 ++ [(⟨[], true⟩ : Blk)] := ⟨_, rfl⟩
  have h : HasW H' wb R rv 0 E .nils wb := by rw [hH', hE]; exact h1.keep (Grown.one _ _)
  have hwr : H'[wr]? = some ⟨evsV E, true⟩ := by rw [hH', hwre, snoc_top rfl, hE]; rfl
  have hG : Grown H H' := by rw [hH']; exact g1.trans (Grown.one _ _)
  rw [← hH', ← hwre]
  refine Ends.loop (fun m T M => 0 < m ∧ T = [.nils, .nils, .undef, .undef, .undef, .ptr (.hp wb) 0, .int .i64 0, .sl (.hp wr) 0 E.length 7, .int .i64 0, .undef, .undef, .undef, .undef, .undef, .undef, .undef, .undef, .undef, .undef, .undef, .undef, .undef, .undef, .undef, .undef, .undef, .undef, .undef, .undef, .undef, .undef, .undef, .undef, .undef, .undef, .undef, .undef, .undef, .undef, .undef, .undef, .undef, .undef, .undef, .undef, .undef, .undef, .undef, .undef, .undef, .undef, .undef, .undef, .undef, .undef, .undef, .undef, .undef, .undef, .undef, .undef, .undef, .undef, .undef, .undef, .undef, .undef, .undef, .undef, .undef, .undef, .undef, .undef, .undef, .undef, .undef, .undef, .undef, .undef, .undef, .undef, .undef, .undef, .undef, .undef, .undef, .undef, .undef, .undef, .undef, .undef, .undef, .undef, .undef, .undef, .undef, .undef, .undef, .undef, .undef, .undef, .undef, .undef, .undef, .undef, .undef, .undef, .undef, .undef, .undef, .undef, .undef, .undef, .undef, .undef, .undef, .undef, .undef, .undef, .undef, .undef, .undef, .undef, .undef, .undef, .undef, .undef, .undef, .undef, .undef, .undef, .undef, .undef, .undef, .undef, .undef, .undef, .undef, .undef, .undef, .undef, .undef, .undef, .undef, .undef, .undef, .undef, .undef, .undef, .undef, .undef, .undef, .undef, .undef, .undef, .undef, .undef, .undef, .undef, .undef, .undef, .undef, .undef] ∧ M = ⟨[], H'⟩) (fun T M ⟨h, _⟩ => by omega) ?_ _ _ ⟨by omega, by rw [hE]; rfl, rfl⟩
  rintro m T M L ⟨_, rfl, rfl⟩ hL
  conv => enter [1]; whnf
  refine Ends.callE (awake12_F mk K lo (by omega) H' (by have := hG.len; omega)) (fun v H4 hv => ?_)
  obtain ⟨hv, g4⟩ := hv
  replace hv : v = .bool true := hv
  subst hv
  replace g4 : Grown H' H4 := g4
  have h4 := h.keep g4
  have L4 := g4.len
  have LG := hG.len
  conv => enter [1]; whnf
  refine Ends.callE (wevents_F mk K lo (by omega) h4 (by omega) (by omega)) (fun v5 H5 hv5 => ?_)
  obtain ⟨g5, hv5⟩ := hv5
  replace g5 : Grown H4 H5 := g5
  have h5 := h4.keep g5
  have L5 := g5.len
  have hs5 := wsame_T mk K lo E (by omega) (by omega) H5 v5 wr hv5 (g5.at (g4.at hwr))
  have hvv5 : (E = [] ∧ v5 = .nils) ∨ ∃ b, v5 = .sl (.hp b) 0 E.length 7 := by
    rcases hv5 with z | ⟨b, z, _⟩
    · exact .inl z
    · exact .inr ⟨b, z⟩
  rcases hvv5 with ⟨_, rfl⟩ | ⟨b5, rfl⟩
  all_goals
    conv => enter [1]; whnf
    refine Ends.call hs5 ?_
    conv => enter [1]; whnf
    refine Ends.callE (wevents_F mk K lo (by omega) h5 (by omega) (by omega)) (fun v6 H6 hv6 => ?_)
    obtain ⟨g6, hv6⟩ := hv6
    replace g6 : Grown H5 H6 := g6
    have hs6 := wapart_T mk K lo E (by omega) (by omega) H6 v6 wr hv6 (g6.at (g5.at (g4.at hwr)))
    have hvv6 : (E = [] ∧ v6 = .nils) ∨ ∃ b, v6 = .sl (.hp b) 0 E.length 7 := by
      rcases hv6 with z | ⟨b, z, _⟩
      · exact .inl z
      · exact .inr ⟨b, z⟩
    rcases hvv6 with ⟨_, rfl⟩ | ⟨b6, rfl⟩
    all_goals
      conv => enter [1]; whnf
      refine Ends.call hs6 ?_
      conv => enter [1]; whnf
      exact Ends.some' rfl
end Go.Proofs.Ytfllmggfbfjheaa.VM
