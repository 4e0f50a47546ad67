/- WorldPlays by the plain machine: rounds without replies. -/
import Derived.Test.YtfllmggfbfjheaaWTa
namespace Go.Proofs.Ytfllmggfbfjheaa.VM
open Go Go.RowKit
set_option linter.unusedVariables false
set_option linter.unusedSimpArgs false
set_option maxRecDepth 40000
set_option maxHeartbeats 3200000
theorem worldPlays_n (mk : Mk) (K lo : Nat) (hK : K = 300) (R : List Int) (hu : ∀ i, U16 (R.getD i 0)) (hRl : R.length * 2 ≤ 140737488351232) (hR0 : R = []) (l : List ActW) (hul : ∀ a ∈ l, U16 a.n ∧ U16 a.v) (ab : Nat) (H : List Blk) (hlo : lo ≤ H.length) (hH : H[ab]? = some ⟨actsW l, true⟩) :
    Ends (FF mk (K + 1) lo 6 [.nils, .sl (.hp ab) 0 l.length 4] H) (fun r => r.1 = .bool true) := by
  conv => enter [1]; whnf
  have hnew := wnew_N mk K lo (by omega) H
  rw [← hR0] at hnew
  refine Ends.callE hnew (fun v H1 hv => ?_)
  obtain ⟨wb, rv, hv, h1, g1, hwb, hwl⟩ := hv
  replace hv : v = .ptr (.hp wb) 0 := hv
  subst hv
  replace h1 : HasW H1 wb R rv 0 [] .nils wb := h1
  replace g1 : Grown H H1 := g1
  replace hwl : wb < H1.length := hwl
  replace hwb : H.length ≤ wb := hwb
  conv => enter [1]; whnf
  refine Ends.loop (fun m T M => ∃ (j at0 : Nat) (E : List Ev) (lv : Val) (eb wr : Nat) (H' : List Blk) (loc : List (List Val)), j ≤ 60 ∧ 60 - j < m ∧ E.length ≤ j ∧ at0 ≤ j ∧ HasW H' wb R rv (min at0 R.length) E lv eb ∧ H'[wr]? = some ⟨evsV E, true⟩ ∧ Grown H H' ∧ H.length ≤ eb ∧ H.length ≤ wr ∧ (wr ≠ wb ∧ wr ≠ eb) ∧ (∀ b, rv = .sl (.hp b) 0 R.length 1 → b ≠ wr) ∧ T = [.nils, .sl (.hp ab) 0 l.length 4, .undef, .undef, .undef, .ptr (.hp wb) 0, .int .i64 (at0 : Int), .sl (.hp wr) 0 E.length 7, .int .i64 (j : Int), .undef, .undef, .undef, .undef, .undef, .undef, .undef, .undef, .undef, .undef, .undef, .undef, .undef, .undef, .undef, .undef, .undef, .undef, .undef, .undef, .undef, .undef, .undef, .undef, .undef, .undef, .undef, .undef, .undef, .undef, .undef, .undef, .undef, .undef, .undef, .undef, .undef, .undef, .undef, .undef, .undef, .undef, .undef, .undef, .undef, .undef, .undef, .undef, .undef, .undef, .undef, .undef, .undef, .undef, .undef, .undef, .undef, .undef, .undef, .undef, .undef, .undef, .undef, .undef, .undef, .undef, .undef, .undef, .undef, .undef, .undef, .undef, .undef, .undef, .undef, .undef, .undef, .undef, .undef, .undef, .undef, .undef, .undef, .undef, .undef, .undef, .undef, .undef, .undef, .undef, .undef, .undef, .undef, .undef, .undef, .undef, .undef, .undef, .undef, .undef, .undef, .undef, .undef, .undef, .undef, .undef, .undef, .undef, .undef, .undef, .undef, .undef, .undef, .undef, .undef, .undef, .undef, .undef, .undef, .undef, .undef, .undef, .undef, .undef, .undef, .undef, .undef, .undef, .undef, .undef, .undef, .undef, .undef, .undef, .undef, .undef, .undef, .undef, .undef, .undef, .undef, .undef, .undef, .undef, .undef, .undef, .undef, .undef, .undef, .undef, .undef, .undef, .undef, .undef] ∧ M = ⟨loc, H'⟩) (fun T M ⟨j, at0, E, lv, eb, wr, H', loc, _, h, _⟩ => by omega) ?_ _ _ ⟨0, 0, [], .nils, wb, H1.length, _, [], by omega, by omega, by simp, by omega, (by rw [Nat.zero_min]; exact h1.keep (Grown.one _ _)), by rw [snoc_top rfl]; rfl, g1.trans (Grown.one _ _), hwb, g1.len, ⟨by omega, by omega⟩, (fun b e => by have := h1.rb_lt b e; omega), rfl, rfl⟩
  rintro m T M L ⟨j, at0, E, lv, eb, wr, H', loc, j1, j2, j3, j4, h, hwr, hG, heb, hwrH, ⟨hw1, hw2⟩, hw3, rfl, rfl⟩ hL
  conv => enter [1]; whnf
  by_cases c1 : ¬ j < l.length
  · refine Ends.iteF (by simp; omega) ?_
    conv => enter [1]; whnf
    refine Ends.callE (awake12_F mk K lo (by omega) H' (by have := hG.len; omega)) (fun v H4 hv => ?_)
    obtain ⟨hv, g4⟩ := hv
    replace hv : v = .bool true := hv
    subst hv
    replace g4 : Grown H' H4 := g4
    have h4 := h.keep g4
    have L4 := g4.len
    have LG := hG.len
    conv => enter [1]; whnf
    refine Ends.callE (wevents_F mk K lo (by omega) h4 (by omega) (by omega)) (fun v5 H5 hv5 => ?_)
    obtain ⟨g5, hv5⟩ := hv5
    replace g5 : Grown H4 H5 := g5
    have h5 := h4.keep g5
    have L5 := g5.len
    have hs5 := wsame_T mk K lo E (by omega) (by omega) H5 v5 wr hv5 (g5.at (g4.at hwr))
    have hvv5 : (E = [] ∧ v5 = .nils) ∨ ∃ b, v5 = .sl (.hp b) 0 E.length 7 := by
      rcases hv5 with z | ⟨b, z, _⟩
      · exact .inl z
      · exact .inr ⟨b, z⟩
    rcases hvv5 with ⟨_, rfl⟩ | ⟨b5, rfl⟩
    all_goals
      conv => enter [1]; whnf
      refine Ends.call hs5 ?_
      conv => enter [1]; whnf
      refine Ends.callE (wevents_F mk K lo (by omega) h5 (by omega) (by omega)) (fun v6 H6 hv6 => ?_)
      obtain ⟨g6, hv6⟩ := hv6
      replace g6 : Grown H5 H6 := g6
      have hs6 := wapart_T mk K lo E (by omega) (by omega) H6 v6 wr hv6 (g6.at (g5.at (g4.at hwr)))
      have hvv6 : (E = [] ∧ v6 = .nils) ∨ ∃ b, v6 = .sl (.hp b) 0 E.length 7 := by
        rcases hv6 with z | ⟨b, z, _⟩
        · exact .inl z
        · exact .inr ⟨b, z⟩
      rcases hvv6 with ⟨_, rfl⟩ | ⟨b6, rfl⟩
      all_goals
        conv => enter [1]; whnf
        refine Ends.call hs6 ?_
        conv => enter [1]; whnf
        exact Ends.some' rfl
  replace c1 : j < l.length := by omega
  refine Ends.iteT (by simp; omega) ?_
  conv => enter [1]; whnf
  by_cases c2 : ¬ j < 60
  · refine Ends.iteF (by simp; omega) ?_
    conv => enter [1]; whnf
    refine Ends.callE (awake12_F mk K lo (by omega) H' (by have := hG.len; omega)) (fun v H4 hv => ?_)
    obtain ⟨hv, g4⟩ := hv
    replace hv : v = .bool true := hv
    subst hv
    replace g4 : Grown H' H4 := g4
    have h4 := h.keep g4
    have L4 := g4.len
    have LG := hG.len
    conv => enter [1]; whnf
    refine Ends.callE (wevents_F mk K lo (by omega) h4 (by omega) (by omega)) (fun v5 H5 hv5 => ?_)
    obtain ⟨g5, hv5⟩ := hv5
    replace g5 : Grown H4 H5 := g5
    have h5 := h4.keep g5
    have L5 := g5.len
    have hs5 := wsame_T mk K lo E (by omega) (by omega) H5 v5 wr hv5 (g5.at (g4.at hwr))
    have hvv5 : (E = [] ∧ v5 = .nils) ∨ ∃ b, v5 = .sl (.hp b) 0 E.length 7 := by
      rcases hv5 with z | ⟨b, z, _⟩
      · exact .inl z
      · exact .inr ⟨b, z⟩
    rcases hvv5 with ⟨_, rfl⟩ | ⟨b5, rfl⟩
    all_goals
      conv => enter [1]; whnf
      refine Ends.call hs5 ?_
      conv => enter [1]; whnf
      refine Ends.callE (wevents_F mk K lo (by omega) h5 (by omega) (by omega)) (fun v6 H6 hv6 => ?_)
      obtain ⟨g6, hv6⟩ := hv6
      replace g6 : Grown H5 H6 := g6
      have hs6 := wapart_T mk K lo E (by omega) (by omega) H6 v6 wr hv6 (g6.at (g5.at (g4.at hwr)))
      have hvv6 : (E = [] ∧ v6 = .nils) ∨ ∃ b, v6 = .sl (.hp b) 0 E.length 7 := by
        rcases hv6 with z | ⟨b, z, _⟩
        · exact .inl z
        · exact .inr ⟨b, z⟩
      rcases hvv6 with ⟨_, rfl⟩ | ⟨b6, rfl⟩
      all_goals
        conv => enter [1]; whnf
        refine Ends.call hs6 ?_
        conv => enter [1]; whnf
        exact Ends.some' rfl
  replace c2 : j < 60 := by omega
  refine Ends.iteT (by simp; omega) ?_
  conv => enter [1]; whnf
  refine Ends.iteT (decide_eq_true (by omega)) ?_
  conv => enter [1]; whnf
  refine Ends.opt (get_at (hG.at hH) _) ?_
  conv => enter [1]; whnf
  obtain ⟨a, ha⟩ : ∃ a, a = l[j] := ⟨_, rfl⟩
  have hpa : ∀ off, off = j * 4 → partV Try.prog 67 (actsW l) off = some (.agg (actW a)) := fun off ho => by rw [ha]; exact partActW c1 ho
  obtain ⟨u1, u2⟩ : U16 a.n ∧ U16 a.v := by rw [ha]; exact hul _ (List.getElem_mem c1)
  refine Ends.opt (hpa _ (by omega)) ?_
  clear ha hpa
  conv => enter [1]; whnf
  refine Ends.forceN ?_
  conv => enter [1]; whnf
  refine Ends.forceLs ?_
  conv => enter [1]; whnf
  refine Ends.opt (loc_top _ _ _) ?_
  conv => enter [1]; whnf
  refine Ends.forceLs ?_
  conv => enter [1]; whnf
  have eat : IntKind.i64.wrap ((at0 : Int) + 1) = ((at0 + 1 : Nat) : Int) := by rw [w64]; omega
  have hy0 := hu at0
  have LG := hG.len
  obtain ⟨y, hy⟩ : ∃ y, y = R.getD at0 0 := ⟨_, rfl⟩
  rw [← hy] at hy0
  have hyz : y = 0 := by rw [hy, hR0]; rfl
  subst hyz
  refine Ends.forceN ?_
  conv => enter [1]; whnf
  refine Ends.opt (loc_set _ _ _ _) ?_
  conv => enter [1]; whnf
  rw [and64_7]
  by_cases k0 : a.w % 8 = 0
  · have q0 : ((a.w % 8) == 0) = true := beq_iff_eq.2 k0
    rw [q0]
    conv => enter [1]; whnf
    by_cases hT : a.t = true
    · rw [hT]
      refine Ends.forceN ?_
      conv => enter [1]; whnf
      refine Ends.opt (loc_set _ _ _ _) ?_
      conv => enter [1]; whnf
      refine Ends.forceN ?_
      conv => enter [1]; whnf
      refine Ends.opt (loc_set _ _ _ _) ?_
      conv => enter [1]; whnf
      refine Ends.forceN ?_
      conv => enter [1]; whnf
      refine Ends.opt (loc_set _ _ _ _) ?_
      conv => enter [1]; whnf
      have hin := win_F mk K lo (by omega) h (by omega) (by omega) (by omega) at0 rfl (by omega) a.n true hu
      simp only [if_true, Bool.false_eq_true, if_false] at hin
      rw [← hy] at hin
      refine Ends.callE (hin) (fun v2 H2 hv => ?_)
      obtain ⟨hv, lv2, eb2, h2, k2, he2⟩ := hv
      replace hv : v2 = .int .u16 0 := hv
      subst hv
      replace k2 : KeepW H' H2 wb eb := k2
      replace he2 : H'.length ≤ eb2 := he2
      replace h2 : HasW H2 wb R rv (min (at0 + 1) R.length) (E ++ [ev3 1 a.n 0]) lv2 eb2 := h2
      conv => enter [1]; whnf
      first
        | (refine Ends.iteF (by first | (simp []; done) | fail "open") ?_; conv => enter [1]; whnf)
        | (refine Ends.iteT (by first | (simp []; done) | fail "open") ?_; conv => enter [1]; whnf)
        | skip
      rw [eat]
      refine Ends.forceN ?_
      conv => enter [1]; whnf
      refine Ends.opt (loc_set _ _ _ _) ?_
      conv => enter [1]; whnf
      have hwr2 : H2[wr]? = some ⟨evsV E, true⟩ := k2.2 wr _ hwr hw1 hw2
      have L2 := k2.1
      have hwl := at_lt hwr
      have hwl2 := at_lt hwr2
      refine Ends.forceN ?_
      conv => enter [1]; whnf
      refine Ends.forceLs ?_
      conv => enter [1]; whnf
      refine Ends.opt (sc_lo7 _ _ _ 1 rfl) ?_
      conv => enter [1]; whnf
      refine Ends.iteT (may_hp (by omega)) ?_
      conv => enter [1]; whnf
      refine Ends.iteT (decide_eq_true (by omega)) ?_
      conv => enter [1]; whnf
      refine Ends.opt (get_at hwr2 _) ?_
      conv => enter [1]; whnf
      refine Ends.iteT (decide_eq_true (by rw [evsV_len]; omega)) ?_
      conv => enter [1]; whnf
      refine Ends.force ?_
      obtain ⟨E3, hE3⟩ : ∃ E3, E3 = E ++ [ev3 1 a.n 0] := ⟨_, rfl⟩
      rw [← hE3] at h2
      have hl3 : E.length + 1 = E3.length := by rw [hE3, List.length_append]; rfl
      have h3 : HasW (H2.set wr ⟨[], false⟩ ++ [(⟨dropN 0 (evsV E) ++ [.int .i64 1, .int .u16 a.n, .int .u16 0, .int .u16 0, .int .u16 0, .int .u16 0, .int .u16 0], true⟩ : Blk)]) wb R rv (min (at0 + 1) R.length) E3 lv2 eb2 := h2.ap _ _ hw1 (by omega) hw3
      have hwr3 : (H2.set wr ⟨[], false⟩ ++ [(⟨dropN 0 (evsV E) ++ [.int .i64 1, .int .u16 a.n, .int .u16 0, .int .u16 0, .int .u16 0, .int .u16 0, .int .u16 0], true⟩ : Blk)])[H2.length]? = some ⟨evsV E3, true⟩ := by rw [snoc_top (by simp), hE3, evsV_append, drop0]; rfl
      have hG3 : Grown H (H2.set wr ⟨[], false⟩ ++ [(⟨dropN 0 (evsV E) ++ [.int .i64 1, .int .u16 a.n, .int .u16 0, .int .u16 0, .int .u16 0, .int .u16 0, .int .u16 0], true⟩ : Blk)]) := ((grown_keep hG k2 hwb heb).set (by omega) _).trans (Grown.one _ _)
      have hw33 : ∀ b, rv = .sl (.hp b) 0 R.length 1 → b ≠ H2.length := fun b e => by have := h2.rb_lt b e; omega
      have heb3 : eb2 ≠ H2.length ∨ E3 = [] := by rcases h2.he with ⟨_, z⟩ | ⟨_, _, z⟩; exact .inr z; exact .inl (by have := at_lt z; omega)
      have heb4 : eb2 ≠ H2.length := by rcases heb3 with z | z; exact z; (rw [z] at hl3; simp at hl3)
      have hwbl := h2.len
      conv => enter [1]; whnf
      rw [hl3]
      generalize (H2.set wr ⟨[], false⟩ ++ [(⟨dropN 0 (evsV E) ++ [.int .i64 1, .int .u16 a.n, .int .u16 0, .int .u16 0, .int .u16 0, .int .u16 0, .int .u16 0], true⟩ : Blk)]) = H3 at *
      refine Ends.call (wused_F mk K lo (by omega) h3) ?_
      conv => enter [1]; whnf
      have hmin : (if (0 : Int) < (((at0 + 1) : Nat) : Int) then (0 : Int) else (((at0 + 1) : Nat) : Int)) = ((min ((at0 + 1)) R.length : Nat) : Int) := by rw [hR0]; simp
      refine Ends.iteF (by rw [hmin]; simp) ?_
      conv => enter [1]; whnf
      refine hL _ ⟨j + 1, (at0 + 1), E3, lv2, eb2, H2.length, H3, _, by omega, by omega, by omega, by omega, h3, hwr3, hG3, by omega, by omega, by omega, hw33, ?_, rfl⟩
      have e3 : IntKind.i64.wrap ((j : Int) + 1) = ((j + 1 : Nat) : Int) := by rw [w64]; omega
      rw [e3]
      rfl
    replace hT : a.t = false := by simpa using hT
    rw [hT]
    refine Ends.forceN ?_
    conv => enter [1]; whnf
    refine Ends.opt (loc_set _ _ _ _) ?_
    conv => enter [1]; whnf
    have e6 : (0 : Int).tmod 256 = 0 % 256 := by have := hy0; unfold U16 at this; rw [Int.tmod_eq_emod_of_nonneg this.1]
    rw [e6]
    refine Ends.forceN ?_
    conv => enter [1]; whnf
    refine Ends.opt (loc_set _ _ _ _) ?_
    conv => enter [1]; whnf
    refine Ends.forceN ?_
    conv => enter [1]; whnf
    refine Ends.opt (loc_set _ _ _ _) ?_
    conv => enter [1]; whnf
    have hin := win_F mk K lo (by omega) h (by omega) (by omega) (by omega) at0 rfl (by omega) a.n false hu
    simp only [if_true, Bool.false_eq_true, if_false] at hin
    rw [← hy] at hin
    refine Ends.callE (hin) (fun v2 H2 hv => ?_)
    obtain ⟨hv, lv2, eb2, h2, k2, he2⟩ := hv
    replace hv : v2 = .int .u16 (0 % 256) := hv
    subst hv
    replace k2 : KeepW H' H2 wb eb := k2
    replace he2 : H'.length ≤ eb2 := he2
    replace h2 : HasW H2 wb R rv (min (at0 + 1) R.length) (E ++ [ev3 1 a.n (0 % 256)]) lv2 eb2 := h2
    conv => enter [1]; whnf
    first
      | (refine Ends.iteF (by first | (simp []; done) | fail "open") ?_; conv => enter [1]; whnf)
      | (refine Ends.iteT (by first | (simp []; done) | fail "open") ?_; conv => enter [1]; whnf)
      | skip
    rw [eat]
    refine Ends.forceN ?_
    conv => enter [1]; whnf
    refine Ends.opt (loc_set _ _ _ _) ?_
    conv => enter [1]; whnf
    have hwr2 : H2[wr]? = some ⟨evsV E, true⟩ := k2.2 wr _ hwr hw1 hw2
    have L2 := k2.1
    have hwl := at_lt hwr
    have hwl2 := at_lt hwr2
    refine Ends.forceN ?_
    conv => enter [1]; whnf
    refine Ends.forceLs ?_
    conv => enter [1]; whnf
    refine Ends.opt (sc_lo7 _ _ _ 1 rfl) ?_
    conv => enter [1]; whnf
    refine Ends.iteT (may_hp (by omega)) ?_
    conv => enter [1]; whnf
    refine Ends.iteT (decide_eq_true (by omega)) ?_
    conv => enter [1]; whnf
    refine Ends.opt (get_at hwr2 _) ?_
    conv => enter [1]; whnf
    refine Ends.iteT (decide_eq_true (by rw [evsV_len]; omega)) ?_
    conv => enter [1]; whnf
    refine Ends.force ?_
    obtain ⟨E3, hE3⟩ : ∃ E3, E3 = E ++ [ev3 1 a.n (0 % 256)] := ⟨_, rfl⟩
    rw [← hE3] at h2
    have hl3 : E.length + 1 = E3.length := by rw [hE3, List.length_append]; rfl
    have h3 : HasW (H2.set wr ⟨[], false⟩ ++ [(⟨dropN 0 (evsV E) ++ [.int .i64 1, .int .u16 a.n, .int .u16 (0 % 256), .int .u16 0, .int .u16 0, .int .u16 0, .int .u16 0], true⟩ : Blk)]) wb R rv (min (at0 + 1) R.length) E3 lv2 eb2 := h2.ap _ _ hw1 (by omega) hw3
    have hwr3 : (H2.set wr ⟨[], false⟩ ++ [(⟨dropN 0 (evsV E) ++ [.int .i64 1, .int .u16 a.n, .int .u16 (0 % 256), .int .u16 0, .int .u16 0, .int .u16 0, .int .u16 0], true⟩ : Blk)])[H2.length]? = some ⟨evsV E3, true⟩ := by rw [snoc_top (by simp), hE3, evsV_append, drop0]; rfl
    have hG3 : Grown H (H2.set wr ⟨[], false⟩ ++ [(⟨dropN 0 (evsV E) ++ [.int .i64 1, .int .u16 a.n, .int .u16 (0 % 256), .int .u16 0, .int .u16 0, .int .u16 0, .int .u16 0], true⟩ : Blk)]) := ((grown_keep hG k2 hwb heb).set (by omega) _).trans (Grown.one _ _)
    have hw33 : ∀ b, rv = .sl (.hp b) 0 R.length 1 → b ≠ H2.length := fun b e => by have := h2.rb_lt b e; omega
    have heb3 : eb2 ≠ H2.length ∨ E3 = [] := by rcases h2.he with ⟨_, z⟩ | ⟨_, _, z⟩; exact .inr z; exact .inl (by have := at_lt z; omega)
    have heb4 : eb2 ≠ H2.length := by rcases heb3 with z | z; exact z; (rw [z] at hl3; simp at hl3)
    have hwbl := h2.len
    conv => enter [1]; whnf
    rw [hl3]
    generalize (H2.set wr ⟨[], false⟩ ++ [(⟨dropN 0 (evsV E) ++ [.int .i64 1, .int .u16 a.n, .int .u16 (0 % 256), .int .u16 0, .int .u16 0, .int .u16 0, .int .u16 0], true⟩ : Blk)]) = H3 at *
    refine Ends.call (wused_F mk K lo (by omega) h3) ?_
    conv => enter [1]; whnf
    have hmin : (if (0 : Int) < (((at0 + 1) : Nat) : Int) then (0 : Int) else (((at0 + 1) : Nat) : Int)) = ((min ((at0 + 1)) R.length : Nat) : Int) := by rw [hR0]; simp
    refine Ends.iteF (by rw [hmin]; simp) ?_
    conv => enter [1]; whnf
    refine hL _ ⟨j + 1, (at0 + 1), E3, lv2, eb2, H2.length, H3, _, by omega, by omega, by omega, by omega, h3, hwr3, hG3, by omega, by omega, by omega, hw33, ?_, rfl⟩
    have e3 : IntKind.i64.wrap ((j : Int) + 1) = ((j + 1 : Nat) : Int) := by rw [w64]; omega
    rw [e3]
    rfl
  have q0 : ((a.w % 8) == 0) = false := beq_eq_false_iff_ne.2 k0
  rw [q0]
  conv => enter [1]; whnf
  by_cases k1 : a.w % 8 = 1
  · have q1 : ((a.w % 8) == 1) = true := beq_iff_eq.2 k1
    rw [q1]
    conv => enter [1]; whnf
    refine Ends.forceN ?_
    conv => enter [1]; whnf
    refine Ends.opt (loc_set _ _ _ _) ?_
    conv => enter [1]; whnf
    refine Ends.forceN ?_
    conv => enter [1]; whnf
    refine Ends.opt (loc_set _ _ _ _) ?_
    conv => enter [1]; whnf
    refine Ends.callE (wout_F mk K lo (by omega) h (by omega) (by omega) (by omega) a.n a.v) (fun v2 H2 hv => ?_)
    obtain ⟨hv, lv2, eb2, h2, k2, he2⟩ := hv
    replace hv : v2 = .tup [] := hv
    subst hv
    replace k2 : KeepW H' H2 wb eb := k2
    replace he2 : H'.length ≤ eb2 := he2
    replace h2 : HasW H2 wb R rv (min at0 R.length) (E ++ [ev3 2 a.n a.v]) lv2 eb2 := h2
    conv => enter [1]; whnf
    refine Ends.forceN ?_
    conv => enter [1]; whnf
    refine Ends.opt (loc_set _ _ _ _) ?_
    conv => enter [1]; whnf
    refine Ends.forceN ?_
    conv => enter [1]; whnf
    refine Ends.opt (loc_set _ _ _ _) ?_
    conv => enter [1]; whnf
    have hwr2 : H2[wr]? = some ⟨evsV E, true⟩ := k2.2 wr _ hwr hw1 hw2
    have L2 := k2.1
    have hwl := at_lt hwr
    have hwl2 := at_lt hwr2
    refine Ends.forceN ?_
    conv => enter [1]; whnf
    refine Ends.forceLs ?_
    conv => enter [1]; whnf
    refine Ends.opt (sc_lo7 _ _ _ 1 rfl) ?_
    conv => enter [1]; whnf
    refine Ends.iteT (may_hp (by omega)) ?_
    conv => enter [1]; whnf
    refine Ends.iteT (decide_eq_true (by omega)) ?_
    conv => enter [1]; whnf
    refine Ends.opt (get_at hwr2 _) ?_
    conv => enter [1]; whnf
    refine Ends.iteT (decide_eq_true (by rw [evsV_len]; omega)) ?_
    conv => enter [1]; whnf
    refine Ends.force ?_
    obtain ⟨E3, hE3⟩ : ∃ E3, E3 = E ++ [ev3 2 a.n a.v] := ⟨_, rfl⟩
    rw [← hE3] at h2
    have hl3 : E.length + 1 = E3.length := by rw [hE3, List.length_append]; rfl
    have h3 : HasW (H2.set wr ⟨[], false⟩ ++ [(⟨dropN 0 (evsV E) ++ [.int .i64 2, .int .u16 a.n, .int .u16 a.v, .int .u16 0, .int .u16 0, .int .u16 0, .int .u16 0], true⟩ : Blk)]) wb R rv (min at0 R.length) E3 lv2 eb2 := h2.ap _ _ hw1 (by omega) hw3
    have hwr3 : (H2.set wr ⟨[], false⟩ ++ [(⟨dropN 0 (evsV E) ++ [.int .i64 2, .int .u16 a.n, .int .u16 a.v, .int .u16 0, .int .u16 0, .int .u16 0, .int .u16 0], true⟩ : Blk)])[H2.length]? = some ⟨evsV E3, true⟩ := by rw [snoc_top (by simp), hE3, evsV_append, drop0]; rfl
    have hG3 : Grown H (H2.set wr ⟨[], false⟩ ++ [(⟨dropN 0 (evsV E) ++ [.int .i64 2, .int .u16 a.n, .int .u16 a.v, .int .u16 0, .int .u16 0, .int .u16 0, .int .u16 0], true⟩ : Blk)]) := ((grown_keep hG k2 hwb heb).set (by omega) _).trans (Grown.one _ _)
    have hw33 : ∀ b, rv = .sl (.hp b) 0 R.length 1 → b ≠ H2.length := fun b e => by have := h2.rb_lt b e; omega
    have heb3 : eb2 ≠ H2.length ∨ E3 = [] := by rcases h2.he with ⟨_, z⟩ | ⟨_, _, z⟩; exact .inr z; exact .inl (by have := at_lt z; omega)
    have heb4 : eb2 ≠ H2.length := by rcases heb3 with z | z; exact z; (rw [z] at hl3; simp at hl3)
    have hwbl := h2.len
    conv => enter [1]; whnf
    rw [hl3]
    generalize (H2.set wr ⟨[], false⟩ ++ [(⟨dropN 0 (evsV E) ++ [.int .i64 2, .int .u16 a.n, .int .u16 a.v, .int .u16 0, .int .u16 0, .int .u16 0, .int .u16 0], true⟩ : Blk)]) = H3 at *
    refine Ends.call (wused_F mk K lo (by omega) h3) ?_
    conv => enter [1]; whnf
    have hmin : (if (0 : Int) < ((at0 : Nat) : Int) then (0 : Int) else ((at0 : Nat) : Int)) = ((min (at0) R.length : Nat) : Int) := by rw [hR0]; simp
    refine Ends.iteF (by rw [hmin]; simp) ?_
    conv => enter [1]; whnf
    refine hL _ ⟨j + 1, at0, E3, lv2, eb2, H2.length, H3, _, by omega, by omega, by omega, by omega, h3, hwr3, hG3, by omega, by omega, by omega, hw33, ?_, rfl⟩
    have e3 : IntKind.i64.wrap ((j : Int) + 1) = ((j + 1 : Nat) : Int) := by rw [w64]; omega
    rw [e3]
    rfl
  have q1 : ((a.w % 8) == 1) = false := beq_eq_false_iff_ne.2 k1
  rw [q1]
  conv => enter [1]; whnf
  by_cases k2' : a.w % 8 = 2
  · have q2 : ((a.w % 8) == 2) = true := beq_iff_eq.2 k2'
    rw [q2]
    conv => enter [1]; whnf
    refine Ends.forceN ?_
    conv => enter [1]; whnf
    refine Ends.opt (loc_set _ _ _ _) ?_
    conv => enter [1]; whnf
    obtain ⟨q, hq⟩ : ∃ q, q = IntKind.u8.wrap (IntKind.u16.wrap ((BitVec.ofInt IntKind.u16.bits a.n &&& BitVec.ofInt IntKind.u16.bits 63).toNat : Nat)) := ⟨_, rfl⟩
    have hq8 : U8 q := by rw [hq]; exact u8_wrap _
    rw [← hq]
    refine Ends.forceN ?_
    conv => enter [1]; whnf
    refine Ends.opt (loc_set _ _ _ _) ?_
    conv => enter [1]; whnf
    refine Ends.forceN ?_
    conv => enter [1]; whnf
    refine Ends.opt (loc_set _ _ _ _) ?_
    conv => enter [1]; whnf
    have eq16 : IntKind.u16.wrap q = q := by unfold U8 at hq8; rw [wu16]; omega
    have ev : IntKind.u16.wrap (a.v.tdiv 256) = a.v / 256 := by unfold U16 at u2; rw [Int.tdiv_eq_ediv_of_nonneg u2.1, wu16]; omega
    by_cases c1 : q = 32
    · have d1 : (q == 32) = true := beq_iff_eq.2 c1
      have hin := wint_F mk K lo (by omega) h (by omega) (by omega) (by omega) at0 rfl (by omega) q a.v 2 3 a.n hq8 u2 true (by rw [d1]; rfl)
      simp only [if_true, Bool.false_eq_true, if_false] at hin
      refine Ends.callE (hin) (fun v2 H2 hv => ?_)
      obtain ⟨hv, lv2, eb2, h2, k2, he2⟩ := hv
      replace hv : v2 = .tup [.int .u16 a.v, .bool true] := hv
      subst hv
      replace k2 : KeepW H' H2 wb eb := k2
      replace he2 : H'.length ≤ eb2 := he2
      replace h2 : HasW H2 wb R rv (min at0 R.length) (E ++ [⟨3, q, a.v, a.v, 2, 3, a.n⟩]) lv2 eb2 := h2
      conv => enter [1]; whnf
      rw [d1]
      conv => enter [1]; whnf
      refine Ends.forceN ?_
      conv => enter [1]; whnf
      refine Ends.opt (loc_set _ _ _ _) ?_
      conv => enter [1]; whnf
      first
        | (refine Ends.iteF (by first | (simp []; done) | fail "open") ?_; conv => enter [1]; whnf)
        | (refine Ends.iteT (by first | (simp []; done) | fail "open") ?_; conv => enter [1]; whnf)
        | skip
      rw [eq16]
      refine Ends.forceN ?_
      conv => enter [1]; whnf
      refine Ends.opt (loc_set _ _ _ _) ?_
      conv => enter [1]; whnf
      refine Ends.forceN ?_
      conv => enter [1]; whnf
      refine Ends.opt (loc_set _ _ _ _) ?_
      conv => enter [1]; whnf
      have hwr2 : H2[wr]? = some ⟨evsV E, true⟩ := k2.2 wr _ hwr hw1 hw2
      have L2 := k2.1
      have hwl := at_lt hwr
      have hwl2 := at_lt hwr2
      refine Ends.forceN ?_
      conv => enter [1]; whnf
      refine Ends.forceLs ?_
      conv => enter [1]; whnf
      refine Ends.opt (sc_lo7 _ _ _ 1 rfl) ?_
      conv => enter [1]; whnf
      refine Ends.iteT (may_hp (by omega)) ?_
      conv => enter [1]; whnf
      refine Ends.iteT (decide_eq_true (by omega)) ?_
      conv => enter [1]; whnf
      refine Ends.opt (get_at hwr2 _) ?_
      conv => enter [1]; whnf
      refine Ends.iteT (decide_eq_true (by rw [evsV_len]; omega)) ?_
      conv => enter [1]; whnf
      refine Ends.force ?_
      obtain ⟨E3, hE3⟩ : ∃ E3, E3 = E ++ [⟨3, q, a.v, a.v, 2, 3, a.n⟩] := ⟨_, rfl⟩
      rw [← hE3] at h2
      have hl3 : E.length + 1 = E3.length := by rw [hE3, List.length_append]; rfl
      have h3 : HasW (H2.set wr ⟨[], false⟩ ++ [(⟨dropN 0 (evsV E) ++ [.int .i64 3, .int .u16 q, .int .u16 a.v, .int .u16 a.v, .int .u16 2, .int .u16 3, .int .u16 a.n], true⟩ : Blk)]) wb R rv (min at0 R.length) E3 lv2 eb2 := h2.ap _ _ hw1 (by omega) hw3
      have hwr3 : (H2.set wr ⟨[], false⟩ ++ [(⟨dropN 0 (evsV E) ++ [.int .i64 3, .int .u16 q, .int .u16 a.v, .int .u16 a.v, .int .u16 2, .int .u16 3, .int .u16 a.n], true⟩ : Blk)])[H2.length]? = some ⟨evsV E3, true⟩ := by rw [snoc_top (by simp), hE3, evsV_append, drop0]; rfl
      have hG3 : Grown H (H2.set wr ⟨[], false⟩ ++ [(⟨dropN 0 (evsV E) ++ [.int .i64 3, .int .u16 q, .int .u16 a.v, .int .u16 a.v, .int .u16 2, .int .u16 3, .int .u16 a.n], true⟩ : Blk)]) := ((grown_keep hG k2 hwb heb).set (by omega) _).trans (Grown.one _ _)
      have hw33 : ∀ b, rv = .sl (.hp b) 0 R.length 1 → b ≠ H2.length := fun b e => by have := h2.rb_lt b e; omega
      have heb3 : eb2 ≠ H2.length ∨ E3 = [] := by rcases h2.he with ⟨_, z⟩ | ⟨_, _, z⟩; exact .inr z; exact .inl (by have := at_lt z; omega)
      have heb4 : eb2 ≠ H2.length := by rcases heb3 with z | z; exact z; (rw [z] at hl3; simp at hl3)
      have hwbl := h2.len
      conv => enter [1]; whnf
      rw [hl3]
      generalize (H2.set wr ⟨[], false⟩ ++ [(⟨dropN 0 (evsV E) ++ [.int .i64 3, .int .u16 q, .int .u16 a.v, .int .u16 a.v, .int .u16 2, .int .u16 3, .int .u16 a.n], true⟩ : Blk)]) = H3 at *
      refine Ends.call (wused_F mk K lo (by omega) h3) ?_
      conv => enter [1]; whnf
      have hmin : (if (0 : Int) < ((at0 : Nat) : Int) then (0 : Int) else ((at0 : Nat) : Int)) = ((min (at0) R.length : Nat) : Int) := by rw [hR0]; simp
      refine Ends.iteF (by rw [hmin]; simp) ?_
      conv => enter [1]; whnf
      refine hL _ ⟨j + 1, at0, E3, lv2, eb2, H2.length, H3, _, by omega, by omega, by omega, by omega, h3, hwr3, hG3, by omega, by omega, by omega, hw33, ?_, rfl⟩
      have e3 : IntKind.i64.wrap ((j : Int) + 1) = ((j + 1 : Nat) : Int) := by rw [w64]; omega
      rw [e3]
      rfl
    have d1 : (q == 32) = false := beq_eq_false_iff_ne.2 c1
    by_cases c2 : q = 33
    · have d2 : (q == 33) = true := beq_iff_eq.2 c2
      by_cases c3 : a.v / 256 = 76
      · have d3 : (a.v / 256 == 76) = true := beq_iff_eq.2 c3
        have hin := wint_F mk K lo (by omega) h (by omega) (by omega) (by omega) at0 rfl (by omega) q a.v 2 3 a.n hq8 u2 true (by rw [d1, d2, d3]; rfl)
        simp only [if_true, Bool.false_eq_true, if_false] at hin
        refine Ends.callE (hin) (fun v2 H2 hv => ?_)
        obtain ⟨hv, lv2, eb2, h2, k2, he2⟩ := hv
        replace hv : v2 = .tup [.int .u16 a.v, .bool true] := hv
        subst hv
        replace k2 : KeepW H' H2 wb eb := k2
        replace he2 : H'.length ≤ eb2 := he2
        replace h2 : HasW H2 wb R rv (min at0 R.length) (E ++ [⟨3, q, a.v, a.v, 2, 3, a.n⟩]) lv2 eb2 := h2
        conv => enter [1]; whnf
        rw [d1]
        conv => enter [1]; whnf
        rw [d2]
        conv => enter [1]; whnf
        refine Ends.forceN ?_
        conv => enter [1]; whnf
        refine Ends.opt (loc_set _ _ _ _) ?_
        conv => enter [1]; whnf
        rw [ev, d3]
        conv => enter [1]; whnf
        refine Ends.forceN ?_
        conv => enter [1]; whnf
        refine Ends.opt (loc_set _ _ _ _) ?_
        conv => enter [1]; whnf
        first
          | (refine Ends.iteF (by first | (simp []; done) | fail "open") ?_; conv => enter [1]; whnf)
          | (refine Ends.iteT (by first | (simp []; done) | fail "open") ?_; conv => enter [1]; whnf)
          | skip
        rw [eq16]
        refine Ends.forceN ?_
        conv => enter [1]; whnf
        refine Ends.opt (loc_set _ _ _ _) ?_
        conv => enter [1]; whnf
        refine Ends.forceN ?_
        conv => enter [1]; whnf
        refine Ends.opt (loc_set _ _ _ _) ?_
        conv => enter [1]; whnf
        have hwr2 : H2[wr]? = some ⟨evsV E, true⟩ := k2.2 wr _ hwr hw1 hw2
        have L2 := k2.1
        have hwl := at_lt hwr
        have hwl2 := at_lt hwr2
        refine Ends.forceN ?_
        conv => enter [1]; whnf
        refine Ends.forceLs ?_
        conv => enter [1]; whnf
        refine Ends.opt (sc_lo7 _ _ _ 1 rfl) ?_
        conv => enter [1]; whnf
        refine Ends.iteT (may_hp (by omega)) ?_
        conv => enter [1]; whnf
        refine Ends.iteT (decide_eq_true (by omega)) ?_
        conv => enter [1]; whnf
        refine Ends.opt (get_at hwr2 _) ?_
        conv => enter [1]; whnf
        refine Ends.iteT (decide_eq_true (by rw [evsV_len]; omega)) ?_
        conv => enter [1]; whnf
        refine Ends.force ?_
        obtain ⟨E3, hE3⟩ : ∃ E3, E3 = E ++ [⟨3, q, a.v, a.v, 2, 3, a.n⟩] := ⟨_, rfl⟩
        rw [← hE3] at h2
        have hl3 : E.length + 1 = E3.length := by rw [hE3, List.length_append]; rfl
        have h3 : HasW (H2.set wr ⟨[], false⟩ ++ [(⟨dropN 0 (evsV E) ++ [.int .i64 3, .int .u16 q, .int .u16 a.v, .int .u16 a.v, .int .u16 2, .int .u16 3, .int .u16 a.n], true⟩ : Blk)]) wb R rv (min at0 R.length) E3 lv2 eb2 := h2.ap _ _ hw1 (by omega) hw3
        have hwr3 : (H2.set wr ⟨[], false⟩ ++ [(⟨dropN 0 (evsV E) ++ [.int .i64 3, .int .u16 q, .int .u16 a.v, .int .u16 a.v, .int .u16 2, .int .u16 3, .int .u16 a.n], true⟩ : Blk)])[H2.length]? = some ⟨evsV E3, true⟩ := by rw [snoc_top (by simp), hE3, evsV_append, drop0]; rfl
        have hG3 : Grown H (H2.set wr ⟨[], false⟩ ++ [(⟨dropN 0 (evsV E) ++ [.int .i64 3, .int .u16 q, .int .u16 a.v, .int .u16 a.v, .int .u16 2, .int .u16 3, .int .u16 a.n], true⟩ : Blk)]) := ((grown_keep hG k2 hwb heb).set (by omega) _).trans (Grown.one _ _)
        have hw33 : ∀ b, rv = .sl (.hp b) 0 R.length 1 → b ≠ H2.length := fun b e => by have := h2.rb_lt b e; omega
        have heb3 : eb2 ≠ H2.length ∨ E3 = [] := by rcases h2.he with ⟨_, z⟩ | ⟨_, _, z⟩; exact .inr z; exact .inl (by have := at_lt z; omega)
        have heb4 : eb2 ≠ H2.length := by rcases heb3 with z | z; exact z; (rw [z] at hl3; simp at hl3)
        have hwbl := h2.len
        conv => enter [1]; whnf
        rw [hl3]
        generalize (H2.set wr ⟨[], false⟩ ++ [(⟨dropN 0 (evsV E) ++ [.int .i64 3, .int .u16 q, .int .u16 a.v, .int .u16 a.v, .int .u16 2, .int .u16 3, .int .u16 a.n], true⟩ : Blk)]) = H3 at *
        refine Ends.call (wused_F mk K lo (by omega) h3) ?_
        conv => enter [1]; whnf
        have hmin : (if (0 : Int) < ((at0 : Nat) : Int) then (0 : Int) else ((at0 : Nat) : Int)) = ((min (at0) R.length : Nat) : Int) := by rw [hR0]; simp
        refine Ends.iteF (by rw [hmin]; simp) ?_
        conv => enter [1]; whnf
        refine hL _ ⟨j + 1, at0, E3, lv2, eb2, H2.length, H3, _, by omega, by omega, by omega, by omega, h3, hwr3, hG3, by omega, by omega, by omega, hw33, ?_, rfl⟩
        have e3 : IntKind.i64.wrap ((j : Int) + 1) = ((j + 1 : Nat) : Int) := by rw [w64]; omega
        rw [e3]
        rfl
      · have d3 : (a.v / 256 == 76) = false := beq_eq_false_iff_ne.2 c3
        have hin := wint_F mk K lo (by omega) h (by omega) (by omega) (by omega) at0 rfl (by omega) q a.v 2 3 a.n hq8 u2 false (by rw [d1, d2, d3]; rfl)
        simp only [if_true, Bool.false_eq_true, if_false] at hin
        rw [← hy] at hin
        refine Ends.callE (hin) (fun v2 H2 hv => ?_)
        obtain ⟨hv, lv2, eb2, h2, k2, he2⟩ := hv
        replace hv : v2 = .tup [.int .u16 0, .bool false] := hv
        subst hv
        replace k2 : KeepW H' H2 wb eb := k2
        replace he2 : H'.length ≤ eb2 := he2
        replace h2 : HasW H2 wb R rv (min (at0 + 1) R.length) (E ++ [⟨3, q, 0, a.v, 2, 3, a.n⟩]) lv2 eb2 := h2
        conv => enter [1]; whnf
        rw [d1]
        conv => enter [1]; whnf
        rw [d2]
        conv => enter [1]; whnf
        refine Ends.forceN ?_
        conv => enter [1]; whnf
        refine Ends.opt (loc_set _ _ _ _) ?_
        conv => enter [1]; whnf
        rw [ev, d3]
        conv => enter [1]; whnf
        first
          | (refine Ends.iteF (by first | (simp []; done) | fail "open") ?_; conv => enter [1]; whnf)
          | (refine Ends.iteT (by first | (simp []; done) | fail "open") ?_; conv => enter [1]; whnf)
          | skip
        rw [eat]
        rw [eq16]
        refine Ends.forceN ?_
        conv => enter [1]; whnf
        refine Ends.opt (loc_set _ _ _ _) ?_
        conv => enter [1]; whnf
        refine Ends.forceN ?_
        conv => enter [1]; whnf
        refine Ends.opt (loc_set _ _ _ _) ?_
        conv => enter [1]; whnf
        have hwr2 : H2[wr]? = some ⟨evsV E, true⟩ := k2.2 wr _ hwr hw1 hw2
        have L2 := k2.1
        have hwl := at_lt hwr
        have hwl2 := at_lt hwr2
        refine Ends.forceN ?_
        conv => enter [1]; whnf
        refine Ends.forceLs ?_
        conv => enter [1]; whnf
        refine Ends.opt (sc_lo7 _ _ _ 1 rfl) ?_
        conv => enter [1]; whnf
        refine Ends.iteT (may_hp (by omega)) ?_
        conv => enter [1]; whnf
        refine Ends.iteT (decide_eq_true (by omega)) ?_
        conv => enter [1]; whnf
        refine Ends.opt (get_at hwr2 _) ?_
        conv => enter [1]; whnf
        refine Ends.iteT (decide_eq_true (by rw [evsV_len]; omega)) ?_
        conv => enter [1]; whnf
        refine Ends.force ?_
        obtain ⟨E3, hE3⟩ : ∃ E3, E3 = E ++ [⟨3, q, 0, a.v, 2, 3, a.n⟩] := ⟨_, rfl⟩
        rw [← hE3] at h2
        have hl3 : E.length + 1 = E3.length := by rw [hE3, List.length_append]; rfl
        have h3 : HasW (H2.set wr ⟨[], false⟩ ++ [(⟨dropN 0 (evsV E) ++ [.int .i64 3, .int .u16 q, .int .u16 0, .int .u16 a.v, .int .u16 2, .int .u16 3, .int .u16 a.n], true⟩ : Blk)]) wb R rv (min (at0 + 1) R.length) E3 lv2 eb2 := h2.ap _ _ hw1 (by omega) hw3
        have hwr3 : (H2.set wr ⟨[], false⟩ ++ [(⟨dropN 0 (evsV E) ++ [.int .i64 3, .int .u16 q, .int .u16 0, .int .u16 a.v, .int .u16 2, .int .u16 3, .int .u16 a.n], true⟩ : Blk)])[H2.length]? = some ⟨evsV E3, true⟩ := by rw [snoc_top (by simp), hE3, evsV_append, drop0]; rfl
        have hG3 : Grown H (H2.set wr ⟨[], false⟩ ++ [(⟨dropN 0 (evsV E) ++ [.int .i64 3, .int .u16 q, .int .u16 0, .int .u16 a.v, .int .u16 2, .int .u16 3, .int .u16 a.n], true⟩ : Blk)]) := ((grown_keep hG k2 hwb heb).set (by omega) _).trans (Grown.one _ _)
        have hw33 : ∀ b, rv = .sl (.hp b) 0 R.length 1 → b ≠ H2.length := fun b e => by have := h2.rb_lt b e; omega
        have heb3 : eb2 ≠ H2.length ∨ E3 = [] := by rcases h2.he with ⟨_, z⟩ | ⟨_, _, z⟩; exact .inr z; exact .inl (by have := at_lt z; omega)
        have heb4 : eb2 ≠ H2.length := by rcases heb3 with z | z; exact z; (rw [z] at hl3; simp at hl3)
        have hwbl := h2.len
        conv => enter [1]; whnf
        rw [hl3]
        generalize (H2.set wr ⟨[], false⟩ ++ [(⟨dropN 0 (evsV E) ++ [.int .i64 3, .int .u16 q, .int .u16 0, .int .u16 a.v, .int .u16 2, .int .u16 3, .int .u16 a.n], true⟩ : Blk)]) = H3 at *
        refine Ends.call (wused_F mk K lo (by omega) h3) ?_
        conv => enter [1]; whnf
        have hmin : (if (0 : Int) < (((at0 + 1) : Nat) : Int) then (0 : Int) else (((at0 + 1) : Nat) : Int)) = ((min ((at0 + 1)) R.length : Nat) : Int) := by rw [hR0]; simp
        refine Ends.iteF (by rw [hmin]; simp) ?_
        conv => enter [1]; whnf
        refine hL _ ⟨j + 1, (at0 + 1), E3, lv2, eb2, H2.length, H3, _, by omega, by omega, by omega, by omega, h3, hwr3, hG3, by omega, by omega, by omega, hw33, ?_, rfl⟩
        have e3 : IntKind.i64.wrap ((j : Int) + 1) = ((j + 1 : Nat) : Int) := by rw [w64]; omega
        rw [e3]
        rfl
    · have d2 : (q == 33) = false := beq_eq_false_iff_ne.2 c2
      have hin := wint_F mk K lo (by omega) h (by omega) (by omega) (by omega) at0 rfl (by omega) q a.v 2 3 a.n hq8 u2 false (by rw [d1, d2]; rfl)
      simp only [if_true, Bool.false_eq_true, if_false] at hin
      rw [← hy] at hin
      refine Ends.callE (hin) (fun v2 H2 hv => ?_)
      obtain ⟨hv, lv2, eb2, h2, k2, he2⟩ := hv
      replace hv : v2 = .tup [.int .u16 0, .bool false] := hv
      subst hv
      replace k2 : KeepW H' H2 wb eb := k2
      replace he2 : H'.length ≤ eb2 := he2
      replace h2 : HasW H2 wb R rv (min (at0 + 1) R.length) (E ++ [⟨3, q, 0, a.v, 2, 3, a.n⟩]) lv2 eb2 := h2
      conv => enter [1]; whnf
      rw [d1]
      conv => enter [1]; whnf
      rw [d2]
      conv => enter [1]; whnf
      first
        | (refine Ends.iteF (by first | (simp []; done) | fail "open") ?_; conv => enter [1]; whnf)
        | (refine Ends.iteT (by first | (simp []; done) | fail "open") ?_; conv => enter [1]; whnf)
        | skip
      rw [eat]
      rw [eq16]
      refine Ends.forceN ?_
      conv => enter [1]; whnf
      refine Ends.opt (loc_set _ _ _ _) ?_
      conv => enter [1]; whnf
      refine Ends.forceN ?_
      conv => enter [1]; whnf
      refine Ends.opt (loc_set _ _ _ _) ?_
      conv => enter [1]; whnf
      have hwr2 : H2[wr]? = some ⟨evsV E, true⟩ := k2.2 wr _ hwr hw1 hw2
      have L2 := k2.1
      have hwl := at_lt hwr
      have hwl2 := at_lt hwr2
      refine Ends.forceN ?_
      conv => enter [1]; whnf
      refine Ends.forceLs ?_
      conv => enter [1]; whnf
      refine Ends.opt (sc_lo7 _ _ _ 1 rfl) ?_
      conv => enter [1]; whnf
      refine Ends.iteT (may_hp (by omega)) ?_
      conv => enter [1]; whnf
      refine Ends.iteT (decide_eq_true (by omega)) ?_
      conv => enter [1]; whnf
      refine Ends.opt (get_at hwr2 _) ?_
      conv => enter [1]; whnf
      refine Ends.iteT (decide_eq_true (by rw [evsV_len]; omega)) ?_
      conv => enter [1]; whnf
      refine Ends.force ?_
      obtain ⟨E3, hE3⟩ : ∃ E3, E3 = E ++ [⟨3, q, 0, a.v, 2, 3, a.n⟩] := ⟨_, rfl⟩
      rw [← hE3] at h2
      have hl3 : E.length + 1 = E3.length := by rw [hE3, List.length_append]; rfl
      have h3 : HasW (H2.set wr ⟨[], false⟩ ++ [(⟨dropN 0 (evsV E) ++ [.int .i64 3, .int .u16 q, .int .u16 0, .int .u16 a.v, .int .u16 2, .int .u16 3, .int .u16 a.n], true⟩ : Blk)]) wb R rv (min (at0 + 1) R.length) E3 lv2 eb2 := h2.ap _ _ hw1 (by omega) hw3
      have hwr3 : (H2.set wr ⟨[], false⟩ ++ [(⟨dropN 0 (evsV E) ++ [.int .i64 3, .int .u16 q, .int .u16 0, .int .u16 a.v, .int .u16 2, .int .u16 3, .int .u16 a.n], true⟩ : Blk)])[H2.length]? = some ⟨evsV E3, true⟩ := by rw [snoc_top (by simp), hE3, evsV_append, drop0]; rfl
      have hG3 : Grown H (H2.set wr ⟨[], false⟩ ++ [(⟨dropN 0 (evsV E) ++ [.int .i64 3, .int .u16 q, .int .u16 0, .int .u16 a.v, .int .u16 2, .int .u16 3, .int .u16 a.n], true⟩ : Blk)]) := ((grown_keep hG k2 hwb heb).set (by omega) _).trans (Grown.one _ _)
      have hw33 : ∀ b, rv = .sl (.hp b) 0 R.length 1 → b ≠ H2.length := fun b e => by have := h2.rb_lt b e; omega
      have heb3 : eb2 ≠ H2.length ∨ E3 = [] := by rcases h2.he with ⟨_, z⟩ | ⟨_, _, z⟩; exact .inr z; exact .inl (by have := at_lt z; omega)
      have heb4 : eb2 ≠ H2.length := by rcases heb3 with z | z; exact z; (rw [z] at hl3; simp at hl3)
      have hwbl := h2.len
      conv => enter [1]; whnf
      rw [hl3]
      generalize (H2.set wr ⟨[], false⟩ ++ [(⟨dropN 0 (evsV E) ++ [.int .i64 3, .int .u16 q, .int .u16 0, .int .u16 a.v, .int .u16 2, .int .u16 3, .int .u16 a.n], true⟩ : Blk)]) = H3 at *
      refine Ends.call (wused_F mk K lo (by omega) h3) ?_
      conv => enter [1]; whnf
      have hmin : (if (0 : Int) < (((at0 + 1) : Nat) : Int) then (0 : Int) else (((at0 + 1) : Nat) : Int)) = ((min ((at0 + 1)) R.length : Nat) : Int) := by rw [hR0]; simp
      refine Ends.iteF (by rw [hmin]; simp) ?_
      conv => enter [1]; whnf
      refine hL _ ⟨j + 1, (at0 + 1), E3, lv2, eb2, H2.length, H3, _, by omega, by omega, by omega, by omega, h3, hwr3, hG3, by omega, by omega, by omega, hw33, ?_, rfl⟩
      have e3 : IntKind.i64.wrap ((j : Int) + 1) = ((j + 1 : Nat) : Int) := by rw [w64]; omega
      rw [e3]
      rfl
  have q2 : ((a.w % 8) == 2) = false := beq_eq_false_iff_ne.2 k2'
  rw [q2]
  conv => enter [1]; whnf
  by_cases k3' : a.w % 8 = 3
  · have q3 : ((a.w % 8) == 3) = true := beq_iff_eq.2 k3'
    rw [q3]
    conv => enter [1]; whnf
    refine Ends.forceN ?_
    conv => enter [1]; whnf
    refine Ends.opt (loc_set _ _ _ _) ?_
    conv => enter [1]; whnf
    obtain ⟨q, hq⟩ : ∃ q, q = IntKind.u8.wrap (IntKind.u16.wrap ((BitVec.ofInt IntKind.u16.bits a.n &&& BitVec.ofInt IntKind.u16.bits 63).toNat : Nat)) := ⟨_, rfl⟩
    have hq8 : U8 q := by rw [hq]; exact u8_wrap _
    rw [← hq]
    refine Ends.forceN ?_
    conv => enter [1]; whnf
    refine Ends.opt (loc_set _ _ _ _) ?_
    conv => enter [1]; whnf
    refine Ends.forceN ?_
    conv => enter [1]; whnf
    refine Ends.opt (loc_set _ _ _ _) ?_
    conv => enter [1]; whnf
    have eq16 : IntKind.u16.wrap q = q := by unfold U8 at hq8; rw [wu16]; omega
    have ev : IntKind.u16.wrap (a.v.tdiv 256) = a.v / 256 := by unfold U16 at u2; rw [Int.tdiv_eq_ediv_of_nonneg u2.1, wu16]; omega
    by_cases c1 : q = 32
    · have d1 : (q == 32) = true := beq_iff_eq.2 c1
      have hin := wint_F mk K lo (by omega) h (by omega) (by omega) (by omega) at0 rfl (by omega) q a.v 2 3 a.n hq8 u2 true (by rw [d1]; rfl)
      simp only [if_true, Bool.false_eq_true, if_false] at hin
      refine Ends.callE (hin) (fun v2 H2 hv => ?_)
      obtain ⟨hv, lv2, eb2, h2, k2, he2⟩ := hv
      replace hv : v2 = .tup [.int .u16 a.v, .bool true] := hv
      subst hv
      replace k2 : KeepW H' H2 wb eb := k2
      replace he2 : H'.length ≤ eb2 := he2
      replace h2 : HasW H2 wb R rv (min at0 R.length) (E ++ [⟨3, q, a.v, a.v, 2, 3, a.n⟩]) lv2 eb2 := h2
      conv => enter [1]; whnf
      rw [d1]
      conv => enter [1]; whnf
      refine Ends.forceN ?_
      conv => enter [1]; whnf
      refine Ends.opt (loc_set _ _ _ _) ?_
      conv => enter [1]; whnf
      first
        | (refine Ends.iteF (by first | (simp []; done) | fail "open") ?_; conv => enter [1]; whnf)
        | (refine Ends.iteT (by first | (simp []; done) | fail "open") ?_; conv => enter [1]; whnf)
        | skip
      rw [eq16]
      refine Ends.forceN ?_
      conv => enter [1]; whnf
      refine Ends.opt (loc_set _ _ _ _) ?_
      conv => enter [1]; whnf
      refine Ends.forceN ?_
      conv => enter [1]; whnf
      refine Ends.opt (loc_set _ _ _ _) ?_
      conv => enter [1]; whnf
      have hwr2 : H2[wr]? = some ⟨evsV E, true⟩ := k2.2 wr _ hwr hw1 hw2
      have L2 := k2.1
      have hwl := at_lt hwr
      have hwl2 := at_lt hwr2
      refine Ends.forceN ?_
      conv => enter [1]; whnf
      refine Ends.forceLs ?_
      conv => enter [1]; whnf
      refine Ends.opt (sc_lo7 _ _ _ 1 rfl) ?_
      conv => enter [1]; whnf
      refine Ends.iteT (may_hp (by omega)) ?_
      conv => enter [1]; whnf
      refine Ends.iteT (decide_eq_true (by omega)) ?_
      conv => enter [1]; whnf
      refine Ends.opt (get_at hwr2 _) ?_
      conv => enter [1]; whnf
      refine Ends.iteT (decide_eq_true (by rw [evsV_len]; omega)) ?_
      conv => enter [1]; whnf
      refine Ends.force ?_
      obtain ⟨E3, hE3⟩ : ∃ E3, E3 = E ++ [⟨3, q, a.v, a.v, 2, 3, a.n⟩] := ⟨_, rfl⟩
      rw [← hE3] at h2
      have hl3 : E.length + 1 = E3.length := by rw [hE3, List.length_append]; rfl
      have h3 : HasW (H2.set wr ⟨[], false⟩ ++ [(⟨dropN 0 (evsV E) ++ [.int .i64 3, .int .u16 q, .int .u16 a.v, .int .u16 a.v, .int .u16 2, .int .u16 3, .int .u16 a.n], true⟩ : Blk)]) wb R rv (min at0 R.length) E3 lv2 eb2 := h2.ap _ _ hw1 (by omega) hw3
      have hwr3 : (H2.set wr ⟨[], false⟩ ++ [(⟨dropN 0 (evsV E) ++ [.int .i64 3, .int .u16 q, .int .u16 a.v, .int .u16 a.v, .int .u16 2, .int .u16 3, .int .u16 a.n], true⟩ : Blk)])[H2.length]? = some ⟨evsV E3, true⟩ := by rw [snoc_top (by simp), hE3, evsV_append, drop0]; rfl
      have hG3 : Grown H (H2.set wr ⟨[], false⟩ ++ [(⟨dropN 0 (evsV E) ++ [.int .i64 3, .int .u16 q, .int .u16 a.v, .int .u16 a.v, .int .u16 2, .int .u16 3, .int .u16 a.n], true⟩ : Blk)]) := ((grown_keep hG k2 hwb heb).set (by omega) _).trans (Grown.one _ _)
      have hw33 : ∀ b, rv = .sl (.hp b) 0 R.length 1 → b ≠ H2.length := fun b e => by have := h2.rb_lt b e; omega
      have heb3 : eb2 ≠ H2.length ∨ E3 = [] := by rcases h2.he with ⟨_, z⟩ | ⟨_, _, z⟩; exact .inr z; exact .inl (by have := at_lt z; omega)
      have heb4 : eb2 ≠ H2.length := by rcases heb3 with z | z; exact z; (rw [z] at hl3; simp at hl3)
      have hwbl := h2.len
      conv => enter [1]; whnf
      rw [hl3]
      generalize (H2.set wr ⟨[], false⟩ ++ [(⟨dropN 0 (evsV E) ++ [.int .i64 3, .int .u16 q, .int .u16 a.v, .int .u16 a.v, .int .u16 2, .int .u16 3, .int .u16 a.n], true⟩ : Blk)]) = H3 at *
      refine Ends.call (wused_F mk K lo (by omega) h3) ?_
      conv => enter [1]; whnf
      have hmin : (if (0 : Int) < ((at0 : Nat) : Int) then (0 : Int) else ((at0 : Nat) : Int)) = ((min (at0) R.length : Nat) : Int) := by rw [hR0]; simp
      refine Ends.iteF (by rw [hmin]; simp) ?_
      conv => enter [1]; whnf
      refine hL _ ⟨j + 1, at0, E3, lv2, eb2, H2.length, H3, _, by omega, by omega, by omega, by omega, h3, hwr3, hG3, by omega, by omega, by omega, hw33, ?_, rfl⟩
      have e3 : IntKind.i64.wrap ((j : Int) + 1) = ((j + 1 : Nat) : Int) := by rw [w64]; omega
      rw [e3]
      rfl
    have d1 : (q == 32) = false := beq_eq_false_iff_ne.2 c1
    by_cases c2 : q = 33
    · have d2 : (q == 33) = true := beq_iff_eq.2 c2
      by_cases c3 : a.v / 256 = 76
      · have d3 : (a.v / 256 == 76) = true := beq_iff_eq.2 c3
        have hin := wint_F mk K lo (by omega) h (by omega) (by omega) (by omega) at0 rfl (by omega) q a.v 2 3 a.n hq8 u2 true (by rw [d1, d2, d3]; rfl)
        simp only [if_true, Bool.false_eq_true, if_false] at hin
        refine Ends.callE (hin) (fun v2 H2 hv => ?_)
        obtain ⟨hv, lv2, eb2, h2, k2, he2⟩ := hv
        replace hv : v2 = .tup [.int .u16 a.v, .bool true] := hv
        subst hv
        replace k2 : KeepW H' H2 wb eb := k2
        replace he2 : H'.length ≤ eb2 := he2
        replace h2 : HasW H2 wb R rv (min at0 R.length) (E ++ [⟨3, q, a.v, a.v, 2, 3, a.n⟩]) lv2 eb2 := h2
        conv => enter [1]; whnf
        rw [d1]
        conv => enter [1]; whnf
        rw [d2]
        conv => enter [1]; whnf
        refine Ends.forceN ?_
        conv => enter [1]; whnf
        refine Ends.opt (loc_set _ _ _ _) ?_
        conv => enter [1]; whnf
        rw [ev, d3]
        conv => enter [1]; whnf
        refine Ends.forceN ?_
        conv => enter [1]; whnf
        refine Ends.opt (loc_set _ _ _ _) ?_
        conv => enter [1]; whnf
        first
          | (refine Ends.iteF (by first | (simp []; done) | fail "open") ?_; conv => enter [1]; whnf)
          | (refine Ends.iteT (by first | (simp []; done) | fail "open") ?_; conv => enter [1]; whnf)
          | skip
        rw [eq16]
        refine Ends.forceN ?_
        conv => enter [1]; whnf
        refine Ends.opt (loc_set _ _ _ _) ?_
        conv => enter [1]; whnf
        refine Ends.forceN ?_
        conv => enter [1]; whnf
        refine Ends.opt (loc_set _ _ _ _) ?_
        conv => enter [1]; whnf
        have hwr2 : H2[wr]? = some ⟨evsV E, true⟩ := k2.2 wr _ hwr hw1 hw2
        have L2 := k2.1
        have hwl := at_lt hwr
        have hwl2 := at_lt hwr2
        refine Ends.forceN ?_
        conv => enter [1]; whnf
        refine Ends.forceLs ?_
        conv => enter [1]; whnf
        refine Ends.opt (sc_lo7 _ _ _ 1 rfl) ?_
        conv => enter [1]; whnf
        refine Ends.iteT (may_hp (by omega)) ?_
        conv => enter [1]; whnf
        refine Ends.iteT (decide_eq_true (by omega)) ?_
        conv => enter [1]; whnf
        refine Ends.opt (get_at hwr2 _) ?_
        conv => enter [1]; whnf
        refine Ends.iteT (decide_eq_true (by rw [evsV_len]; omega)) ?_
        conv => enter [1]; whnf
        refine Ends.force ?_
        obtain ⟨E3, hE3⟩ : ∃ E3, E3 = E ++ [⟨3, q, a.v, a.v, 2, 3, a.n⟩] := ⟨_, rfl⟩
        rw [← hE3] at h2
        have hl3 : E.length + 1 = E3.length := by rw [hE3, List.length_append]; rfl
        have h3 : HasW (H2.set wr ⟨[], false⟩ ++ [(⟨dropN 0 (evsV E) ++ [.int .i64 3, .int .u16 q, .int .u16 a.v, .int .u16 a.v, .int .u16 2, .int .u16 3, .int .u16 a.n], true⟩ : Blk)]) wb R rv (min at0 R.length) E3 lv2 eb2 := h2.ap _ _ hw1 (by omega) hw3
        have hwr3 : (H2.set wr ⟨[], false⟩ ++ [(⟨dropN 0 (evsV E) ++ [.int .i64 3, .int .u16 q, .int .u16 a.v, .int .u16 a.v, .int .u16 2, .int .u16 3, .int .u16 a.n], true⟩ : Blk)])[H2.length]? = some ⟨evsV E3, true⟩ := by rw [snoc_top (by simp), hE3, evsV_append, drop0]; rfl
        have hG3 : Grown H (H2.set wr ⟨[], false⟩ ++ [(⟨dropN 0 (evsV E) ++ [.int .i64 3, .int .u16 q, .int .u16 a.v, .int .u16 a.v, .int .u16 2, .int .u16 3, .int .u16 a.n], true⟩ : Blk)]) := ((grown_keep hG k2 hwb heb).set (by omega) _).trans (Grown.one _ _)
        have hw33 : ∀ b, rv = .sl (.hp b) 0 R.length 1 → b ≠ H2.length := fun b e => by have := h2.rb_lt b e; omega
        have heb3 : eb2 ≠ H2.length ∨ E3 = [] := by rcases h2.he with ⟨_, z⟩ | ⟨_, _, z⟩; exact .inr z; exact .inl (by have := at_lt z; omega)
        have heb4 : eb2 ≠ H2.length := by rcases heb3 with z | z; exact z; (rw [z] at hl3; simp at hl3)
        have hwbl := h2.len
        conv => enter [1]; whnf
        rw [hl3]
        generalize (H2.set wr ⟨[], false⟩ ++ [(⟨dropN 0 (evsV E) ++ [.int .i64 3, .int .u16 q, .int .u16 a.v, .int .u16 a.v, .int .u16 2, .int .u16 3, .int .u16 a.n], true⟩ : Blk)]) = H3 at *
        refine Ends.call (wused_F mk K lo (by omega) h3) ?_
        conv => enter [1]; whnf
        have hmin : (if (0 : Int) < ((at0 : Nat) : Int) then (0 : Int) else ((at0 : Nat) : Int)) = ((min (at0) R.length : Nat) : Int) := by rw [hR0]; simp
        refine Ends.iteF (by rw [hmin]; simp) ?_
        conv => enter [1]; whnf
        refine hL _ ⟨j + 1, at0, E3, lv2, eb2, H2.length, H3, _, by omega, by omega, by omega, by omega, h3, hwr3, hG3, by omega, by omega, by omega, hw33, ?_, rfl⟩
        have e3 : IntKind.i64.wrap ((j : Int) + 1) = ((j + 1 : Nat) : Int) := by rw [w64]; omega
        rw [e3]
        rfl
      · have d3 : (a.v / 256 == 76) = false := beq_eq_false_iff_ne.2 c3
        have hin := wint_F mk K lo (by omega) h (by omega) (by omega) (by omega) at0 rfl (by omega) q a.v 2 3 a.n hq8 u2 false (by rw [d1, d2, d3]; rfl)
        simp only [if_true, Bool.false_eq_true, if_false] at hin
        rw [← hy] at hin
        refine Ends.callE (hin) (fun v2 H2 hv => ?_)
        obtain ⟨hv, lv2, eb2, h2, k2, he2⟩ := hv
        replace hv : v2 = .tup [.int .u16 0, .bool false] := hv
        subst hv
        replace k2 : KeepW H' H2 wb eb := k2
        replace he2 : H'.length ≤ eb2 := he2
        replace h2 : HasW H2 wb R rv (min (at0 + 1) R.length) (E ++ [⟨3, q, 0, a.v, 2, 3, a.n⟩]) lv2 eb2 := h2
        conv => enter [1]; whnf
        rw [d1]
        conv => enter [1]; whnf
        rw [d2]
        conv => enter [1]; whnf
        refine Ends.forceN ?_
        conv => enter [1]; whnf
        refine Ends.opt (loc_set _ _ _ _) ?_
        conv => enter [1]; whnf
        rw [ev, d3]
        conv => enter [1]; whnf
        first
          | (refine Ends.iteF (by first | (simp []; done) | fail "open") ?_; conv => enter [1]; whnf)
          | (refine Ends.iteT (by first | (simp []; done) | fail "open") ?_; conv => enter [1]; whnf)
          | skip
        rw [eat]
        rw [eq16]
        refine Ends.forceN ?_
        conv => enter [1]; whnf
        refine Ends.opt (loc_set _ _ _ _) ?_
        conv => enter [1]; whnf
        refine Ends.forceN ?_
        conv => enter [1]; whnf
        refine Ends.opt (loc_set _ _ _ _) ?_
        conv => enter [1]; whnf
        have hwr2 : H2[wr]? = some ⟨evsV E, true⟩ := k2.2 wr _ hwr hw1 hw2
        have L2 := k2.1
        have hwl := at_lt hwr
        have hwl2 := at_lt hwr2
        refine Ends.forceN ?_
        conv => enter [1]; whnf
        refine Ends.forceLs ?_
        conv => enter [1]; whnf
        refine Ends.opt (sc_lo7 _ _ _ 1 rfl) ?_
        conv => enter [1]; whnf
        refine Ends.iteT (may_hp (by omega)) ?_
        conv => enter [1]; whnf
        refine Ends.iteT (decide_eq_true (by omega)) ?_
        conv => enter [1]; whnf
        refine Ends.opt (get_at hwr2 _) ?_
        conv => enter [1]; whnf
        refine Ends.iteT (decide_eq_true (by rw [evsV_len]; omega)) ?_
        conv => enter [1]; whnf
        refine Ends.force ?_
        obtain ⟨E3, hE3⟩ : ∃ E3, E3 = E ++ [⟨3, q, 0, a.v, 2, 3, a.n⟩] := ⟨_, rfl⟩
        rw [← hE3] at h2
        have hl3 : E.length + 1 = E3.length := by rw [hE3, List.length_append]; rfl
        have h3 : HasW (H2.set wr ⟨[], false⟩ ++ [(⟨dropN 0 (evsV E) ++ [.int .i64 3, .int .u16 q, .int .u16 0, .int .u16 a.v, .int .u16 2, .int .u16 3, .int .u16 a.n], true⟩ : Blk)]) wb R rv (min (at0 + 1) R.length) E3 lv2 eb2 := h2.ap _ _ hw1 (by omega) hw3
        have hwr3 : (H2.set wr ⟨[], false⟩ ++ [(⟨dropN 0 (evsV E) ++ [.int .i64 3, .int .u16 q, .int .u16 0, .int .u16 a.v, .int .u16 2, .int .u16 3, .int .u16 a.n], true⟩ : Blk)])[H2.length]? = some ⟨evsV E3, true⟩ := by rw [snoc_top (by simp), hE3, evsV_append, drop0]; rfl
        have hG3 : Grown H (H2.set wr ⟨[], false⟩ ++ [(⟨dropN 0 (evsV E) ++ [.int .i64 3, .int .u16 q, .int .u16 0, .int .u16 a.v, .int .u16 2, .int .u16 3, .int .u16 a.n], true⟩ : Blk)]) := ((grown_keep hG k2 hwb heb).set (by omega) _).trans (Grown.one _ _)
        have hw33 : ∀ b, rv = .sl (.hp b) 0 R.length 1 → b ≠ H2.length := fun b e => by have := h2.rb_lt b e; omega
        have heb3 : eb2 ≠ H2.length ∨ E3 = [] := by rcases h2.he with ⟨_, z⟩ | ⟨_, _, z⟩; exact .inr z; exact .inl (by have := at_lt z; omega)
        have heb4 : eb2 ≠ H2.length := by rcases heb3 with z | z; exact z; (rw [z] at hl3; simp at hl3)
        have hwbl := h2.len
        conv => enter [1]; whnf
        rw [hl3]
        generalize (H2.set wr ⟨[], false⟩ ++ [(⟨dropN 0 (evsV E) ++ [.int .i64 3, .int .u16 q, .int .u16 0, .int .u16 a.v, .int .u16 2, .int .u16 3, .int .u16 a.n], true⟩ : Blk)]) = H3 at *
        refine Ends.call (wused_F mk K lo (by omega) h3) ?_
        conv => enter [1]; whnf
        have hmin : (if (0 : Int) < (((at0 + 1) : Nat) : Int) then (0 : Int) else (((at0 + 1) : Nat) : Int)) = ((min ((at0 + 1)) R.length : Nat) : Int) := by rw [hR0]; simp
        refine Ends.iteF (by rw [hmin]; simp) ?_
        conv => enter [1]; whnf
        refine hL _ ⟨j + 1, (at0 + 1), E3, lv2, eb2, H2.length, H3, _, by omega, by omega, by omega, by omega, h3, hwr3, hG3, by omega, by omega, by omega, hw33, ?_, rfl⟩
        have e3 : IntKind.i64.wrap ((j : Int) + 1) = ((j + 1 : Nat) : Int) := by rw [w64]; omega
        rw [e3]
        rfl
    · have d2 : (q == 33) = false := beq_eq_false_iff_ne.2 c2
      have hin := wint_F mk K lo (by omega) h (by omega) (by omega) (by omega) at0 rfl (by omega) q a.v 2 3 a.n hq8 u2 false (by rw [d1, d2]; rfl)
      simp only [if_true, Bool.false_eq_true, if_false] at hin
      rw [← hy] at hin
      refine Ends.callE (hin) (fun v2 H2 hv => ?_)
      obtain ⟨hv, lv2, eb2, h2, k2, he2⟩ := hv
      replace hv : v2 = .tup [.int .u16 0, .bool false] := hv
      subst hv
      replace k2 : KeepW H' H2 wb eb := k2
      replace he2 : H'.length ≤ eb2 := he2
      replace h2 : HasW H2 wb R rv (min (at0 + 1) R.length) (E ++ [⟨3, q, 0, a.v, 2, 3, a.n⟩]) lv2 eb2 := h2
      conv => enter [1]; whnf
      rw [d1]
      conv => enter [1]; whnf
      rw [d2]
      conv => enter [1]; whnf
      first
        | (refine Ends.iteF (by first | (simp []; done) | fail "open") ?_; conv => enter [1]; whnf)
        | (refine Ends.iteT (by first | (simp []; done) | fail "open") ?_; conv => enter [1]; whnf)
        | skip
      rw [eat]
      rw [eq16]
      refine Ends.forceN ?_
      conv => enter [1]; whnf
      refine Ends.opt (loc_set _ _ _ _) ?_
      conv => enter [1]; whnf
      refine Ends.forceN ?_
      conv => enter [1]; whnf
      refine Ends.opt (loc_set _ _ _ _) ?_
      conv => enter [1]; whnf
      have hwr2 : H2[wr]? = some ⟨evsV E, true⟩ := k2.2 wr _ hwr hw1 hw2
      have L2 := k2.1
      have hwl := at_lt hwr
      have hwl2 := at_lt hwr2
      refine Ends.forceN ?_
      conv => enter [1]; whnf
      refine Ends.forceLs ?_
      conv => enter [1]; whnf
      refine Ends.opt (sc_lo7 _ _ _ 1 rfl) ?_
      conv => enter [1]; whnf
      refine Ends.iteT (may_hp (by omega)) ?_
      conv => enter [1]; whnf
      refine Ends.iteT (decide_eq_true (by omega)) ?_
      conv => enter [1]; whnf
      refine Ends.opt (get_at hwr2 _) ?_
      conv => enter [1]; whnf
      refine Ends.iteT (decide_eq_true (by rw [evsV_len]; omega)) ?_
      conv => enter [1]; whnf
      refine Ends.force ?_
      obtain ⟨E3, hE3⟩ : ∃ E3, E3 = E ++ [⟨3, q, 0, a.v, 2, 3, a.n⟩] := ⟨_, rfl⟩
      rw [← hE3] at h2
      have hl3 : E.length + 1 = E3.length := by rw [hE3, List.length_append]; rfl
      have h3 : HasW (H2.set wr ⟨[], false⟩ ++ [(⟨dropN 0 (evsV E) ++ [.int .i64 3, .int .u16 q, .int .u16 0, .int .u16 a.v, .int .u16 2, .int .u16 3, .int .u16 a.n], true⟩ : Blk)]) wb R rv (min (at0 + 1) R.length) E3 lv2 eb2 := h2.ap _ _ hw1 (by omega) hw3
      have hwr3 : (H2.set wr ⟨[], false⟩ ++ [(⟨dropN 0 (evsV E) ++ [.int .i64 3, .int .u16 q, .int .u16 0, .int .u16 a.v, .int .u16 2, .int .u16 3, .int .u16 a.n], true⟩ : Blk)])[H2.length]? = some ⟨evsV E3, true⟩ := by rw [snoc_top (by simp), hE3, evsV_append, drop0]; rfl
      have hG3 : Grown H (H2.set wr ⟨[], false⟩ ++ [(⟨dropN 0 (evsV E) ++ [.int .i64 3, .int .u16 q, .int .u16 0, .int .u16 a.v, .int .u16 2, .int .u16 3, .int .u16 a.n], true⟩ : Blk)]) := ((grown_keep hG k2 hwb heb).set (by omega) _).trans (Grown.one _ _)
      have hw33 : ∀ b, rv = .sl (.hp b) 0 R.length 1 → b ≠ H2.length := fun b e => by have := h2.rb_lt b e; omega
      have heb3 : eb2 ≠ H2.length ∨ E3 = [] := by rcases h2.he with ⟨_, z⟩ | ⟨_, _, z⟩; exact .inr z; exact .inl (by have := at_lt z; omega)
      have heb4 : eb2 ≠ H2.length := by rcases heb3 with z | z; exact z; (rw [z] at hl3; simp at hl3)
      have hwbl := h2.len
      conv => enter [1]; whnf
      rw [hl3]
      generalize (H2.set wr ⟨[], false⟩ ++ [(⟨dropN 0 (evsV E) ++ [.int .i64 3, .int .u16 q, .int .u16 0, .int .u16 a.v, .int .u16 2, .int .u16 3, .int .u16 a.n], true⟩ : Blk)]) = H3 at *
      refine Ends.call (wused_F mk K lo (by omega) h3) ?_
      conv => enter [1]; whnf
      have hmin : (if (0 : Int) < (((at0 + 1) : Nat) : Int) then (0 : Int) else (((at0 + 1) : Nat) : Int)) = ((min ((at0 + 1)) R.length : Nat) : Int) := by rw [hR0]; simp
      refine Ends.iteF (by rw [hmin]; simp) ?_
      conv => enter [1]; whnf
      refine hL _ ⟨j + 1, (at0 + 1), E3, lv2, eb2, H2.length, H3, _, by omega, by omega, by omega, by omega, h3, hwr3, hG3, by omega, by omega, by omega, hw33, ?_, rfl⟩
      have e3 : IntKind.i64.wrap ((j : Int) + 1) = ((j + 1 : Nat) : Int) := by rw [w64]; omega
      rw [e3]
      rfl
  have q3 : ((a.w % 8) == 3) = false := beq_eq_false_iff_ne.2 k3'
  rw [q3]
  conv => enter [1]; whnf
  refine Ends.callE (wstop_F mk K lo (by omega) h (by omega) (by omega) (by omega) 4) (fun v2 H2 hv => ?_)
  obtain ⟨hv, lv2, eb2, h2, k2, he2⟩ := hv
  replace hv : v2 = .tup [] := hv
  subst hv
  replace k2 : KeepW H' H2 wb eb := k2
  replace he2 : H'.length ≤ eb2 := he2
  replace h2 : HasW H2 wb R rv (min at0 R.length) (E ++ [ev3 4 0 0]) lv2 eb2 := h2
  conv => enter [1]; whnf
  have hwr2 : H2[wr]? = some ⟨evsV E, true⟩ := k2.2 wr _ hwr hw1 hw2
  have L2 := k2.1
  have hwl := at_lt hwr
  have hwl2 := at_lt hwr2
  refine Ends.forceN ?_
  conv => enter [1]; whnf
  refine Ends.forceLs ?_
  conv => enter [1]; whnf
  refine Ends.opt (sc_lo7 _ _ _ 1 rfl) ?_
  conv => enter [1]; whnf
  refine Ends.iteT (may_hp (by omega)) ?_
  conv => enter [1]; whnf
  refine Ends.iteT (decide_eq_true (by omega)) ?_
  conv => enter [1]; whnf
  refine Ends.opt (get_at hwr2 _) ?_
  conv => enter [1]; whnf
  refine Ends.iteT (decide_eq_true (by rw [evsV_len]; omega)) ?_
  conv => enter [1]; whnf
  refine Ends.force ?_
  obtain ⟨E3, hE3⟩ : ∃ E3, E3 = E ++ [ev3 4 0 0] := ⟨_, rfl⟩
  rw [← hE3] at h2
  have hl3 : E.length + 1 = E3.length := by rw [hE3, List.length_append]; rfl
  have h3 : HasW (H2.set wr ⟨[], false⟩ ++ [(⟨dropN 0 (evsV E) ++ [.int .i64 4, .int .u16 0, .int .u16 0, .int .u16 0, .int .u16 0, .int .u16 0, .int .u16 0], true⟩ : Blk)]) wb R rv (min at0 R.length) E3 lv2 eb2 := h2.ap _ _ hw1 (by omega) hw3
  have hwr3 : (H2.set wr ⟨[], false⟩ ++ [(⟨dropN 0 (evsV E) ++ [.int .i64 4, .int .u16 0, .int .u16 0, .int .u16 0, .int .u16 0, .int .u16 0, .int .u16 0], true⟩ : Blk)])[H2.length]? = some ⟨evsV E3, true⟩ := by rw [snoc_top (by simp), hE3, evsV_append, drop0]; rfl
  have hG3 : Grown H (H2.set wr ⟨[], false⟩ ++ [(⟨dropN 0 (evsV E) ++ [.int .i64 4, .int .u16 0, .int .u16 0, .int .u16 0, .int .u16 0, .int .u16 0, .int .u16 0], true⟩ : Blk)]) := ((grown_keep hG k2 hwb heb).set (by omega) _).trans (Grown.one _ _)
  have hw33 : ∀ b, rv = .sl (.hp b) 0 R.length 1 → b ≠ H2.length := fun b e => by have := h2.rb_lt b e; omega
  have heb3 : eb2 ≠ H2.length ∨ E3 = [] := by rcases h2.he with ⟨_, z⟩ | ⟨_, _, z⟩; exact .inr z; exact .inl (by have := at_lt z; omega)
  have heb4 : eb2 ≠ H2.length := by rcases heb3 with z | z; exact z; (rw [z] at hl3; simp at hl3)
  have hwbl := h2.len
  conv => enter [1]; whnf
  rw [hl3]
  generalize (H2.set wr ⟨[], false⟩ ++ [(⟨dropN 0 (evsV E) ++ [.int .i64 4, .int .u16 0, .int .u16 0, .int .u16 0, .int .u16 0, .int .u16 0, .int .u16 0], true⟩ : Blk)]) = H3 at *
  refine Ends.call (wused_F mk K lo (by omega) h3) ?_
  conv => enter [1]; whnf
  have hmin : (if (0 : Int) < ((at0 : Nat) : Int) then (0 : Int) else ((at0 : Nat) : Int)) = ((min (at0) R.length : Nat) : Int) := by rw [hR0]; simp
  refine Ends.iteF (by rw [hmin]; simp) ?_
  conv => enter [1]; whnf
  refine hL _ ⟨j + 1, at0, E3, lv2, eb2, H2.length, H3, _, by omega, by omega, by omega, by omega, h3, hwr3, hG3, by omega, by omega, by omega, hw33, ?_, rfl⟩
  have e3 : IntKind.i64.wrap ((j : Int) + 1) = ((j + 1 : Nat) : Int) := by rw [w64]; omega
  rw [e3]
  rfl
end Go.Proofs.Ytfllmggfbfjheaa.VM
