/- A world by the plain machine: lists that are told again, and a new world. -/
import Derived.Test.YtfllmggfbfjheaaWQ
namespace Go.Proofs.Ytfllmggfbfjheaa.VM
open Go Go.RowKit
set_option linter.unusedVariables false
set_option linter.unusedSimpArgs false
set_option maxRecDepth 40000
set_option maxHeartbeats 1600000
theorem uV_len1 (l : List Int) : (uV l).length = l.length * 1 := by rw [uV_len, Nat.mul_one]
theorem cloneU_F (mk : Mk) (k lo : Nat) (hk : 1 ≤ k) (R : List Int) (b : Nat) (hR : R.length * 2 ≤ 140737488351232) (H : List Blk) (hlo : lo ≤ H.length) (hb : H[b]? = some ⟨uV R, true⟩) :
    Ends (FF mk k lo 33 [.sl (.hp b) 0 R.length 1] H) fun r => r.1 = .sl (.hp (H.length + 1)) 0 R.length 1 ∧ Grown H r.2 ∧ r.2.length = H.length + 2 ∧ r.2[H.length + 1]? = some ⟨uV R, true⟩ := by
  obtain ⟨k, rfl⟩ : ∃ m, k = m + 1 := ⟨k - 1, by omega⟩
  have hsc : ∀ loc, sliceCells ⟨loc, H ++ [⟨[], true⟩]⟩ 1 (.sl (.hp b) 0 R.length 1) = some (uV R) := by
    intro loc
    show (Mem.get ⟨loc, H ++ [⟨[], true⟩]⟩ (.hp b)).bind (part? 0 (R.length * 1)) = _
    rw [get_at ((Grown.one H _).at hb)]
    have := part_mid [] (uV R) [] (off := 0) (n := R.length * 1) rfl (by rw [uV_len1])
    simpa using this
  conv => enter [1]; whnf
  refine Ends.opt (hsc _) ?_
  conv => enter [1]; whnf
  refine Ends.iteT (decide_eq_true (by rw [uV_len1])) ?_
  conv => enter [1]; whnf
  refine Ends.iteT (uV_shared R) ?_
  conv => enter [1]; whnf
  refine Ends.iteT (may_hp hlo) ?_
  conv => enter [1]; whnf
  refine Ends.iteT (decide_eq_true (by omega)) ?_
  conv => enter [1]; whnf
  refine Ends.opt (get_at (snoc_top rfl) _) ?_
  conv => enter [1]; whnf
  refine Ends.force ?_
  conv => enter [1]; whnf
  refine Ends.some' ⟨?_, ((Grown.one _ _).set (Nat.le_refl _) _).trans (Grown.one _ _), by simp, ?_⟩
  · simp
  · rw [snoc_top (by simp)]; rfl
theorem cloneE_F (mk : Mk) (k lo : Nat) (hk : 1 ≤ k) (R : List Ev) (b : Nat) (hR : R.length < 2000000) (H : List Blk) (hlo : lo ≤ H.length) (hb : H[b]? = some ⟨evsV R, true⟩) :
    Ends (FF mk k lo 39 [.sl (.hp b) 0 R.length 7] H) fun r => r.1 = .sl (.hp (H.length + 1)) 0 R.length 7 ∧ Grown H r.2 ∧ r.2.length = H.length + 2 ∧ r.2[H.length + 1]? = some ⟨evsV R, true⟩ := by
  obtain ⟨k, rfl⟩ : ∃ m, k = m + 1 := ⟨k - 1, by omega⟩
  have hsc : ∀ loc, sliceCells ⟨loc, H ++ [⟨[], true⟩]⟩ 7 (.sl (.hp b) 0 R.length 7) = some (evsV R) := by
    intro loc
    show (Mem.get ⟨loc, H ++ [⟨[], true⟩]⟩ (.hp b)).bind (part? 0 (R.length * 7)) = _
    rw [get_at ((Grown.one H _).at hb)]
    have := part_mid [] (evsV R) [] (off := 0) (n := R.length * 7) rfl (by rw [evsV_len])
    simpa using this
  conv => enter [1]; whnf
  refine Ends.opt (hsc _) ?_
  conv => enter [1]; whnf
  refine Ends.iteT (decide_eq_true (by rw [evsV_len])) ?_
  conv => enter [1]; whnf
  refine Ends.iteT (evs_shared R) ?_
  conv => enter [1]; whnf
  refine Ends.iteT (may_hp hlo) ?_
  conv => enter [1]; whnf
  refine Ends.iteT (decide_eq_true (by omega)) ?_
  conv => enter [1]; whnf
  refine Ends.opt (get_at (snoc_top rfl) _) ?_
  conv => enter [1]; whnf
  refine Ends.force ?_
  conv => enter [1]; whnf
  refine Ends.some' ⟨?_, ((Grown.one _ _).set (Nat.le_refl _) _).trans (Grown.one _ _), by simp, ?_⟩
  · simp
  · rw [snoc_top (by simp)]; rfl
theorem cloneU_N (mk : Mk) (k lo : Nat) (hk : 1 ≤ k) (H : List Blk) : FF mk k lo 33 [.nils] H = some (.nils, H) := by
  obtain ⟨k, rfl⟩ : ∃ m, k = m + 1 := ⟨k - 1, by omega⟩
  kernel_rfl
theorem cloneE_N (mk : Mk) (k lo : Nat) (hk : 1 ≤ k) (H : List Blk) : FF mk k lo 39 [.nils] H = some (.nils, H) := by
  obtain ⟨k, rfl⟩ : ∃ m, k = m + 1 := ⟨k - 1, by omega⟩
  kernel_rfl
/-- What a world is made of. -/
def NewW (H : List Blk) (R : List Int) (r : Val × List Blk) : Prop := ∃ wb rv, r.1 = .ptr (.hp wb) 0 ∧ HasW r.2 wb R rv 0 [] .nils wb ∧ Grown H r.2 ∧ H.length ≤ wb ∧ wb < r.2.length
theorem wnew_F (mk : Mk) (k lo : Nat) (hk : 2 ≤ k) (R : List Int) (b : Nat) (hR : R.length * 2 ≤ 140737488351232) (H : List Blk) (hlo : lo ≤ H.length) (hb : H[b]? = some ⟨uV R, true⟩) :
    Ends (FF mk k lo 20 [.sl (.hp b) 0 R.length 1] H) (NewW H R) := by
  obtain ⟨k, rfl⟩ : ∃ m, k = m + 1 := ⟨k - 1, by omega⟩
  conv => enter [1]; whnf
  refine Ends.callE (cloneU_F mk k lo (by omega) R b hR H hlo hb) (fun v H1 hv => ?_)
  obtain ⟨hv, g1, l1, h1⟩ := hv
  replace hv : v = .sl (.hp (H.length + 1)) 0 R.length 1 := hv
  subst hv
  replace g1 : Grown H H1 := g1
  replace l1 : H1.length = H.length + 2 := l1
  replace h1 : H1[H.length + 1]? = some ⟨uV R, true⟩ := h1
  conv => enter [1]; whnf
  refine Ends.some' ⟨H1.length, .sl (.hp (H.length + 1)) 0 R.length 1, rfl, ⟨by rw [snoc_top rfl]; rfl, .inr ⟨H.length + 1, rfl, by omega, by omega, (Grown.one _ _).at h1⟩, .inl ⟨rfl, rfl⟩, Nat.zero_le _⟩, g1.trans (Grown.one _ _), by omega, by rw [List.length_append]; simp⟩
theorem wnew_N (mk : Mk) (k lo : Nat) (hk : 2 ≤ k) (H : List Blk) : Ends (FF mk k lo 20 [.nils] H) (NewW H []) := by
  obtain ⟨k, rfl⟩ : ∃ m, k = m + 1 := ⟨k - 1, by omega⟩
  conv => enter [1]; whnf
  refine Ends.call (cloneU_N mk k lo (by omega) H) ?_
  conv => enter [1]; whnf
  refine Ends.some' ⟨H.length, .nils, rfl, ⟨by rw [snoc_top rfl]; rfl, .inl ⟨rfl, rfl⟩, .inl ⟨rfl, rfl⟩, Nat.zero_le _⟩, Grown.one _ _, Nat.le_refl _, by rw [List.length_append]; simp⟩
/-- All that happened, told again. -/
def Told (H : List Blk) (E : List Ev) (r : Val × List Blk) : Prop := Grown H r.2 ∧ ((E = [] ∧ r.1 = .nils) ∨ ∃ b, r.1 = .sl (.hp b) 0 E.length 7 ∧ r.2[b]? = some ⟨evsV E, true⟩)
theorem wevents_F (mk : Mk) (k lo : Nat) (hk : 3 ≤ k) {H : List Blk} {wb : Nat} {R : List Int} {rv : Val} {n : Nat} {E : List Ev} {lv : Val} {eb : Nat} (h : HasW H wb R rv n E lv eb) (hlo : lo ≤ H.length) (hE : E.length < 1000) :
    Ends (FF mk k lo 28 [.ptr (.hp wb) 0] H) (Told H E) := by
  obtain ⟨k, rfl⟩ : ∃ m, k = m + 1 := ⟨k - 1, by omega⟩
  have hw := h.hw
  rcases h.he with ⟨hlv, hE0⟩ | ⟨hlv, he2, he3⟩ <;> subst hlv
  · conv => enter [1]; whnf
    refine Ends.opt (get_at hw _) ?_
    conv => enter [1]; whnf
    refine Ends.call (cloneE_N mk k lo (by omega) H) ?_
    conv => enter [1]; whnf
    exact Ends.some' ⟨Grown.refl _, .inl ⟨hE0, rfl⟩⟩
  · conv => enter [1]; whnf
    refine Ends.opt (get_at hw _) ?_
    conv => enter [1]; whnf
    refine Ends.callE (cloneE_F mk k lo (by omega) E eb (by omega) H hlo he3) (fun v H1 hv => ?_)
    obtain ⟨hv, g1, l1, h1⟩ := hv
    replace hv : v = .sl (.hp (H.length + 1)) 0 E.length 7 := hv
    subst hv
    conv => enter [1]; whnf
    exact Ends.some' ⟨g1, .inr ⟨_, rfl, h1⟩⟩
theorem wsame_T (mk : Mk) (k lo : Nat) (E : List Ev) (hk : E.length + 4 ≤ k) (hE : E.length < 1000) (H : List Blk) (v : Val) (q : Nat) (hv : (E = [] ∧ v = .nils) ∨ ∃ b, v = .sl (.hp b) 0 E.length 7 ∧ H[b]? = some ⟨evsV E, true⟩) (hq : H[q]? = some ⟨evsV E, true⟩) :
    FF mk k lo 27 [v, .sl (.hp q) 0 E.length 7] H = some (.bool true, H) := by
  rcases hv with ⟨rfl, rfl⟩ | ⟨b, rfl, hb⟩
  · obtain ⟨k, rfl⟩ : ∃ m, k = m + 4 := ⟨k - 4, by simp at hk; omega⟩
    kernel_rfl
  · obtain ⟨⟨v, H'⟩, e, hH, z, hz, hs⟩ := same_F mk k lo E E [] [] b q hk hE hE H (fun loc => by rw [List.append_nil]; exact get_at hb loc) (fun loc => by rw [List.append_nil]; exact get_at hq loc)
    rw [e]
    replace hH : H' = H := hH
    replace hz : v = .bool z := hz
    rw [hH, hz, hs.2 rfl]
theorem wapart_T (mk : Mk) (k lo : Nat) (E : List Ev) (hk : E.length + E.length + 4 ≤ k) (hE : E.length < 1000) (H : List Blk) (v : Val) (q : Nat) (hv : (E = [] ∧ v = .nils) ∨ ∃ b, v = .sl (.hp b) 0 E.length 7 ∧ H[b]? = some ⟨evsV E, true⟩) (hq : H[q]? = some ⟨evsV E, true⟩) :
    FF mk k lo 29 [v, .sl (.hp q) 0 E.length 7] H = some (.int .i64 (-1), H) := by
  rcases hv with ⟨rfl, rfl⟩ | ⟨b, rfl, hb⟩
  · obtain ⟨k, rfl⟩ : ∃ m, k = m + 4 := ⟨k - 4, by simp at hk; omega⟩
    kernel_rfl
  · obtain ⟨⟨v, H'⟩, e, hH, z, hz, hs⟩ := apart_F mk k lo E E [] [] b q (by omega) hE hE H (fun loc => by rw [List.append_nil]; exact get_at hb loc) (fun loc => by rw [List.append_nil]; exact get_at hq loc)
    rw [e]
    replace hH : H' = H := hH
    replace hz : v = .int .i64 z := hz
    have hz1 : z = -1 := by
      rcases hs with ⟨rfl, _⟩ | ⟨j, rfl, _, hne⟩
      · rfl
      · exact absurd rfl hne
    rw [hH, hz, hz1]
end Go.Proofs.Ytfllmggfbfjheaa.VM
