/- What segment registers have, by the plain machine. -/
import Derived.Test.YtbkniomfegbdaaaCA
namespace Go.Proofs.Ytbkniomfegbdaaa.VM
open Go Go.RowKit
set_option linter.unusedVariables false
set_option linter.unusedSimpArgs false
set_option maxRecDepth 40000
set_option maxHeartbeats 1600000
theorem aggInt : aggB Try.prog 3 = some false := by kernel_rfl
theorem sizeInt : sizeB Try.prog 3 = some 1 := by kernel_rfl
theorem partInt {cs : List Val} {off : Nat} {v : Val} (h : getAt off cs = some v) : partV Try.prog 3 cs off = some v := partOne aggInt sizeInt h
/-- Where a number first is; -1: nowhere. -/
def idxZ (y : List Int) (w : Int) (z : Int) : Prop := (z = -1 ∧ ∀ i, ∀ h : i < y.length, y[i] ≠ w) ∨ ∃ i, ∃ h : i < y.length, z = (i : Int) ∧ y[i] = w
theorem sidx_F (mk : Mk) (k lo : Nat) (y : List Int) (w : Int) (b : Nat) (hk : y.length + 3 ≤ k) (hl : y.length < 1000000) (H : List Blk) (post : List Val) (hb : H[b]? = some ⟨iV y ++ post, true⟩) :
    Ends (FF mk k lo 22 [.sl (.hp b) 0 y.length 1, .int .i64 w] H) fun r => r.2 = H ∧ ∃ z, r.1 = .int .i64 z ∧ idxZ y w z := by
  obtain ⟨k, rfl⟩ : ∃ m, k = m + 1 := ⟨k - 1, by omega⟩
  conv => enter [1]; whnf
  refine Ends.loop (fun m T M => ∃ j : Nat, j ≤ y.length ∧ y.length - j < m ∧ (∀ i, ∀ h : i < y.length, i < j → y[i] ≠ w) ∧ T = [.sl (.hp b) 0 y.length 1, .int .i64 w, .undef, .undef, .undef, .undef, .undef, .int .i64 (y.length : Int), .int .i64 (j : Int), .undef, .undef, .undef, .undef, .undef, .undef, .undef, .undef, .undef, .undef] ∧ M = ⟨[], H⟩) (fun T M ⟨j, _, h, _⟩ => by omega) ?_ _ _ ⟨0, by omega, by omega, fun i _ h => absurd h (Nat.not_lt_zero _), rfl, rfl⟩
  rintro m T M L ⟨j, j1, j2, hj, rfl, rfl⟩ hL
  conv => enter [1]; whnf
  refine Ends.ite (fun h => ?_) (fun h => ?_) <;> (conv => enter [1]; whnf)
  · have h1 : j < y.length := by have := of_decide_eq_true h; omega
    repeat' (first
      | refine Ends.some' ?_
      | (refine Ends.force ?_; conv => enter [1]; whnf)
      | (refine Ends.forceN ?_; conv => enter [1]; whnf)
      | (refine Ends.forceLs ?_; conv => enter [1]; whnf)
      | (refine Ends.opt (get_at hb _) ?_; conv => enter [1]; whnf)
      | (refine Ends.opt (partInt (getAt_iV j h1 _ (by omega))) ?_; conv => enter [1]; whnf)
      | (refine Ends.iteT (by first | with_reducible assumption | (simp [*]; done) | (apply decide_eq_true; omega) | fail "open") ?_; conv => enter [1]; whnf)
      | (refine Ends.iteF (by first | with_reducible assumption | (simp [*]; done) | (apply decide_eq_false; omega) | fail "open") ?_; conv => enter [1]; whnf)
      | (refine Ends.ite (fun h => ?_) (fun h => ?_) <;> (conv => enter [1]; whnf)))
    · exact ⟨rfl, (j : Int), rfl, .inr ⟨j, h1, rfl, (by simpa using h : w = y[j]).symm⟩⟩
    · have q : ¬ w = y[j] := by simpa using h
      refine hL _ ⟨j + 1, by omega, by omega, fun i hi hij => ?_, ?_, rfl⟩
      · by_cases e : i = j
        · subst e; exact fun z => q z.symm
        · exact hj i hi (by omega)
      · have e3 : IntKind.i64.wrap ((j : Int) + 1) = ((j + 1 : Nat) : Int) := by rw [w64]; omega
        rw [← e3]
        rfl
  · have h1 : j = y.length := by have := of_decide_eq_false h; omega
    refine Ends.some' ?_
    exact ⟨rfl, -1, rfl, .inl ⟨rfl, fun i hi => hj i hi (by omega)⟩⟩
theorem scon_F (mk : Mk) (k lo : Nat) (y : List Int) (w : Int) (b : Nat) (hk : y.length + 4 ≤ k) (hl : y.length < 1000000) (H : List Blk) (post : List Val) (hb : H[b]? = some ⟨iV y ++ post, true⟩) :
    FF mk k lo 20 [.sl (.hp b) 0 y.length 1, .int .i64 w] H = some (.bool (decide (w ∈ y)), H) := by
  obtain ⟨k, rfl⟩ : ∃ m, k = m + 1 := ⟨k - 1, by omega⟩
  refine eq_of_ends ?_
  conv => enter [1]; whnf
  refine Ends.callE (sidx_F mk k lo y w b (by omega) hl H post hb) (fun v H1 hv => ?_)
  obtain ⟨hH, z, hv, hz⟩ := hv
  replace hH : H1 = H := hH
  replace hv : v = .int .i64 z := hv
  subst hH; subst hv
  conv => enter [1]; whnf
  refine Ends.some' ?_
  have : decide (0 ≤ z) = decide (w ∈ y) := by
    rw [decide_eq_decide]
    rcases hz with ⟨rfl, h⟩ | ⟨i, h1, rfl, h2⟩
    · refine ⟨fun h => absurd h (by decide), fun h => ?_⟩
      obtain ⟨i, hi, e⟩ := List.getElem_of_mem h
      exact absurd e (‹∀ i, ∀ h : i < y.length, y[i] ≠ w› i hi)
    · exact ⟨fun _ => h2 ▸ List.getElem_mem h1, fun _ => by omega⟩
  rw [← this]
end Go.Proofs.Ytbkniomfegbdaaa.VM
