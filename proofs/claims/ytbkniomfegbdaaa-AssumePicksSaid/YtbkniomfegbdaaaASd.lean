/- By which segment register something is reached, by the plain machine. -/
import Derived.Test.YtbkniomfegbdaaaASc
namespace Go.Proofs.Ytbkniomfegbdaaa.VM
open Go Go.RowKit
set_option linter.unusedVariables false
set_option linter.unusedSimpArgs false
set_option maxRecDepth 40000
set_option maxHeartbeats 1600000
def pickP (a : Nat → Int × Int) (u : Nat) (f w : Int) (G : List (List Int)) : Nat × Bool :=
  if f = 0 ∨ f = 3 ∨ hasB a u f w G = true then (u, true) else if hasB a 3 f w G = true then (3, true) else if hasB a 2 f w G = true then (2, true)
  else if hasB a 0 f w G = true then (0, true) else if hasB a 1 f w G = true then (1, true) else (u, false)
theorem pick_F (mk : Mk) (k lo : Nat) (hk : 50 ≤ k) (a : Nat → Int × Int) (u : Nat) (hu : u < 4) (ha : ∀ n, -9223372036854775808 < (a n).2) (x : VL) (H : List Blk) (b : Nat) (G : List (List Int)) (hG : HasG H b G) (hg : ∀ y ∈ G, y.length ≤ 3) (hGl : G.length ≤ 3) :
    FF mk k lo 9 [.agg (asL a), .int .i64 (u : Int), .agg (vL x), .sl (.hp b) 0 G.length 1] H = some (.tup [.int .i64 ((pickP a u x.f x.w G).1 : Nat), .bool (pickP a u x.f x.w G).2], H) := by
  obtain ⟨k, rfl⟩ : ∃ m, k = m + 20 := ⟨k - 20, by omega⟩
  obtain ⟨vn, f, w, vt, vz, kn⟩ := x
  refine eq_of_ends ?_
  have hU := ahas_F mk (k + 19) lo (by omega) a u hu (ha u) ⟨vn, f, w, vt, vz, kn⟩ H b G hG hg hGl
  have h3 := ahas_F mk (k + 19) lo (by omega) a 3 (by omega) (ha 3) ⟨vn, f, w, vt, vz, kn⟩ H b G hG hg hGl
  have h2 := ahas_F mk (k + 19) lo (by omega) a 2 (by omega) (ha 2) ⟨vn, f, w, vt, vz, kn⟩ H b G hG hg hGl
  have h0 := ahas_F mk (k + 19) lo (by omega) a 0 (by omega) (ha 0) ⟨vn, f, w, vt, vz, kn⟩ H b G hG hg hGl
  have h1 := ahas_F mk (k + 19) lo (by omega) a 1 (by omega) (ha 1) ⟨vn, f, w, vt, vz, kn⟩ H b G hG hg hGl
  by_cases c1 : f = 0
  · conv => enter [1]; whnf
    repeat' (first
      | refine Ends.some' ?_
      | (refine Ends.force ?_; conv => enter [1]; whnf)
      | (refine Ends.forceN ?_; conv => enter [1]; whnf)
      | (refine Ends.forceLs ?_; conv => enter [1]; whnf)
      | (refine Ends.iteT (by first | with_reducible assumption | (simp [*]; done) | (apply decide_eq_true; omega) | fail "open") ?_; conv => enter [1]; whnf)
      | (refine Ends.iteF (by first | with_reducible assumption | (simp [*]; done) | (apply decide_eq_false; omega) | fail "open") ?_; conv => enter [1]; whnf)
      | (refine Ends.ite (fun h => ?_) (fun h => ?_) <;> (conv => enter [1]; whnf)))
    all_goals (simp [pickP, c1]; done)
  by_cases c2 : f = 3
  · conv => enter [1]; whnf
    repeat' (first
      | refine Ends.some' ?_
      | (refine Ends.force ?_; conv => enter [1]; whnf)
      | (refine Ends.forceN ?_; conv => enter [1]; whnf)
      | (refine Ends.forceLs ?_; conv => enter [1]; whnf)
      | (refine Ends.iteT (by first | with_reducible assumption | (simp [*]; done) | (apply decide_eq_true; omega) | fail "open") ?_; conv => enter [1]; whnf)
      | (refine Ends.iteF (by first | with_reducible assumption | (simp [*]; done) | (apply decide_eq_false; omega) | fail "open") ?_; conv => enter [1]; whnf)
      | (refine Ends.ite (fun h => ?_) (fun h => ?_) <;> (conv => enter [1]; whnf)))
    all_goals (simp [pickP, c2]; done)
  replace hU : _ = some (Val.bool (hasB a u f w G), H) := hU
  replace h3 : _ = some (Val.bool (hasB a 3 f w G), H) := h3
  replace h2 : _ = some (Val.bool (hasB a 2 f w G), H) := h2
  replace h0 : _ = some (Val.bool (hasB a 0 f w G), H) := h0
  replace h1 : _ = some (Val.bool (hasB a 1 f w G), H) := h1
  cases eu : hasB a u f w G <;> rw [eu] at hU
  · cases e3 : hasB a 3 f w G <;> rw [e3] at h3
    · cases e2 : hasB a 2 f w G <;> rw [e2] at h2
      · cases e0 : hasB a 0 f w G <;> rw [e0] at h0
        · cases e1 : hasB a 1 f w G <;> rw [e1] at h1
          · skip
            conv => enter [1]; whnf
            repeat (first
              | (refine Ends.force ?_; conv => enter [1]; whnf)
              | (refine Ends.forceN ?_; conv => enter [1]; whnf)
              | (refine Ends.forceLs ?_; conv => enter [1]; whnf)
              | (refine Ends.iteT (by first | with_reducible assumption | (simp [*]; done) | (apply decide_eq_true; omega) | fail "open") ?_; conv => enter [1]; whnf)
              | (refine Ends.iteF (by first | with_reducible assumption | (simp [*]; done) | (apply decide_eq_false; omega) | fail "open") ?_; conv => enter [1]; whnf))
            refine Ends.call (hU) ?_
            conv => enter [1]; whnf
            refine Ends.call (h3) ?_
            conv => enter [1]; whnf
            refine Ends.call (h2) ?_
            conv => enter [1]; whnf
            refine Ends.call (h0) ?_
            conv => enter [1]; whnf
            refine Ends.call (h1) ?_
            conv => enter [1]; whnf
            refine Ends.some' ?_
            simp [pickP, c1, c2, eu, e3, e2, e0, e1]
          · skip
            conv => enter [1]; whnf
            repeat (first
              | (refine Ends.force ?_; conv => enter [1]; whnf)
              | (refine Ends.forceN ?_; conv => enter [1]; whnf)
              | (refine Ends.forceLs ?_; conv => enter [1]; whnf)
              | (refine Ends.iteT (by first | with_reducible assumption | (simp [*]; done) | (apply decide_eq_true; omega) | fail "open") ?_; conv => enter [1]; whnf)
              | (refine Ends.iteF (by first | with_reducible assumption | (simp [*]; done) | (apply decide_eq_false; omega) | fail "open") ?_; conv => enter [1]; whnf))
            refine Ends.call (hU) ?_
            conv => enter [1]; whnf
            refine Ends.call (h3) ?_
            conv => enter [1]; whnf
            refine Ends.call (h2) ?_
            conv => enter [1]; whnf
            refine Ends.call (h0) ?_
            conv => enter [1]; whnf
            refine Ends.call (h1) ?_
            conv => enter [1]; whnf
            refine Ends.some' ?_
            simp [pickP, c1, c2, eu, e3, e2, e0, e1]
        · skip
          conv => enter [1]; whnf
          repeat (first
            | (refine Ends.force ?_; conv => enter [1]; whnf)
            | (refine Ends.forceN ?_; conv => enter [1]; whnf)
            | (refine Ends.forceLs ?_; conv => enter [1]; whnf)
            | (refine Ends.iteT (by first | with_reducible assumption | (simp [*]; done) | (apply decide_eq_true; omega) | fail "open") ?_; conv => enter [1]; whnf)
            | (refine Ends.iteF (by first | with_reducible assumption | (simp [*]; done) | (apply decide_eq_false; omega) | fail "open") ?_; conv => enter [1]; whnf))
          refine Ends.call (hU) ?_
          conv => enter [1]; whnf
          refine Ends.call (h3) ?_
          conv => enter [1]; whnf
          refine Ends.call (h2) ?_
          conv => enter [1]; whnf
          refine Ends.call (h0) ?_
          conv => enter [1]; whnf
          refine Ends.some' ?_
          simp [pickP, c1, c2, eu, e3, e2, e0]
      · skip
        conv => enter [1]; whnf
        repeat (first
          | (refine Ends.force ?_; conv => enter [1]; whnf)
          | (refine Ends.forceN ?_; conv => enter [1]; whnf)
          | (refine Ends.forceLs ?_; conv => enter [1]; whnf)
          | (refine Ends.iteT (by first | with_reducible assumption | (simp [*]; done) | (apply decide_eq_true; omega) | fail "open") ?_; conv => enter [1]; whnf)
          | (refine Ends.iteF (by first | with_reducible assumption | (simp [*]; done) | (apply decide_eq_false; omega) | fail "open") ?_; conv => enter [1]; whnf))
        refine Ends.call (hU) ?_
        conv => enter [1]; whnf
        refine Ends.call (h3) ?_
        conv => enter [1]; whnf
        refine Ends.call (h2) ?_
        conv => enter [1]; whnf
        refine Ends.some' ?_
        simp [pickP, c1, c2, eu, e3, e2]
    · skip
      conv => enter [1]; whnf
      repeat (first
        | (refine Ends.force ?_; conv => enter [1]; whnf)
        | (refine Ends.forceN ?_; conv => enter [1]; whnf)
        | (refine Ends.forceLs ?_; conv => enter [1]; whnf)
        | (refine Ends.iteT (by first | with_reducible assumption | (simp [*]; done) | (apply decide_eq_true; omega) | fail "open") ?_; conv => enter [1]; whnf)
        | (refine Ends.iteF (by first | with_reducible assumption | (simp [*]; done) | (apply decide_eq_false; omega) | fail "open") ?_; conv => enter [1]; whnf))
      refine Ends.call (hU) ?_
      conv => enter [1]; whnf
      refine Ends.call (h3) ?_
      conv => enter [1]; whnf
      refine Ends.some' ?_
      simp [pickP, c1, c2, eu, e3]
  · skip
    conv => enter [1]; whnf
    repeat (first
      | (refine Ends.force ?_; conv => enter [1]; whnf)
      | (refine Ends.forceN ?_; conv => enter [1]; whnf)
      | (refine Ends.forceLs ?_; conv => enter [1]; whnf)
      | (refine Ends.iteT (by first | with_reducible assumption | (simp [*]; done) | (apply decide_eq_true; omega) | fail "open") ?_; conv => enter [1]; whnf)
      | (refine Ends.iteF (by first | with_reducible assumption | (simp [*]; done) | (apply decide_eq_false; omega) | fail "open") ?_; conv => enter [1]; whnf))
    refine Ends.call (hU) ?_
    conv => enter [1]; whnf
    refine Ends.some' ?_
    simp [pickP, c1, c2, eu]
end Go.Proofs.Ytbkniomfegbdaaa.VM
