/- What segment registers have, by the plain machine: whether one reaches something. -/
import Derived.Test.YtbkniomfegbdaaaASa
namespace Go.Proofs.Ytbkniomfegbdaaa.VM
open Go Go.RowKit
set_option linter.unusedVariables false
set_option linter.unusedSimpArgs false
set_option maxRecDepth 40000
set_option maxHeartbeats 1600000
/-- A value. -/
structure VL where
  n : Int
  f : Int
  w : Int
  t : Int
  z : Int
  kn : Bool
def vL (x : VL) : List Val := [.int .i64 x.n, .int .i64 x.f, .int .i64 x.w, .int .i64 x.t, .int .i64 x.z, .bool x.kn]
def asL (a : Nat → Int × Int) : List Val := [.int .i64 (a 0).1, .int .i64 (a 0).2, .int .i64 (a 1).1, .int .i64 (a 1).2, .int .i64 (a 2).1, .int .i64 (a 2).2, .int .i64 (a 3).1, .int .i64 (a 3).2]
def lL (l : Nat → Int) : List Val := [.int .i64 (l 0), .int .i64 (l 1), .int .i64 (l 2), .int .i64 (l 3), .int .i64 (l 4), .int .i64 (l 5), .int .i64 (l 6), .int .i64 (l 7)]
/-- Groups: lists of segments. -/
structure HasG (H : List Blk) (b : Nat) (G : List (List Int)) : Prop where
  get : ∃ ivs, H[b]? = some ⟨ivs, true⟩ ∧ ivs.length = G.length ∧ ∀ i (h : i < G.length), ∃ q, ivs[i]? = some (.sl (.hp q) 0 G[i].length 1) ∧ H[q]? = some ⟨iV G[i], true⟩
theorem HasG.grow {H H' : List Blk} {b : Nat} {G : List (List Int)} (h : HasG H b G) (g : Grown H H') : HasG H' b G := by
  obtain ⟨ivs, h1, h2, h3⟩ := h.get
  exact ⟨ivs, g.at h1, h2, fun i hi => by obtain ⟨q, h4, h5⟩ := h3 i hi; exact ⟨q, h4, g.at h5⟩⟩
def hasB (a : Nat → Int × Int) (n : Nat) (f w : Int) (G : List (List Int)) : Bool :=
  if (a n).1 = 0 ∨ f = 0 then false else if (a n).1 = f ∧ (a n).2 = w then true
  else if (a n).1 = 2 ∧ f = 1 ∧ 1 ≤ (a n).2 ∧ (a n).2 ≤ G.length then decide (w ∈ G.getD ((a n).2 - 1).toNat []) else false
theorem aggSl : aggB Try.prog 26 = some false := by kernel_rfl
theorem sizeSl : sizeB Try.prog 26 = some 1 := by kernel_rfl
theorem partSl {cs : List Val} {off : Nat} {v : Val} (h : getAt off cs = some v) : partV Try.prog 26 cs off = some v := partOne aggSl sizeSl h
theorem partSlAt {cs : List Val} {j off : Nat} {v : Val} (h : cs[j]? = some v) (ho : off = j) : partV Try.prog 26 cs off = some v := partSl (ho ▸ (getAt_eq _ _).trans h)
theorem ahas_F (mk : Mk) (k lo : Nat) (hk : 20 ≤ k) (a : Nat → Int × Int) (n : Nat) (hn : n < 4) (ha : -9223372036854775808 < (a n).2) (x : VL) (H : List Blk) (b : Nat) (G : List (List Int)) (hG : HasG H b G) (hg : ∀ y ∈ G, y.length ≤ 3) (hGl : G.length ≤ 3) :
    FF mk k lo 7 [.agg (asL a), .int .i64 (n : Int), .agg (vL x), .sl (.hp b) 0 G.length 1] H = some (.bool (hasB a n x.f x.w G), H) := by
  obtain ⟨k, rfl⟩ : ∃ m, k = m + 1 := ⟨k - 1, by omega⟩
  obtain ⟨vn, f, w, vt, vz, kn⟩ := x
  refine eq_of_ends ?_
  rcases (show n = 0 ∨ n = 1 ∨ n = 2 ∨ n = 3 by omega) with rfl | rfl | rfl | rfl
  · by_cases c1 : (a 0).1 = 0
    · conv => enter [1]; whnf
      repeat' (first
        | refine Ends.some' ?_
        | (refine Ends.force ?_; conv => enter [1]; whnf)
        | (refine Ends.forceN ?_; conv => enter [1]; whnf)
        | (refine Ends.forceLs ?_; conv => enter [1]; whnf)
        | (refine Ends.iteT (by first | with_reducible assumption | (simp [*]; done) | (apply decide_eq_true; omega) | fail "open") ?_; conv => enter [1]; whnf)
        | (refine Ends.iteF (by first | with_reducible assumption | (simp [*]; done) | (apply decide_eq_false; omega) | fail "open") ?_; conv => enter [1]; whnf)
        | (refine Ends.ite (fun h => ?_) (fun h => ?_) <;> (conv => enter [1]; whnf)))
      simp [hasB, c1]
    by_cases c2 : f = 0
    · conv => enter [1]; whnf
      repeat' (first
        | refine Ends.some' ?_
        | (refine Ends.force ?_; conv => enter [1]; whnf)
        | (refine Ends.forceN ?_; conv => enter [1]; whnf)
        | (refine Ends.forceLs ?_; conv => enter [1]; whnf)
        | (refine Ends.iteT (by first | with_reducible assumption | (simp [*]; done) | (apply decide_eq_true; omega) | fail "open") ?_; conv => enter [1]; whnf)
        | (refine Ends.iteF (by first | with_reducible assumption | (simp [*]; done) | (apply decide_eq_false; omega) | fail "open") ?_; conv => enter [1]; whnf)
        | (refine Ends.ite (fun h => ?_) (fun h => ?_) <;> (conv => enter [1]; whnf)))
      simp [hasB, c2]
    by_cases c3 : (a 0).1 = f ∧ (a 0).2 = w
    · obtain ⟨c3, c4⟩ := c3
      conv => enter [1]; whnf
      repeat' (first
        | refine Ends.some' ?_
        | (refine Ends.force ?_; conv => enter [1]; whnf)
        | (refine Ends.forceN ?_; conv => enter [1]; whnf)
        | (refine Ends.forceLs ?_; conv => enter [1]; whnf)
        | (refine Ends.iteT (by first | with_reducible assumption | (simp [*]; done) | (apply decide_eq_true; omega) | fail "open") ?_; conv => enter [1]; whnf)
        | (refine Ends.iteF (by first | with_reducible assumption | (simp [*]; done) | (apply decide_eq_false; omega) | fail "open") ?_; conv => enter [1]; whnf)
        | (refine Ends.ite (fun h => ?_) (fun h => ?_) <;> (conv => enter [1]; whnf)))
      simp [hasB, c1, c2, c3, c4]
    by_cases c5 : (a 0).1 = 2
    · by_cases c6 : f = 1
      · by_cases c7 : 1 ≤ (a 0).2
        · by_cases c8 : (a 0).2 ≤ G.length
          · subst c6
            obtain ⟨j, hj⟩ : ∃ j : Nat, (a 0).2 - 1 = j := ⟨((a 0).2 - 1).toNat, by omega⟩
            have hjl : j < G.length := by omega
            obtain ⟨ivs, g1, g2, g3⟩ := hG.get
            obtain ⟨q, g4, g5⟩ := g3 j hjl
            have hwr : IntKind.i64.wrap ((a 0).2 - 1) = (j : Int) := by rw [w64]; omega
            have hq : (hasB a 0 1 w G) = decide (w ∈ G[j]) := by
              unfold hasB
              rw [if_neg (by omega), if_neg c3, if_pos ⟨c5, rfl, c7, c8⟩, hj]
              simp [List.getD_eq_getElem?_getD, hjl]
            have hmem : G[j].length ≤ 3 := hg _ (List.getElem_mem hjl)
            conv => enter [1]; whnf
            repeat' (first
              | refine Ends.some' ?_
              | (refine Ends.force ?_; conv => enter [1]; whnf)
              | (refine Ends.forceN ?_; conv => enter [1]; whnf)
              | (refine Ends.forceLs ?_; conv => enter [1]; whnf)
              | (refine Ends.opt (get_at g1 _) ?_; conv => enter [1]; whnf)
              | (refine Ends.opt (partSlAt g4 (by omega)) ?_; conv => enter [1]; whnf)
              | (refine Ends.call (scon_F mk k lo G[j] w q (by omega) (by omega) H [] (by rw [List.append_nil]; exact g5)) ?_; conv => enter [1]; whnf)
              | ((rw [hwr]; refine Ends.iteT (decide_eq_true (by omega)) ?_); conv => enter [1]; whnf)
              | (refine Ends.iteT (by first | with_reducible assumption | (simp [*]; done) | (apply decide_eq_true; omega) | fail "open") ?_; conv => enter [1]; whnf)
              | (refine Ends.iteF (by first | with_reducible assumption | (simp [*]; done) | (apply decide_eq_false; omega) | fail "open") ?_; conv => enter [1]; whnf)
              | (refine Ends.ite (fun h => ?_) (fun h => ?_) <;> (conv => enter [1]; whnf)))
            rw [hq]
            rfl
          · conv => enter [1]; whnf
            repeat' (first
              | refine Ends.some' ?_
              | (refine Ends.force ?_; conv => enter [1]; whnf)
              | (refine Ends.forceN ?_; conv => enter [1]; whnf)
              | (refine Ends.forceLs ?_; conv => enter [1]; whnf)
              | (refine Ends.iteT (by first | with_reducible assumption | (simp [*]; done) | (apply decide_eq_true; omega) | fail "open") ?_; conv => enter [1]; whnf)
              | (refine Ends.iteF (by first | with_reducible assumption | (simp [*]; done) | (apply decide_eq_false; omega) | fail "open") ?_; conv => enter [1]; whnf)
              | (refine Ends.ite (fun h => ?_) (fun h => ?_) <;> (conv => enter [1]; whnf)))
            all_goals first | (simp [hasB, c1, c2, c3, c5, c6, c7, c8]; done) | (simp_all [hasB]; done) | (simp_all [hasB]; omega)
        · conv => enter [1]; whnf
          repeat' (first
            | refine Ends.some' ?_
            | (refine Ends.force ?_; conv => enter [1]; whnf)
            | (refine Ends.forceN ?_; conv => enter [1]; whnf)
            | (refine Ends.forceLs ?_; conv => enter [1]; whnf)
            | (refine Ends.iteT (by first | with_reducible assumption | (simp [*]; done) | (apply decide_eq_true; omega) | fail "open") ?_; conv => enter [1]; whnf)
            | (refine Ends.iteF (by first | with_reducible assumption | (simp [*]; done) | (apply decide_eq_false; omega) | fail "open") ?_; conv => enter [1]; whnf)
            | (refine Ends.ite (fun h => ?_) (fun h => ?_) <;> (conv => enter [1]; whnf)))
          all_goals first | (simp [hasB, c1, c2, c3, c5, c6, c7]; done) | (simp_all [hasB]; done) | (simp_all [hasB]; omega)
      · conv => enter [1]; whnf
        repeat' (first
          | refine Ends.some' ?_
          | (refine Ends.force ?_; conv => enter [1]; whnf)
          | (refine Ends.forceN ?_; conv => enter [1]; whnf)
          | (refine Ends.forceLs ?_; conv => enter [1]; whnf)
          | (refine Ends.iteT (by first | with_reducible assumption | (simp [*]; done) | (apply decide_eq_true; omega) | fail "open") ?_; conv => enter [1]; whnf)
          | (refine Ends.iteF (by first | with_reducible assumption | (simp [*]; done) | (apply decide_eq_false; omega) | fail "open") ?_; conv => enter [1]; whnf)
          | (refine Ends.ite (fun h => ?_) (fun h => ?_) <;> (conv => enter [1]; whnf)))
        all_goals first | (simp [hasB, c1, c2, c3, c5, c6]; done) | (simp_all [hasB]; done) | (simp_all [hasB]; omega)
    · conv => enter [1]; whnf
      repeat' (first
        | refine Ends.some' ?_
        | (refine Ends.force ?_; conv => enter [1]; whnf)
        | (refine Ends.forceN ?_; conv => enter [1]; whnf)
        | (refine Ends.forceLs ?_; conv => enter [1]; whnf)
        | (refine Ends.iteT (by first | with_reducible assumption | (simp [*]; done) | (apply decide_eq_true; omega) | fail "open") ?_; conv => enter [1]; whnf)
        | (refine Ends.iteF (by first | with_reducible assumption | (simp [*]; done) | (apply decide_eq_false; omega) | fail "open") ?_; conv => enter [1]; whnf)
        | (refine Ends.ite (fun h => ?_) (fun h => ?_) <;> (conv => enter [1]; whnf)))
      all_goals first | (simp [hasB, c1, c2, c3, c5]; done) | (simp_all [hasB]; done) | (simp_all [hasB]; omega)
  · by_cases c1 : (a 1).1 = 0
    · conv => enter [1]; whnf
      repeat' (first
        | refine Ends.some' ?_
        | (refine Ends.force ?_; conv => enter [1]; whnf)
        | (refine Ends.forceN ?_; conv => enter [1]; whnf)
        | (refine Ends.forceLs ?_; conv => enter [1]; whnf)
        | (refine Ends.iteT (by first | with_reducible assumption | (simp [*]; done) | (apply decide_eq_true; omega) | fail "open") ?_; conv => enter [1]; whnf)
        | (refine Ends.iteF (by first | with_reducible assumption | (simp [*]; done) | (apply decide_eq_false; omega) | fail "open") ?_; conv => enter [1]; whnf)
        | (refine Ends.ite (fun h => ?_) (fun h => ?_) <;> (conv => enter [1]; whnf)))
      simp [hasB, c1]
    by_cases c2 : f = 0
    · conv => enter [1]; whnf
      repeat' (first
        | refine Ends.some' ?_
        | (refine Ends.force ?_; conv => enter [1]; whnf)
        | (refine Ends.forceN ?_; conv => enter [1]; whnf)
        | (refine Ends.forceLs ?_; conv => enter [1]; whnf)
        | (refine Ends.iteT (by first | with_reducible assumption | (simp [*]; done) | (apply decide_eq_true; omega) | fail "open") ?_; conv => enter [1]; whnf)
        | (refine Ends.iteF (by first | with_reducible assumption | (simp [*]; done) | (apply decide_eq_false; omega) | fail "open") ?_; conv => enter [1]; whnf)
        | (refine Ends.ite (fun h => ?_) (fun h => ?_) <;> (conv => enter [1]; whnf)))
      simp [hasB, c2]
    by_cases c3 : (a 1).1 = f ∧ (a 1).2 = w
    · obtain ⟨c3, c4⟩ := c3
      conv => enter [1]; whnf
      repeat' (first
        | refine Ends.some' ?_
        | (refine Ends.force ?_; conv => enter [1]; whnf)
        | (refine Ends.forceN ?_; conv => enter [1]; whnf)
        | (refine Ends.forceLs ?_; conv => enter [1]; whnf)
        | (refine Ends.iteT (by first | with_reducible assumption | (simp [*]; done) | (apply decide_eq_true; omega) | fail "open") ?_; conv => enter [1]; whnf)
        | (refine Ends.iteF (by first | with_reducible assumption | (simp [*]; done) | (apply decide_eq_false; omega) | fail "open") ?_; conv => enter [1]; whnf)
        | (refine Ends.ite (fun h => ?_) (fun h => ?_) <;> (conv => enter [1]; whnf)))
      simp [hasB, c1, c2, c3, c4]
    by_cases c5 : (a 1).1 = 2
    · by_cases c6 : f = 1
      · by_cases c7 : 1 ≤ (a 1).2
        · by_cases c8 : (a 1).2 ≤ G.length
          · subst c6
            obtain ⟨j, hj⟩ : ∃ j : Nat, (a 1).2 - 1 = j := ⟨((a 1).2 - 1).toNat, by omega⟩
            have hjl : j < G.length := by omega
            obtain ⟨ivs, g1, g2, g3⟩ := hG.get
            obtain ⟨q, g4, g5⟩ := g3 j hjl
            have hwr : IntKind.i64.wrap ((a 1).2 - 1) = (j : Int) := by rw [w64]; omega
            have hq : (hasB a 1 1 w G) = decide (w ∈ G[j]) := by
              unfold hasB
              rw [if_neg (by omega), if_neg c3, if_pos ⟨c5, rfl, c7, c8⟩, hj]
              simp [List.getD_eq_getElem?_getD, hjl]
            have hmem : G[j].length ≤ 3 := hg _ (List.getElem_mem hjl)
            conv => enter [1]; whnf
            repeat' (first
              | refine Ends.some' ?_
              | (refine Ends.force ?_; conv => enter [1]; whnf)
              | (refine Ends.forceN ?_; conv => enter [1]; whnf)
              | (refine Ends.forceLs ?_; conv => enter [1]; whnf)
              | (refine Ends.opt (get_at g1 _) ?_; conv => enter [1]; whnf)
              | (refine Ends.opt (partSlAt g4 (by omega)) ?_; conv => enter [1]; whnf)
              | (refine Ends.call (scon_F mk k lo G[j] w q (by omega) (by omega) H [] (by rw [List.append_nil]; exact g5)) ?_; conv => enter [1]; whnf)
              | ((rw [hwr]; refine Ends.iteT (decide_eq_true (by omega)) ?_); conv => enter [1]; whnf)
              | (refine Ends.iteT (by first | with_reducible assumption | (simp [*]; done) | (apply decide_eq_true; omega) | fail "open") ?_; conv => enter [1]; whnf)
              | (refine Ends.iteF (by first | with_reducible assumption | (simp [*]; done) | (apply decide_eq_false; omega) | fail "open") ?_; conv => enter [1]; whnf)
              | (refine Ends.ite (fun h => ?_) (fun h => ?_) <;> (conv => enter [1]; whnf)))
            rw [hq]
            rfl
          · conv => enter [1]; whnf
            repeat' (first
              | refine Ends.some' ?_
              | (refine Ends.force ?_; conv => enter [1]; whnf)
              | (refine Ends.forceN ?_; conv => enter [1]; whnf)
              | (refine Ends.forceLs ?_; conv => enter [1]; whnf)
              | (refine Ends.iteT (by first | with_reducible assumption | (simp [*]; done) | (apply decide_eq_true; omega) | fail "open") ?_; conv => enter [1]; whnf)
              | (refine Ends.iteF (by first | with_reducible assumption | (simp [*]; done) | (apply decide_eq_false; omega) | fail "open") ?_; conv => enter [1]; whnf)
              | (refine Ends.ite (fun h => ?_) (fun h => ?_) <;> (conv => enter [1]; whnf)))
            all_goals first | (simp [hasB, c1, c2, c3, c5, c6, c7, c8]; done) | (simp_all [hasB]; done) | (simp_all [hasB]; omega)
        · conv => enter [1]; whnf
          repeat' (first
            | refine Ends.some' ?_
            | (refine Ends.force ?_; conv => enter [1]; whnf)
            | (refine Ends.forceN ?_; conv => enter [1]; whnf)
            | (refine Ends.forceLs ?_; conv => enter [1]; whnf)
            | (refine Ends.iteT (by first | with_reducible assumption | (simp [*]; done) | (apply decide_eq_true; omega) | fail "open") ?_; conv => enter [1]; whnf)
            | (refine Ends.iteF (by first | with_reducible assumption | (simp [*]; done) | (apply decide_eq_false; omega) | fail "open") ?_; conv => enter [1]; whnf)
            | (refine Ends.ite (fun h => ?_) (fun h => ?_) <;> (conv => enter [1]; whnf)))
          all_goals first | (simp [hasB, c1, c2, c3, c5, c6, c7]; done) | (simp_all [hasB]; done) | (simp_all [hasB]; omega)
      · conv => enter [1]; whnf
        repeat' (first
          | refine Ends.some' ?_
          | (refine Ends.force ?_; conv => enter [1]; whnf)
          | (refine Ends.forceN ?_; conv => enter [1]; whnf)
          | (refine Ends.forceLs ?_; conv => enter [1]; whnf)
          | (refine Ends.iteT (by first | with_reducible assumption | (simp [*]; done) | (apply decide_eq_true; omega) | fail "open") ?_; conv => enter [1]; whnf)
          | (refine Ends.iteF (by first | with_reducible assumption | (simp [*]; done) | (apply decide_eq_false; omega) | fail "open") ?_; conv => enter [1]; whnf)
          | (refine Ends.ite (fun h => ?_) (fun h => ?_) <;> (conv => enter [1]; whnf)))
        all_goals first | (simp [hasB, c1, c2, c3, c5, c6]; done) | (simp_all [hasB]; done) | (simp_all [hasB]; omega)
    · conv => enter [1]; whnf
      repeat' (first
        | refine Ends.some' ?_
        | (refine Ends.force ?_; conv => enter [1]; whnf)
        | (refine Ends.forceN ?_; conv => enter [1]; whnf)
        | (refine Ends.forceLs ?_; conv => enter [1]; whnf)
        | (refine Ends.iteT (by first | with_reducible assumption | (simp [*]; done) | (apply decide_eq_true; omega) | fail "open") ?_; conv => enter [1]; whnf)
        | (refine Ends.iteF (by first | with_reducible assumption | (simp [*]; done) | (apply decide_eq_false; omega) | fail "open") ?_; conv => enter [1]; whnf)
        | (refine Ends.ite (fun h => ?_) (fun h => ?_) <;> (conv => enter [1]; whnf)))
      all_goals first | (simp [hasB, c1, c2, c3, c5]; done) | (simp_all [hasB]; done) | (simp_all [hasB]; omega)
  · by_cases c1 : (a 2).1 = 0
    · conv => enter [1]; whnf
      repeat' (first
        | refine Ends.some' ?_
        | (refine Ends.force ?_; conv => enter [1]; whnf)
        | (refine Ends.forceN ?_; conv => enter [1]; whnf)
        | (refine Ends.forceLs ?_; conv => enter [1]; whnf)
        | (refine Ends.iteT (by first | with_reducible assumption | (simp [*]; done) | (apply decide_eq_true; omega) | fail "open") ?_; conv => enter [1]; whnf)
        | (refine Ends.iteF (by first | with_reducible assumption | (simp [*]; done) | (apply decide_eq_false; omega) | fail "open") ?_; conv => enter [1]; whnf)
        | (refine Ends.ite (fun h => ?_) (fun h => ?_) <;> (conv => enter [1]; whnf)))
      simp [hasB, c1]
    by_cases c2 : f = 0
    · conv => enter [1]; whnf
      repeat' (first
        | refine Ends.some' ?_
        | (refine Ends.force ?_; conv => enter [1]; whnf)
        | (refine Ends.forceN ?_; conv => enter [1]; whnf)
        | (refine Ends.forceLs ?_; conv => enter [1]; whnf)
        | (refine Ends.iteT (by first | with_reducible assumption | (simp [*]; done) | (apply decide_eq_true; omega) | fail "open") ?_; conv => enter [1]; whnf)
        | (refine Ends.iteF (by first | with_reducible assumption | (simp [*]; done) | (apply decide_eq_false; omega) | fail "open") ?_; conv => enter [1]; whnf)
        | (refine Ends.ite (fun h => ?_) (fun h => ?_) <;> (conv => enter [1]; whnf)))
      simp [hasB, c2]
    by_cases c3 : (a 2).1 = f ∧ (a 2).2 = w
    · obtain ⟨c3, c4⟩ := c3
      conv => enter [1]; whnf
      repeat' (first
        | refine Ends.some' ?_
        | (refine Ends.force ?_; conv => enter [1]; whnf)
        | (refine Ends.forceN ?_; conv => enter [1]; whnf)
        | (refine Ends.forceLs ?_; conv => enter [1]; whnf)
        | (refine Ends.iteT (by first | with_reducible assumption | (simp [*]; done) | (apply decide_eq_true; omega) | fail "open") ?_; conv => enter [1]; whnf)
        | (refine Ends.iteF (by first | with_reducible assumption | (simp [*]; done) | (apply decide_eq_false; omega) | fail "open") ?_; conv => enter [1]; whnf)
        | (refine Ends.ite (fun h => ?_) (fun h => ?_) <;> (conv => enter [1]; whnf)))
      simp [hasB, c1, c2, c3, c4]
    by_cases c5 : (a 2).1 = 2
    · by_cases c6 : f = 1
      · by_cases c7 : 1 ≤ (a 2).2
        · by_cases c8 : (a 2).2 ≤ G.length
          · subst c6
            obtain ⟨j, hj⟩ : ∃ j : Nat, (a 2).2 - 1 = j := ⟨((a 2).2 - 1).toNat, by omega⟩
            have hjl : j < G.length := by omega
            obtain ⟨ivs, g1, g2, g3⟩ := hG.get
            obtain ⟨q, g4, g5⟩ := g3 j hjl
            have hwr : IntKind.i64.wrap ((a 2).2 - 1) = (j : Int) := by rw [w64]; omega
            have hq : (hasB a 2 1 w G) = decide (w ∈ G[j]) := by
              unfold hasB
              rw [if_neg (by omega), if_neg c3, if_pos ⟨c5, rfl, c7, c8⟩, hj]
              simp [List.getD_eq_getElem?_getD, hjl]
            have hmem : G[j].length ≤ 3 := hg _ (List.getElem_mem hjl)
            conv => enter [1]; whnf
            repeat' (first
              | refine Ends.some' ?_
              | (refine Ends.force ?_; conv => enter [1]; whnf)
              | (refine Ends.forceN ?_; conv => enter [1]; whnf)
              | (refine Ends.forceLs ?_; conv => enter [1]; whnf)
              | (refine Ends.opt (get_at g1 _) ?_; conv => enter [1]; whnf)
              | (refine Ends.opt (partSlAt g4 (by omega)) ?_; conv => enter [1]; whnf)
              | (refine Ends.call (scon_F mk k lo G[j] w q (by omega) (by omega) H [] (by rw [List.append_nil]; exact g5)) ?_; conv => enter [1]; whnf)
              | ((rw [hwr]; refine Ends.iteT (decide_eq_true (by omega)) ?_); conv => enter [1]; whnf)
              | (refine Ends.iteT (by first | with_reducible assumption | (simp [*]; done) | (apply decide_eq_true; omega) | fail "open") ?_; conv => enter [1]; whnf)
              | (refine Ends.iteF (by first | with_reducible assumption | (simp [*]; done) | (apply decide_eq_false; omega) | fail "open") ?_; conv => enter [1]; whnf)
              | (refine Ends.ite (fun h => ?_) (fun h => ?_) <;> (conv => enter [1]; whnf)))
            rw [hq]
            rfl
          · conv => enter [1]; whnf
            repeat' (first
              | refine Ends.some' ?_
              | (refine Ends.force ?_; conv => enter [1]; whnf)
              | (refine Ends.forceN ?_; conv => enter [1]; whnf)
              | (refine Ends.forceLs ?_; conv => enter [1]; whnf)
              | (refine Ends.iteT (by first | with_reducible assumption | (simp [*]; done) | (apply decide_eq_true; omega) | fail "open") ?_; conv => enter [1]; whnf)
              | (refine Ends.iteF (by first | with_reducible assumption | (simp [*]; done) | (apply decide_eq_false; omega) | fail "open") ?_; conv => enter [1]; whnf)
              | (refine Ends.ite (fun h => ?_) (fun h => ?_) <;> (conv => enter [1]; whnf)))
            all_goals first | (simp [hasB, c1, c2, c3, c5, c6, c7, c8]; done) | (simp_all [hasB]; done) | (simp_all [hasB]; omega)
        · conv => enter [1]; whnf
          repeat' (first
            | refine Ends.some' ?_
            | (refine Ends.force ?_; conv => enter [1]; whnf)
            | (refine Ends.forceN ?_; conv => enter [1]; whnf)
            | (refine Ends.forceLs ?_; conv => enter [1]; whnf)
            | (refine Ends.iteT (by first | with_reducible assumption | (simp [*]; done) | (apply decide_eq_true; omega) | fail "open") ?_; conv => enter [1]; whnf)
            | (refine Ends.iteF (by first | with_reducible assumption | (simp [*]; done) | (apply decide_eq_false; omega) | fail "open") ?_; conv => enter [1]; whnf)
            | (refine Ends.ite (fun h => ?_) (fun h => ?_) <;> (conv => enter [1]; whnf)))
          all_goals first | (simp [hasB, c1, c2, c3, c5, c6, c7]; done) | (simp_all [hasB]; done) | (simp_all [hasB]; omega)
      · conv => enter [1]; whnf
        repeat' (first
          | refine Ends.some' ?_
          | (refine Ends.force ?_; conv => enter [1]; whnf)
          | (refine Ends.forceN ?_; conv => enter [1]; whnf)
          | (refine Ends.forceLs ?_; conv => enter [1]; whnf)
          | (refine Ends.iteT (by first | with_reducible assumption | (simp [*]; done) | (apply decide_eq_true; omega) | fail "open") ?_; conv => enter [1]; whnf)
          | (refine Ends.iteF (by first | with_reducible assumption | (simp [*]; done) | (apply decide_eq_false; omega) | fail "open") ?_; conv => enter [1]; whnf)
          | (refine Ends.ite (fun h => ?_) (fun h => ?_) <;> (conv => enter [1]; whnf)))
        all_goals first | (simp [hasB, c1, c2, c3, c5, c6]; done) | (simp_all [hasB]; done) | (simp_all [hasB]; omega)
    · conv => enter [1]; whnf
      repeat' (first
        | refine Ends.some' ?_
        | (refine Ends.force ?_; conv => enter [1]; whnf)
        | (refine Ends.forceN ?_; conv => enter [1]; whnf)
        | (refine Ends.forceLs ?_; conv => enter [1]; whnf)
        | (refine Ends.iteT (by first | with_reducible assumption | (simp [*]; done) | (apply decide_eq_true; omega) | fail "open") ?_; conv => enter [1]; whnf)
        | (refine Ends.iteF (by first | with_reducible assumption | (simp [*]; done) | (apply decide_eq_false; omega) | fail "open") ?_; conv => enter [1]; whnf)
        | (refine Ends.ite (fun h => ?_) (fun h => ?_) <;> (conv => enter [1]; whnf)))
      all_goals first | (simp [hasB, c1, c2, c3, c5]; done) | (simp_all [hasB]; done) | (simp_all [hasB]; omega)
  · by_cases c1 : (a 3).1 = 0
    · conv => enter [1]; whnf
      repeat' (first
        | refine Ends.some' ?_
        | (refine Ends.force ?_; conv => enter [1]; whnf)
        | (refine Ends.forceN ?_; conv => enter [1]; whnf)
        | (refine Ends.forceLs ?_; conv => enter [1]; whnf)
        | (refine Ends.iteT (by first | with_reducible assumption | (simp [*]; done) | (apply decide_eq_true; omega) | fail "open") ?_; conv => enter [1]; whnf)
        | (refine Ends.iteF (by first | with_reducible assumption | (simp [*]; done) | (apply decide_eq_false; omega) | fail "open") ?_; conv => enter [1]; whnf)
        | (refine Ends.ite (fun h => ?_) (fun h => ?_) <;> (conv => enter [1]; whnf)))
      simp [hasB, c1]
    by_cases c2 : f = 0
    · conv => enter [1]; whnf
      repeat' (first
        | refine Ends.some' ?_
        | (refine Ends.force ?_; conv => enter [1]; whnf)
        | (refine Ends.forceN ?_; conv => enter [1]; whnf)
        | (refine Ends.forceLs ?_; conv => enter [1]; whnf)
        | (refine Ends.iteT (by first | with_reducible assumption | (simp [*]; done) | (apply decide_eq_true; omega) | fail "open") ?_; conv => enter [1]; whnf)
        | (refine Ends.iteF (by first | with_reducible assumption | (simp [*]; done) | (apply decide_eq_false; omega) | fail "open") ?_; conv => enter [1]; whnf)
        | (refine Ends.ite (fun h => ?_) (fun h => ?_) <;> (conv => enter [1]; whnf)))
      simp [hasB, c2]
    by_cases c3 : (a 3).1 = f ∧ (a 3).2 = w
    · obtain ⟨c3, c4⟩ := c3
      conv => enter [1]; whnf
      repeat' (first
        | refine Ends.some' ?_
        | (refine Ends.force ?_; conv => enter [1]; whnf)
        | (refine Ends.forceN ?_; conv => enter [1]; whnf)
        | (refine Ends.forceLs ?_; conv => enter [1]; whnf)
        | (refine Ends.iteT (by first | with_reducible assumption | (simp [*]; done) | (apply decide_eq_true; omega) | fail "open") ?_; conv => enter [1]; whnf)
        | (refine Ends.iteF (by first | with_reducible assumption | (simp [*]; done) | (apply decide_eq_false; omega) | fail "open") ?_; conv => enter [1]; whnf)
        | (refine Ends.ite (fun h => ?_) (fun h => ?_) <;> (conv => enter [1]; whnf)))
      simp [hasB, c1, c2, c3, c4]
    by_cases c5 : (a 3).1 = 2
    · by_cases c6 : f = 1
      · by_cases c7 : 1 ≤ (a 3).2
        · by_cases c8 : (a 3).2 ≤ G.length
          · subst c6
            obtain ⟨j, hj⟩ : ∃ j : Nat, (a 3).2 - 1 = j := ⟨((a 3).2 - 1).toNat, by omega⟩
            have hjl : j < G.length := by omega
            obtain ⟨ivs, g1, g2, g3⟩ := hG.get
            obtain ⟨q, g4, g5⟩ := g3 j hjl
            have hwr : IntKind.i64.wrap ((a 3).2 - 1) = (j : Int) := by rw [w64]; omega
            have hq : (hasB a 3 1 w G) = decide (w ∈ G[j]) := by
              unfold hasB
              rw [if_neg (by omega), if_neg c3, if_pos ⟨c5, rfl, c7, c8⟩, hj]
              simp [List.getD_eq_getElem?_getD, hjl]
            have hmem : G[j].length ≤ 3 := hg _ (List.getElem_mem hjl)
            conv => enter [1]; whnf
            repeat' (first
              | refine Ends.some' ?_
              | (refine Ends.force ?_; conv => enter [1]; whnf)
              | (refine Ends.forceN ?_; conv => enter [1]; whnf)
              | (refine Ends.forceLs ?_; conv => enter [1]; whnf)
              | (refine Ends.opt (get_at g1 _) ?_; conv => enter [1]; whnf)
              | (refine Ends.opt (partSlAt g4 (by omega)) ?_; conv => enter [1]; whnf)
              | (refine Ends.call (scon_F mk k lo G[j] w q (by omega) (by omega) H [] (by rw [List.append_nil]; exact g5)) ?_; conv => enter [1]; whnf)
              | ((rw [hwr]; refine Ends.iteT (decide_eq_true (by omega)) ?_); conv => enter [1]; whnf)
              | (refine Ends.iteT (by first | with_reducible assumption | (simp [*]; done) | (apply decide_eq_true; omega) | fail "open") ?_; conv => enter [1]; whnf)
              | (refine Ends.iteF (by first | with_reducible assumption | (simp [*]; done) | (apply decide_eq_false; omega) | fail "open") ?_; conv => enter [1]; whnf)
              | (refine Ends.ite (fun h => ?_) (fun h => ?_) <;> (conv => enter [1]; whnf)))
            rw [hq]
            rfl
          · conv => enter [1]; whnf
            repeat' (first
              | refine Ends.some' ?_
              | (refine Ends.force ?_; conv => enter [1]; whnf)
              | (refine Ends.forceN ?_; conv => enter [1]; whnf)
              | (refine Ends.forceLs ?_; conv => enter [1]; whnf)
              | (refine Ends.iteT (by first | with_reducible assumption | (simp [*]; done) | (apply decide_eq_true; omega) | fail "open") ?_; conv => enter [1]; whnf)
              | (refine Ends.iteF (by first | with_reducible assumption | (simp [*]; done) | (apply decide_eq_false; omega) | fail "open") ?_; conv => enter [1]; whnf)
              | (refine Ends.ite (fun h => ?_) (fun h => ?_) <;> (conv => enter [1]; whnf)))
            all_goals first | (simp [hasB, c1, c2, c3, c5, c6, c7, c8]; done) | (simp_all [hasB]; done) | (simp_all [hasB]; omega)
        · conv => enter [1]; whnf
          repeat' (first
            | refine Ends.some' ?_
            | (refine Ends.force ?_; conv => enter [1]; whnf)
            | (refine Ends.forceN ?_; conv => enter [1]; whnf)
            | (refine Ends.forceLs ?_; conv => enter [1]; whnf)
            | (refine Ends.iteT (by first | with_reducible assumption | (simp [*]; done) | (apply decide_eq_true; omega) | fail "open") ?_; conv => enter [1]; whnf)
            | (refine Ends.iteF (by first | with_reducible assumption | (simp [*]; done) | (apply decide_eq_false; omega) | fail "open") ?_; conv => enter [1]; whnf)
            | (refine Ends.ite (fun h => ?_) (fun h => ?_) <;> (conv => enter [1]; whnf)))
          all_goals first | (simp [hasB, c1, c2, c3, c5, c6, c7]; done) | (simp_all [hasB]; done) | (simp_all [hasB]; omega)
      · conv => enter [1]; whnf
        repeat' (first
          | refine Ends.some' ?_
          | (refine Ends.force ?_; conv => enter [1]; whnf)
          | (refine Ends.forceN ?_; conv => enter [1]; whnf)
          | (refine Ends.forceLs ?_; conv => enter [1]; whnf)
          | (refine Ends.iteT (by first | with_reducible assumption | (simp [*]; done) | (apply decide_eq_true; omega) | fail "open") ?_; conv => enter [1]; whnf)
          | (refine Ends.iteF (by first | with_reducible assumption | (simp [*]; done) | (apply decide_eq_false; omega) | fail "open") ?_; conv => enter [1]; whnf)
          | (refine Ends.ite (fun h => ?_) (fun h => ?_) <;> (conv => enter [1]; whnf)))
        all_goals first | (simp [hasB, c1, c2, c3, c5, c6]; done) | (simp_all [hasB]; done) | (simp_all [hasB]; omega)
    · conv => enter [1]; whnf
      repeat' (first
        | refine Ends.some' ?_
        | (refine Ends.force ?_; conv => enter [1]; whnf)
        | (refine Ends.forceN ?_; conv => enter [1]; whnf)
        | (refine Ends.forceLs ?_; conv => enter [1]; whnf)
        | (refine Ends.iteT (by first | with_reducible assumption | (simp [*]; done) | (apply decide_eq_true; omega) | fail "open") ?_; conv => enter [1]; whnf)
        | (refine Ends.iteF (by first | with_reducible assumption | (simp [*]; done) | (apply decide_eq_false; omega) | fail "open") ?_; conv => enter [1]; whnf)
        | (refine Ends.ite (fun h => ?_) (fun h => ?_) <;> (conv => enter [1]; whnf)))
      all_goals first | (simp [hasB, c1, c2, c3, c5]; done) | (simp_all [hasB]; done) | (simp_all [hasB]; omega)
end Go.Proofs.Ytbkniomfegbdaaa.VM
