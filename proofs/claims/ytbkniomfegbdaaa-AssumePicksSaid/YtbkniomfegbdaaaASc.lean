/- What segment registers have, by the plain machine: what is told. -/
import Derived.Test.YtbkniomfegbdaaaASb
namespace Go.Proofs.Ytbkniomfegbdaaa.VM
open Go Go.RowKit
set_option linter.unusedVariables false
set_option linter.unusedSimpArgs false
set_option maxRecDepth 40000
set_option maxHeartbeats 1600000
def nearA (l : Nat → Int) (n : Nat) : Int × Int := ((l (2 * n) % 4).tmod 3, l (2 * n + 1) % 4)
theorem mem_take_succ {y : List Int} (w : Int) {i : Nat} (hi : i < y.length) : decide (w ∈ y.take (i + 1)) = (decide (w ∈ y.take i) || (y[i] == w)) := by
  rw [List.take_add_one, List.getElem?_eq_getElem hi, Bool.eq_iff_iff]
  simp only [Option.toList_some, List.mem_append, List.mem_singleton, decide_eq_true_eq, Bool.or_eq_true, beq_iff_eq]
  constructor
  · rintro (h | h)
    · exact .inl h
    · exact .inr h.symm
  · rintro (h | h)
    · exact .inl h
    · exact .inr h.symm
theorem lhas_F (mk : Mk) (k lo : Nat) (hk : 20 ≤ k) (l : Nat → Int) (n : Nat) (hn : n < 4) (x : VL) (H : List Blk) (b : Nat) (G : List (List Int)) (hG : HasG H b G) (hg : ∀ y ∈ G, y.length ≤ 3) (hGl : G.length ≤ 3) :
    FF mk k lo 8 [.agg (lL l), .int .i64 (n : Int), .agg (vL x), .sl (.hp b) 0 G.length 1] H = some (.bool (hasB (nearA l) n x.f x.w G), H) := by
  obtain ⟨k, rfl⟩ : ∃ m, k = m + 1 := ⟨k - 1, by omega⟩
  obtain ⟨vn, f, w, vt, vz, kn⟩ := x
  refine eq_of_ends ?_
  rcases (show n = 0 ∨ n = 1 ∨ n = 2 ∨ n = 3 by omega) with rfl | rfl | rfl | rfl
  · conv => enter [1]; whnf
    have hA : ((IntKind.i64.wrap ((BitVec.ofInt IntKind.i64.bits (l (2 * 0)) &&& BitVec.ofInt IntKind.i64.bits 3).toNat : Nat)).tmod 3) = (nearA l 0).1 := by rw [and64_3]; rfl
    have hB : (IntKind.i64.wrap ((BitVec.ofInt IntKind.i64.bits (l (2 * 0 + 1)) &&& BitVec.ofInt IntKind.i64.bits 3).toNat : Nat)) = (nearA l 0).2 := by rw [and64_3]; rfl
    replace hA : ((IntKind.i64.wrap ((BitVec.ofInt IntKind.i64.bits (l 0) &&& BitVec.ofInt IntKind.i64.bits 3).toNat : Nat)).tmod 3) = (nearA l 0).1 := hA
    replace hB : (IntKind.i64.wrap ((BitVec.ofInt IntKind.i64.bits (l 1) &&& BitVec.ofInt IntKind.i64.bits 3).toNat : Nat)) = (nearA l 0).2 := hB
    rw [hA, hB]
    generalize nearA l = a at *
    clear hA hB
    by_cases c1 : (a 0).1 = 0
    · skip
      repeat' (first
        | refine Ends.some' ?_
        | (refine Ends.force ?_; conv => enter [1]; whnf)
        | (refine Ends.forceN ?_; conv => enter [1]; whnf)
        | (refine Ends.forceLs ?_; conv => enter [1]; whnf)
        | (refine Ends.iteT (by first | with_reducible assumption | (simp [*]; done) | (apply decide_eq_true; omega) | fail "open") ?_; conv => enter [1]; whnf)
        | (refine Ends.iteF (by first | with_reducible assumption | (simp [*]; done) | (apply decide_eq_false; omega) | fail "open") ?_; conv => enter [1]; whnf)
        | (refine Ends.ite (fun h => ?_) (fun h => ?_) <;> (conv => enter [1]; whnf)))
      all_goals first | (simp [hasB, c1]; done) | (simp_all [hasB]; done)
    by_cases c2 : f = 0
    · skip
      repeat' (first
        | refine Ends.some' ?_
        | (refine Ends.force ?_; conv => enter [1]; whnf)
        | (refine Ends.forceN ?_; conv => enter [1]; whnf)
        | (refine Ends.forceLs ?_; conv => enter [1]; whnf)
        | (refine Ends.iteT (by first | with_reducible assumption | (simp [*]; done) | (apply decide_eq_true; omega) | fail "open") ?_; conv => enter [1]; whnf)
        | (refine Ends.iteF (by first | with_reducible assumption | (simp [*]; done) | (apply decide_eq_false; omega) | fail "open") ?_; conv => enter [1]; whnf)
        | (refine Ends.ite (fun h => ?_) (fun h => ?_) <;> (conv => enter [1]; whnf)))
      all_goals first | (simp [hasB, c1, c2]; done) | (simp_all [hasB]; done)
    by_cases c3 : (a 0).1 = f ∧ (a 0).2 = w
    · obtain ⟨c3, c4⟩ := c3
      repeat' (first
        | refine Ends.some' ?_
        | (refine Ends.force ?_; conv => enter [1]; whnf)
        | (refine Ends.forceN ?_; conv => enter [1]; whnf)
        | (refine Ends.forceLs ?_; conv => enter [1]; whnf)
        | (refine Ends.iteT (by first | with_reducible assumption | (simp [*]; done) | (apply decide_eq_true; omega) | fail "open") ?_; conv => enter [1]; whnf)
        | (refine Ends.iteF (by first | with_reducible assumption | (simp [*]; done) | (apply decide_eq_false; omega) | fail "open") ?_; conv => enter [1]; whnf)
        | (refine Ends.ite (fun h => ?_) (fun h => ?_) <;> (conv => enter [1]; whnf)))
      all_goals first | (simp [hasB, c1, c2, c3, c4]; done) | (simp_all [hasB]; done)
    by_cases c5 : (a 0).1 = 2
    · by_cases c6 : f = 1
      · by_cases c7 : 1 ≤ (a 0).2
        · by_cases c8 : (a 0).2 ≤ G.length
          · subst c6
            obtain ⟨j, hj⟩ : ∃ j : Nat, (a 0).2 - 1 = j := ⟨((a 0).2 - 1).toNat, by omega⟩
            have hjl : j < G.length := by omega
            obtain ⟨ivs, g1, g2, g3⟩ := hG.get
            obtain ⟨q, g4, g5⟩ := g3 j hjl
            have hwr : IntKind.i64.wrap ((a 0).2 - 1) = (j : Int) := by rw [w64]; omega
            have hq : (hasB a 0 1 w G) = decide (w ∈ G[j]) := by
              unfold hasB
              rw [if_neg (by omega), if_neg c3, if_pos ⟨c5, rfl, c7, c8⟩, hj]
              simp [List.getD_eq_getElem?_getD, hjl]
            have hmem : G[j].length ≤ 3 := hg _ (List.getElem_mem hjl)
            repeat' (first
              | refine Ends.some' ?_
              | (refine Ends.force ?_; conv => enter [1]; whnf)
              | (refine Ends.forceN ?_; conv => enter [1]; whnf)
              | (refine Ends.forceLs ?_; conv => enter [1]; whnf)
              | (refine Ends.iteT (by first | with_reducible assumption | (simp [*]; done) | (apply decide_eq_true; omega) | fail "open") ?_; conv => enter [1]; whnf)
              | (refine Ends.iteF (by first | with_reducible assumption | (simp [*]; done) | (apply decide_eq_false; omega) | fail "open") ?_; conv => enter [1]; whnf)
              | (refine Ends.ite (fun h => ?_) (fun h => ?_) <;> (conv => enter [1]; whnf)))
            refine Ends.loop (fun m T M => ∃ i : Nat, i ≤ G[j].length ∧ G[j].length - i < m ∧ T = [.undef, .undef, .undef, .sl (.hp b) 0 G.length 1, .undef, .undef, .ptr (.lo 1) 0, .undef, .undef, .undef, .int .i64 (a 0).2, .bool (decide (w ∈ G[j].take i)), .int .i64 (i : Int), .undef, .undef, .undef, .undef, .undef, .undef, .undef, .undef, .undef, .undef, .undef, .undef, .undef, .undef, .undef, .undef, .undef, .undef, .undef, .undef, .undef, .undef, .undef, .undef, .undef, .undef, .undef, .undef, .undef, .undef, .undef, .undef, .undef, .undef, .undef, .undef, .undef, .undef, .undef, .undef, .undef, .undef, .undef, .undef, .undef, .undef, .undef, .undef, .undef, .undef, .undef, .undef, .undef, .undef, .undef, .undef, .undef, .undef, .undef, .undef, .undef, .undef, .undef, .undef, .undef, .undef, .undef, .undef, .undef, .undef, .undef] ∧ M = ⟨[lL l, vL ⟨vn, 1, w, vt, vz, kn⟩], H⟩) (fun T M ⟨i, _, h, _⟩ => by omega) ?_ _ _ ⟨0, by omega, by omega, rfl, rfl⟩
            rintro m T M L ⟨i, i1, i2, rfl, rfl⟩ hL
            conv => enter [1]; whnf
            refine Ends.iteT (by rw [hwr]; exact decide_eq_true (by omega)) ?_
            conv => enter [1]; whnf
            refine Ends.opt (get_at g1 _) ?_
            conv => enter [1]; whnf
            refine Ends.opt (partSlAt g4 (by rw [hwr]; omega)) ?_
            conv => enter [1]; whnf
            refine Ends.ite (fun hcc => ?_) (fun hcc => ?_) <;> (conv => enter [1]; whnf)
            · have hi : i < G[j].length := by have := of_decide_eq_true hcc; omega
              have ht := mem_take_succ w hi
              have e3 : IntKind.i64.wrap ((i : Int) + 1) = ((i + 1 : Nat) : Int) := by rw [w64]; omega
              cases hm : decide (w ∈ G[j].take i)
              · conv => enter [1]; whnf
                refine Ends.iteT (by rw [hwr]; exact decide_eq_true (by omega)) ?_
                conv => enter [1]; whnf
                refine Ends.opt (get_at g1 _) ?_
                conv => enter [1]; whnf
                refine Ends.opt (partSlAt g4 (by rw [hwr]; omega)) ?_
                conv => enter [1]; whnf
                refine Ends.iteT (decide_eq_true (by omega)) ?_
                conv => enter [1]; whnf
                refine Ends.opt (get_at g5 _) ?_
                conv => enter [1]; whnf
                refine Ends.opt (partInt (getAt_iV' i hi (by omega))) ?_
                conv => enter [1]; whnf
                rw [hm, Bool.false_or] at ht
                refine hL _ ⟨i + 1, by omega, by omega, ?_, rfl⟩
                rw [← e3, ht]
                rfl
              · conv => enter [1]; whnf
                rw [hm, Bool.true_or] at ht
                refine hL _ ⟨i + 1, by omega, by omega, ?_, rfl⟩
                rw [← e3, ht]
                rfl
            · have hi : i = G[j].length := by have := of_decide_eq_false hcc; omega
              refine Ends.some' ?_
              rw [hq, hi, List.take_length]
          · skip
            repeat' (first
              | refine Ends.some' ?_
              | (refine Ends.force ?_; conv => enter [1]; whnf)
              | (refine Ends.forceN ?_; conv => enter [1]; whnf)
              | (refine Ends.forceLs ?_; conv => enter [1]; whnf)
              | (refine Ends.iteT (by first | with_reducible assumption | (simp [*]; done) | (apply decide_eq_true; omega) | fail "open") ?_; conv => enter [1]; whnf)
              | (refine Ends.iteF (by first | with_reducible assumption | (simp [*]; done) | (apply decide_eq_false; omega) | fail "open") ?_; conv => enter [1]; whnf)
              | (refine Ends.ite (fun h => ?_) (fun h => ?_) <;> (conv => enter [1]; whnf)))
            all_goals first | (simp [hasB, c1, c2, c3, c5, c6, c7, c8]; done) | (simp_all [hasB]; done) | (simp_all [hasB]; omega)
        · skip
          repeat' (first
            | refine Ends.some' ?_
            | (refine Ends.force ?_; conv => enter [1]; whnf)
            | (refine Ends.forceN ?_; conv => enter [1]; whnf)
            | (refine Ends.forceLs ?_; conv => enter [1]; whnf)
            | (refine Ends.iteT (by first | with_reducible assumption | (simp [*]; done) | (apply decide_eq_true; omega) | fail "open") ?_; conv => enter [1]; whnf)
            | (refine Ends.iteF (by first | with_reducible assumption | (simp [*]; done) | (apply decide_eq_false; omega) | fail "open") ?_; conv => enter [1]; whnf)
            | (refine Ends.ite (fun h => ?_) (fun h => ?_) <;> (conv => enter [1]; whnf)))
          all_goals first | (simp [hasB, c1, c2, c3, c5, c6, c7]; done) | (simp_all [hasB]; done) | (simp_all [hasB]; omega)
      · skip
        repeat' (first
          | refine Ends.some' ?_
          | (refine Ends.force ?_; conv => enter [1]; whnf)
          | (refine Ends.forceN ?_; conv => enter [1]; whnf)
          | (refine Ends.forceLs ?_; conv => enter [1]; whnf)
          | (refine Ends.iteT (by first | with_reducible assumption | (simp [*]; done) | (apply decide_eq_true; omega) | fail "open") ?_; conv => enter [1]; whnf)
          | (refine Ends.iteF (by first | with_reducible assumption | (simp [*]; done) | (apply decide_eq_false; omega) | fail "open") ?_; conv => enter [1]; whnf)
          | (refine Ends.ite (fun h => ?_) (fun h => ?_) <;> (conv => enter [1]; whnf)))
        all_goals first | (simp [hasB, c1, c2, c3, c5, c6]; done) | (simp_all [hasB]; done) | (simp_all [hasB]; omega)
    · skip
      repeat' (first
        | refine Ends.some' ?_
        | (refine Ends.force ?_; conv => enter [1]; whnf)
        | (refine Ends.forceN ?_; conv => enter [1]; whnf)
        | (refine Ends.forceLs ?_; conv => enter [1]; whnf)
        | (refine Ends.iteT (by first | with_reducible assumption | (simp [*]; done) | (apply decide_eq_true; omega) | fail "open") ?_; conv => enter [1]; whnf)
        | (refine Ends.iteF (by first | with_reducible assumption | (simp [*]; done) | (apply decide_eq_false; omega) | fail "open") ?_; conv => enter [1]; whnf)
        | (refine Ends.ite (fun h => ?_) (fun h => ?_) <;> (conv => enter [1]; whnf)))
      all_goals first | (simp [hasB, c1, c2, c3, c5]; done) | (simp_all [hasB]; done) | (simp_all [hasB]; omega)
  · conv => enter [1]; whnf
    have hA : ((IntKind.i64.wrap ((BitVec.ofInt IntKind.i64.bits (l (2 * 1)) &&& BitVec.ofInt IntKind.i64.bits 3).toNat : Nat)).tmod 3) = (nearA l 1).1 := by rw [and64_3]; rfl
    have hB : (IntKind.i64.wrap ((BitVec.ofInt IntKind.i64.bits (l (2 * 1 + 1)) &&& BitVec.ofInt IntKind.i64.bits 3).toNat : Nat)) = (nearA l 1).2 := by rw [and64_3]; rfl
    replace hA : ((IntKind.i64.wrap ((BitVec.ofInt IntKind.i64.bits (l 2) &&& BitVec.ofInt IntKind.i64.bits 3).toNat : Nat)).tmod 3) = (nearA l 1).1 := hA
    replace hB : (IntKind.i64.wrap ((BitVec.ofInt IntKind.i64.bits (l 3) &&& BitVec.ofInt IntKind.i64.bits 3).toNat : Nat)) = (nearA l 1).2 := hB
    rw [hA, hB]
    generalize nearA l = a at *
    clear hA hB
    by_cases c1 : (a 1).1 = 0
    · skip
      repeat' (first
        | refine Ends.some' ?_
        | (refine Ends.force ?_; conv => enter [1]; whnf)
        | (refine Ends.forceN ?_; conv => enter [1]; whnf)
        | (refine Ends.forceLs ?_; conv => enter [1]; whnf)
        | (refine Ends.iteT (by first | with_reducible assumption | (simp [*]; done) | (apply decide_eq_true; omega) | fail "open") ?_; conv => enter [1]; whnf)
        | (refine Ends.iteF (by first | with_reducible assumption | (simp [*]; done) | (apply decide_eq_false; omega) | fail "open") ?_; conv => enter [1]; whnf)
        | (refine Ends.ite (fun h => ?_) (fun h => ?_) <;> (conv => enter [1]; whnf)))
      all_goals first | (simp [hasB, c1]; done) | (simp_all [hasB]; done)
    by_cases c2 : f = 0
    · skip
      repeat' (first
        | refine Ends.some' ?_
        | (refine Ends.force ?_; conv => enter [1]; whnf)
        | (refine Ends.forceN ?_; conv => enter [1]; whnf)
        | (refine Ends.forceLs ?_; conv => enter [1]; whnf)
        | (refine Ends.iteT (by first | with_reducible assumption | (simp [*]; done) | (apply decide_eq_true; omega) | fail "open") ?_; conv => enter [1]; whnf)
        | (refine Ends.iteF (by first | with_reducible assumption | (simp [*]; done) | (apply decide_eq_false; omega) | fail "open") ?_; conv => enter [1]; whnf)
        | (refine Ends.ite (fun h => ?_) (fun h => ?_) <;> (conv => enter [1]; whnf)))
      all_goals first | (simp [hasB, c1, c2]; done) | (simp_all [hasB]; done)
    by_cases c3 : (a 1).1 = f ∧ (a 1).2 = w
    · obtain ⟨c3, c4⟩ := c3
      repeat' (first
        | refine Ends.some' ?_
        | (refine Ends.force ?_; conv => enter [1]; whnf)
        | (refine Ends.forceN ?_; conv => enter [1]; whnf)
        | (refine Ends.forceLs ?_; conv => enter [1]; whnf)
        | (refine Ends.iteT (by first | with_reducible assumption | (simp [*]; done) | (apply decide_eq_true; omega) | fail "open") ?_; conv => enter [1]; whnf)
        | (refine Ends.iteF (by first | with_reducible assumption | (simp [*]; done) | (apply decide_eq_false; omega) | fail "open") ?_; conv => enter [1]; whnf)
        | (refine Ends.ite (fun h => ?_) (fun h => ?_) <;> (conv => enter [1]; whnf)))
      all_goals first | (simp [hasB, c1, c2, c3, c4]; done) | (simp_all [hasB]; done)
    by_cases c5 : (a 1).1 = 2
    · by_cases c6 : f = 1
      · by_cases c7 : 1 ≤ (a 1).2
        · by_cases c8 : (a 1).2 ≤ G.length
          · subst c6
            obtain ⟨j, hj⟩ : ∃ j : Nat, (a 1).2 - 1 = j := ⟨((a 1).2 - 1).toNat, by omega⟩
            have hjl : j < G.length := by omega
            obtain ⟨ivs, g1, g2, g3⟩ := hG.get
            obtain ⟨q, g4, g5⟩ := g3 j hjl
            have hwr : IntKind.i64.wrap ((a 1).2 - 1) = (j : Int) := by rw [w64]; omega
            have hq : (hasB a 1 1 w G) = decide (w ∈ G[j]) := by
              unfold hasB
              rw [if_neg (by omega), if_neg c3, if_pos ⟨c5, rfl, c7, c8⟩, hj]
              simp [List.getD_eq_getElem?_getD, hjl]
            have hmem : G[j].length ≤ 3 := hg _ (List.getElem_mem hjl)
            repeat' (first
              | refine Ends.some' ?_
              | (refine Ends.force ?_; conv => enter [1]; whnf)
              | (refine Ends.forceN ?_; conv => enter [1]; whnf)
              | (refine Ends.forceLs ?_; conv => enter [1]; whnf)
              | (refine Ends.iteT (by first | with_reducible assumption | (simp [*]; done) | (apply decide_eq_true; omega) | fail "open") ?_; conv => enter [1]; whnf)
              | (refine Ends.iteF (by first | with_reducible assumption | (simp [*]; done) | (apply decide_eq_false; omega) | fail "open") ?_; conv => enter [1]; whnf)
              | (refine Ends.ite (fun h => ?_) (fun h => ?_) <;> (conv => enter [1]; whnf)))
            refine Ends.loop (fun m T M => ∃ i : Nat, i ≤ G[j].length ∧ G[j].length - i < m ∧ T = [.undef, .undef, .undef, .sl (.hp b) 0 G.length 1, .undef, .undef, .ptr (.lo 1) 0, .undef, .undef, .undef, .int .i64 (a 1).2, .bool (decide (w ∈ G[j].take i)), .int .i64 (i : Int), .undef, .undef, .undef, .undef, .undef, .undef, .undef, .undef, .undef, .undef, .undef, .undef, .undef, .undef, .undef, .undef, .undef, .undef, .undef, .undef, .undef, .undef, .undef, .undef, .undef, .undef, .undef, .undef, .undef, .undef, .undef, .undef, .undef, .undef, .undef, .undef, .undef, .undef, .undef, .undef, .undef, .undef, .undef, .undef, .undef, .undef, .undef, .undef, .undef, .undef, .undef, .undef, .undef, .undef, .undef, .undef, .undef, .undef, .undef, .undef, .undef, .undef, .undef, .undef, .undef, .undef, .undef, .undef, .undef, .undef, .undef] ∧ M = ⟨[lL l, vL ⟨vn, 1, w, vt, vz, kn⟩], H⟩) (fun T M ⟨i, _, h, _⟩ => by omega) ?_ _ _ ⟨0, by omega, by omega, rfl, rfl⟩
            rintro m T M L ⟨i, i1, i2, rfl, rfl⟩ hL
            conv => enter [1]; whnf
            refine Ends.iteT (by rw [hwr]; exact decide_eq_true (by omega)) ?_
            conv => enter [1]; whnf
            refine Ends.opt (get_at g1 _) ?_
            conv => enter [1]; whnf
            refine Ends.opt (partSlAt g4 (by rw [hwr]; omega)) ?_
            conv => enter [1]; whnf
            refine Ends.ite (fun hcc => ?_) (fun hcc => ?_) <;> (conv => enter [1]; whnf)
            · have hi : i < G[j].length := by have := of_decide_eq_true hcc; omega
              have ht := mem_take_succ w hi
              have e3 : IntKind.i64.wrap ((i : Int) + 1) = ((i + 1 : Nat) : Int) := by rw [w64]; omega
              cases hm : decide (w ∈ G[j].take i)
              · conv => enter [1]; whnf
                refine Ends.iteT (by rw [hwr]; exact decide_eq_true (by omega)) ?_
                conv => enter [1]; whnf
                refine Ends.opt (get_at g1 _) ?_
                conv => enter [1]; whnf
                refine Ends.opt (partSlAt g4 (by rw [hwr]; omega)) ?_
                conv => enter [1]; whnf
                refine Ends.iteT (decide_eq_true (by omega)) ?_
                conv => enter [1]; whnf
                refine Ends.opt (get_at g5 _) ?_
                conv => enter [1]; whnf
                refine Ends.opt (partInt (getAt_iV' i hi (by omega))) ?_
                conv => enter [1]; whnf
                rw [hm, Bool.false_or] at ht
                refine hL _ ⟨i + 1, by omega, by omega, ?_, rfl⟩
                rw [← e3, ht]
                rfl
              · conv => enter [1]; whnf
                rw [hm, Bool.true_or] at ht
                refine hL _ ⟨i + 1, by omega, by omega, ?_, rfl⟩
                rw [← e3, ht]
                rfl
            · have hi : i = G[j].length := by have := of_decide_eq_false hcc; omega
              refine Ends.some' ?_
              rw [hq, hi, List.take_length]
          · skip
            repeat' (first
              | refine Ends.some' ?_
              | (refine Ends.force ?_; conv => enter [1]; whnf)
              | (refine Ends.forceN ?_; conv => enter [1]; whnf)
              | (refine Ends.forceLs ?_; conv => enter [1]; whnf)
              | (refine Ends.iteT (by first | with_reducible assumption | (simp [*]; done) | (apply decide_eq_true; omega) | fail "open") ?_; conv => enter [1]; whnf)
              | (refine Ends.iteF (by first | with_reducible assumption | (simp [*]; done) | (apply decide_eq_false; omega) | fail "open") ?_; conv => enter [1]; whnf)
              | (refine Ends.ite (fun h => ?_) (fun h => ?_) <;> (conv => enter [1]; whnf)))
            all_goals first | (simp [hasB, c1, c2, c3, c5, c6, c7, c8]; done) | (simp_all [hasB]; done) | (simp_all [hasB]; omega)
        · skip
          repeat' (first
            | refine Ends.some' ?_
            | (refine Ends.force ?_; conv => enter [1]; whnf)
            | (refine Ends.forceN ?_; conv => enter [1]; whnf)
            | (refine Ends.forceLs ?_; conv => enter [1]; whnf)
            | (refine Ends.iteT (by first | with_reducible assumption | (simp [*]; done) | (apply decide_eq_true; omega) | fail "open") ?_; conv => enter [1]; whnf)
            | (refine Ends.iteF (by first | with_reducible assumption | (simp [*]; done) | (apply decide_eq_false; omega) | fail "open") ?_; conv => enter [1]; whnf)
            | (refine Ends.ite (fun h => ?_) (fun h => ?_) <;> (conv => enter [1]; whnf)))
          all_goals first | (simp [hasB, c1, c2, c3, c5, c6, c7]; done) | (simp_all [hasB]; done) | (simp_all [hasB]; omega)
      · skip
        repeat' (first
          | refine Ends.some' ?_
          | (refine Ends.force ?_; conv => enter [1]; whnf)
          | (refine Ends.forceN ?_; conv => enter [1]; whnf)
          | (refine Ends.forceLs ?_; conv => enter [1]; whnf)
          | (refine Ends.iteT (by first | with_reducible assumption | (simp [*]; done) | (apply decide_eq_true; omega) | fail "open") ?_; conv => enter [1]; whnf)
          | (refine Ends.iteF (by first | with_reducible assumption | (simp [*]; done) | (apply decide_eq_false; omega) | fail "open") ?_; conv => enter [1]; whnf)
          | (refine Ends.ite (fun h => ?_) (fun h => ?_) <;> (conv => enter [1]; whnf)))
        all_goals first | (simp [hasB, c1, c2, c3, c5, c6]; done) | (simp_all [hasB]; done) | (simp_all [hasB]; omega)
    · skip
      repeat' (first
        | refine Ends.some' ?_
        | (refine Ends.force ?_; conv => enter [1]; whnf)
        | (refine Ends.forceN ?_; conv => enter [1]; whnf)
        | (refine Ends.forceLs ?_; conv => enter [1]; whnf)
        | (refine Ends.iteT (by first | with_reducible assumption | (simp [*]; done) | (apply decide_eq_true; omega) | fail "open") ?_; conv => enter [1]; whnf)
        | (refine Ends.iteF (by first | with_reducible assumption | (simp [*]; done) | (apply decide_eq_false; omega) | fail "open") ?_; conv => enter [1]; whnf)
        | (refine Ends.ite (fun h => ?_) (fun h => ?_) <;> (conv => enter [1]; whnf)))
      all_goals first | (simp [hasB, c1, c2, c3, c5]; done) | (simp_all [hasB]; done) | (simp_all [hasB]; omega)
  · conv => enter [1]; whnf
    have hA : ((IntKind.i64.wrap ((BitVec.ofInt IntKind.i64.bits (l (2 * 2)) &&& BitVec.ofInt IntKind.i64.bits 3).toNat : Nat)).tmod 3) = (nearA l 2).1 := by rw [and64_3]; rfl
    have hB : (IntKind.i64.wrap ((BitVec.ofInt IntKind.i64.bits (l (2 * 2 + 1)) &&& BitVec.ofInt IntKind.i64.bits 3).toNat : Nat)) = (nearA l 2).2 := by rw [and64_3]; rfl
    replace hA : ((IntKind.i64.wrap ((BitVec.ofInt IntKind.i64.bits (l 4) &&& BitVec.ofInt IntKind.i64.bits 3).toNat : Nat)).tmod 3) = (nearA l 2).1 := hA
    replace hB : (IntKind.i64.wrap ((BitVec.ofInt IntKind.i64.bits (l 5) &&& BitVec.ofInt IntKind.i64.bits 3).toNat : Nat)) = (nearA l 2).2 := hB
    rw [hA, hB]
    generalize nearA l = a at *
    clear hA hB
    by_cases c1 : (a 2).1 = 0
    · skip
      repeat' (first
        | refine Ends.some' ?_
        | (refine Ends.force ?_; conv => enter [1]; whnf)
        | (refine Ends.forceN ?_; conv => enter [1]; whnf)
        | (refine Ends.forceLs ?_; conv => enter [1]; whnf)
        | (refine Ends.iteT (by first | with_reducible assumption | (simp [*]; done) | (apply decide_eq_true; omega) | fail "open") ?_; conv => enter [1]; whnf)
        | (refine Ends.iteF (by first | with_reducible assumption | (simp [*]; done) | (apply decide_eq_false; omega) | fail "open") ?_; conv => enter [1]; whnf)
        | (refine Ends.ite (fun h => ?_) (fun h => ?_) <;> (conv => enter [1]; whnf)))
      all_goals first | (simp [hasB, c1]; done) | (simp_all [hasB]; done)
    by_cases c2 : f = 0
    · skip
      repeat' (first
        | refine Ends.some' ?_
        | (refine Ends.force ?_; conv => enter [1]; whnf)
        | (refine Ends.forceN ?_; conv => enter [1]; whnf)
        | (refine Ends.forceLs ?_; conv => enter [1]; whnf)
        | (refine Ends.iteT (by first | with_reducible assumption | (simp [*]; done) | (apply decide_eq_true; omega) | fail "open") ?_; conv => enter [1]; whnf)
        | (refine Ends.iteF (by first | with_reducible assumption | (simp [*]; done) | (apply decide_eq_false; omega) | fail "open") ?_; conv => enter [1]; whnf)
        | (refine Ends.ite (fun h => ?_) (fun h => ?_) <;> (conv => enter [1]; whnf)))
      all_goals first | (simp [hasB, c1, c2]; done) | (simp_all [hasB]; done)
    by_cases c3 : (a 2).1 = f ∧ (a 2).2 = w
    · obtain ⟨c3, c4⟩ := c3
      repeat' (first
        | refine Ends.some' ?_
        | (refine Ends.force ?_; conv => enter [1]; whnf)
        | (refine Ends.forceN ?_; conv => enter [1]; whnf)
        | (refine Ends.forceLs ?_; conv => enter [1]; whnf)
        | (refine Ends.iteT (by first | with_reducible assumption | (simp [*]; done) | (apply decide_eq_true; omega) | fail "open") ?_; conv => enter [1]; whnf)
        | (refine Ends.iteF (by first | with_reducible assumption | (simp [*]; done) | (apply decide_eq_false; omega) | fail "open") ?_; conv => enter [1]; whnf)
        | (refine Ends.ite (fun h => ?_) (fun h => ?_) <;> (conv => enter [1]; whnf)))
      all_goals first | (simp [hasB, c1, c2, c3, c4]; done) | (simp_all [hasB]; done)
    by_cases c5 : (a 2).1 = 2
    · by_cases c6 : f = 1
      · by_cases c7 : 1 ≤ (a 2).2
        · by_cases c8 : (a 2).2 ≤ G.length
          · subst c6
            obtain ⟨j, hj⟩ : ∃ j : Nat, (a 2).2 - 1 = j := ⟨((a 2).2 - 1).toNat, by omega⟩
            have hjl : j < G.length := by omega
            obtain ⟨ivs, g1, g2, g3⟩ := hG.get
            obtain ⟨q, g4, g5⟩ := g3 j hjl
            have hwr : IntKind.i64.wrap ((a 2).2 - 1) = (j : Int) := by rw [w64]; omega
            have hq : (hasB a 2 1 w G) = decide (w ∈ G[j]) := by
              unfold hasB
              rw [if_neg (by omega), if_neg c3, if_pos ⟨c5, rfl, c7, c8⟩, hj]
              simp [List.getD_eq_getElem?_getD, hjl]
            have hmem : G[j].length ≤ 3 := hg _ (List.getElem_mem hjl)
            repeat' (first
              | refine Ends.some' ?_
              | (refine Ends.force ?_; conv => enter [1]; whnf)
              | (refine Ends.forceN ?_; conv => enter [1]; whnf)
              | (refine Ends.forceLs ?_; conv => enter [1]; whnf)
              | (refine Ends.iteT (by first | with_reducible assumption | (simp [*]; done) | (apply decide_eq_true; omega) | fail "open") ?_; conv => enter [1]; whnf)
              | (refine Ends.iteF (by first | with_reducible assumption | (simp [*]; done) | (apply decide_eq_false; omega) | fail "open") ?_; conv => enter [1]; whnf)
              | (refine Ends.ite (fun h => ?_) (fun h => ?_) <;> (conv => enter [1]; whnf)))
            refine Ends.loop (fun m T M => ∃ i : Nat, i ≤ G[j].length ∧ G[j].length - i < m ∧ T = [.undef, .undef, .undef, .sl (.hp b) 0 G.length 1, .undef, .undef, .ptr (.lo 1) 0, .undef, .undef, .undef, .int .i64 (a 2).2, .bool (decide (w ∈ G[j].take i)), .int .i64 (i : Int), .undef, .undef, .undef, .undef, .undef, .undef, .undef, .undef, .undef, .undef, .undef, .undef, .undef, .undef, .undef, .undef, .undef, .undef, .undef, .undef, .undef, .undef, .undef, .undef, .undef, .undef, .undef, .undef, .undef, .undef, .undef, .undef, .undef, .undef, .undef, .undef, .undef, .undef, .undef, .undef, .undef, .undef, .undef, .undef, .undef, .undef, .undef, .undef, .undef, .undef, .undef, .undef, .undef, .undef, .undef, .undef, .undef, .undef, .undef, .undef, .undef, .undef, .undef, .undef, .undef, .undef, .undef, .undef, .undef, .undef, .undef] ∧ M = ⟨[lL l, vL ⟨vn, 1, w, vt, vz, kn⟩], H⟩) (fun T M ⟨i, _, h, _⟩ => by omega) ?_ _ _ ⟨0, by omega, by omega, rfl, rfl⟩
            rintro m T M L ⟨i, i1, i2, rfl, rfl⟩ hL
            conv => enter [1]; whnf
            refine Ends.iteT (by rw [hwr]; exact decide_eq_true (by omega)) ?_
            conv => enter [1]; whnf
            refine Ends.opt (get_at g1 _) ?_
            conv => enter [1]; whnf
            refine Ends.opt (partSlAt g4 (by rw [hwr]; omega)) ?_
            conv => enter [1]; whnf
            refine Ends.ite (fun hcc => ?_) (fun hcc => ?_) <;> (conv => enter [1]; whnf)
            · have hi : i < G[j].length := by have := of_decide_eq_true hcc; omega
              have ht := mem_take_succ w hi
              have e3 : IntKind.i64.wrap ((i : Int) + 1) = ((i + 1 : Nat) : Int) := by rw [w64]; omega
              cases hm : decide (w ∈ G[j].take i)
              · conv => enter [1]; whnf
                refine Ends.iteT (by rw [hwr]; exact decide_eq_true (by omega)) ?_
                conv => enter [1]; whnf
                refine Ends.opt (get_at g1 _) ?_
                conv => enter [1]; whnf
                refine Ends.opt (partSlAt g4 (by rw [hwr]; omega)) ?_
                conv => enter [1]; whnf
                refine Ends.iteT (decide_eq_true (by omega)) ?_
                conv => enter [1]; whnf
                refine Ends.opt (get_at g5 _) ?_
                conv => enter [1]; whnf
                refine Ends.opt (partInt (getAt_iV' i hi (by omega))) ?_
                conv => enter [1]; whnf
                rw [hm, Bool.false_or] at ht
                refine hL _ ⟨i + 1, by omega, by omega, ?_, rfl⟩
                rw [← e3, ht]
                rfl
              · conv => enter [1]; whnf
                rw [hm, Bool.true_or] at ht
                refine hL _ ⟨i + 1, by omega, by omega, ?_, rfl⟩
                rw [← e3, ht]
                rfl
            · have hi : i = G[j].length := by have := of_decide_eq_false hcc; omega
              refine Ends.some' ?_
              rw [hq, hi, List.take_length]
          · skip
            repeat' (first
              | refine Ends.some' ?_
              | (refine Ends.force ?_; conv => enter [1]; whnf)
              | (refine Ends.forceN ?_; conv => enter [1]; whnf)
              | (refine Ends.forceLs ?_; conv => enter [1]; whnf)
              | (refine Ends.iteT (by first | with_reducible assumption | (simp [*]; done) | (apply decide_eq_true; omega) | fail "open") ?_; conv => enter [1]; whnf)
              | (refine Ends.iteF (by first | with_reducible assumption | (simp [*]; done) | (apply decide_eq_false; omega) | fail "open") ?_; conv => enter [1]; whnf)
              | (refine Ends.ite (fun h => ?_) (fun h => ?_) <;> (conv => enter [1]; whnf)))
            all_goals first | (simp [hasB, c1, c2, c3, c5, c6, c7, c8]; done) | (simp_all [hasB]; done) | (simp_all [hasB]; omega)
        · skip
          repeat' (first
            | refine Ends.some' ?_
            | (refine Ends.force ?_; conv => enter [1]; whnf)
            | (refine Ends.forceN ?_; conv => enter [1]; whnf)
            | (refine Ends.forceLs ?_; conv => enter [1]; whnf)
            | (refine Ends.iteT (by first | with_reducible assumption | (simp [*]; done) | (apply decide_eq_true; omega) | fail "open") ?_; conv => enter [1]; whnf)
            | (refine Ends.iteF (by first | with_reducible assumption | (simp [*]; done) | (apply decide_eq_false; omega) | fail "open") ?_; conv => enter [1]; whnf)
            | (refine Ends.ite (fun h => ?_) (fun h => ?_) <;> (conv => enter [1]; whnf)))
          all_goals first | (simp [hasB, c1, c2, c3, c5, c6, c7]; done) | (simp_all [hasB]; done) | (simp_all [hasB]; omega)
      · skip
        repeat' (first
          | refine Ends.some' ?_
          | (refine Ends.force ?_; conv => enter [1]; whnf)
          | (refine Ends.forceN ?_; conv => enter [1]; whnf)
          | (refine Ends.forceLs ?_; conv => enter [1]; whnf)
          | (refine Ends.iteT (by first | with_reducible assumption | (simp [*]; done) | (apply decide_eq_true; omega) | fail "open") ?_; conv => enter [1]; whnf)
          | (refine Ends.iteF (by first | with_reducible assumption | (simp [*]; done) | (apply decide_eq_false; omega) | fail "open") ?_; conv => enter [1]; whnf)
          | (refine Ends.ite (fun h => ?_) (fun h => ?_) <;> (conv => enter [1]; whnf)))
        all_goals first | (simp [hasB, c1, c2, c3, c5, c6]; done) | (simp_all [hasB]; done) | (simp_all [hasB]; omega)
    · skip
      repeat' (first
        | refine Ends.some' ?_
        | (refine Ends.force ?_; conv => enter [1]; whnf)
        | (refine Ends.forceN ?_; conv => enter [1]; whnf)
        | (refine Ends.forceLs ?_; conv => enter [1]; whnf)
        | (refine Ends.iteT (by first | with_reducible assumption | (simp [*]; done) | (apply decide_eq_true; omega) | fail "open") ?_; conv => enter [1]; whnf)
        | (refine Ends.iteF (by first | with_reducible assumption | (simp [*]; done) | (apply decide_eq_false; omega) | fail "open") ?_; conv => enter [1]; whnf)
        | (refine Ends.ite (fun h => ?_) (fun h => ?_) <;> (conv => enter [1]; whnf)))
      all_goals first | (simp [hasB, c1, c2, c3, c5]; done) | (simp_all [hasB]; done) | (simp_all [hasB]; omega)
  · conv => enter [1]; whnf
    have hA : ((IntKind.i64.wrap ((BitVec.ofInt IntKind.i64.bits (l (2 * 3)) &&& BitVec.ofInt IntKind.i64.bits 3).toNat : Nat)).tmod 3) = (nearA l 3).1 := by rw [and64_3]; rfl
    have hB : (IntKind.i64.wrap ((BitVec.ofInt IntKind.i64.bits (l (2 * 3 + 1)) &&& BitVec.ofInt IntKind.i64.bits 3).toNat : Nat)) = (nearA l 3).2 := by rw [and64_3]; rfl
    replace hA : ((IntKind.i64.wrap ((BitVec.ofInt IntKind.i64.bits (l 6) &&& BitVec.ofInt IntKind.i64.bits 3).toNat : Nat)).tmod 3) = (nearA l 3).1 := hA
    replace hB : (IntKind.i64.wrap ((BitVec.ofInt IntKind.i64.bits (l 7) &&& BitVec.ofInt IntKind.i64.bits 3).toNat : Nat)) = (nearA l 3).2 := hB
    rw [hA, hB]
    generalize nearA l = a at *
    clear hA hB
    by_cases c1 : (a 3).1 = 0
    · skip
      repeat' (first
        | refine Ends.some' ?_
        | (refine Ends.force ?_; conv => enter [1]; whnf)
        | (refine Ends.forceN ?_; conv => enter [1]; whnf)
        | (refine Ends.forceLs ?_; conv => enter [1]; whnf)
        | (refine Ends.iteT (by first | with_reducible assumption | (simp [*]; done) | (apply decide_eq_true; omega) | fail "open") ?_; conv => enter [1]; whnf)
        | (refine Ends.iteF (by first | with_reducible assumption | (simp [*]; done) | (apply decide_eq_false; omega) | fail "open") ?_; conv => enter [1]; whnf)
        | (refine Ends.ite (fun h => ?_) (fun h => ?_) <;> (conv => enter [1]; whnf)))
      all_goals first | (simp [hasB, c1]; done) | (simp_all [hasB]; done)
    by_cases c2 : f = 0
    · skip
      repeat' (first
        | refine Ends.some' ?_
        | (refine Ends.force ?_; conv => enter [1]; whnf)
        | (refine Ends.forceN ?_; conv => enter [1]; whnf)
        | (refine Ends.forceLs ?_; conv => enter [1]; whnf)
        | (refine Ends.iteT (by first | with_reducible assumption | (simp [*]; done) | (apply decide_eq_true; omega) | fail "open") ?_; conv => enter [1]; whnf)
        | (refine Ends.iteF (by first | with_reducible assumption | (simp [*]; done) | (apply decide_eq_false; omega) | fail "open") ?_; conv => enter [1]; whnf)
        | (refine Ends.ite (fun h => ?_) (fun h => ?_) <;> (conv => enter [1]; whnf)))
      all_goals first | (simp [hasB, c1, c2]; done) | (simp_all [hasB]; done)
    by_cases c3 : (a 3).1 = f ∧ (a 3).2 = w
    · obtain ⟨c3, c4⟩ := c3
      repeat' (first
        | refine Ends.some' ?_
        | (refine Ends.force ?_; conv => enter [1]; whnf)
        | (refine Ends.forceN ?_; conv => enter [1]; whnf)
        | (refine Ends.forceLs ?_; conv => enter [1]; whnf)
        | (refine Ends.iteT (by first | with_reducible assumption | (simp [*]; done) | (apply decide_eq_true; omega) | fail "open") ?_; conv => enter [1]; whnf)
        | (refine Ends.iteF (by first | with_reducible assumption | (simp [*]; done) | (apply decide_eq_false; omega) | fail "open") ?_; conv => enter [1]; whnf)
        | (refine Ends.ite (fun h => ?_) (fun h => ?_) <;> (conv => enter [1]; whnf)))
      all_goals first | (simp [hasB, c1, c2, c3, c4]; done) | (simp_all [hasB]; done)
    by_cases c5 : (a 3).1 = 2
    · by_cases c6 : f = 1
      · by_cases c7 : 1 ≤ (a 3).2
        · by_cases c8 : (a 3).2 ≤ G.length
          · subst c6
            obtain ⟨j, hj⟩ : ∃ j : Nat, (a 3).2 - 1 = j := ⟨((a 3).2 - 1).toNat, by omega⟩
            have hjl : j < G.length := by omega
            obtain ⟨ivs, g1, g2, g3⟩ := hG.get
            obtain ⟨q, g4, g5⟩ := g3 j hjl
            have hwr : IntKind.i64.wrap ((a 3).2 - 1) = (j : Int) := by rw [w64]; omega
            have hq : (hasB a 3 1 w G) = decide (w ∈ G[j]) := by
              unfold hasB
              rw [if_neg (by omega), if_neg c3, if_pos ⟨c5, rfl, c7, c8⟩, hj]
              simp [List.getD_eq_getElem?_getD, hjl]
            have hmem : G[j].length ≤ 3 := hg _ (List.getElem_mem hjl)
            repeat' (first
              | refine Ends.some' ?_
              | (refine Ends.force ?_; conv => enter [1]; whnf)
              | (refine Ends.forceN ?_; conv => enter [1]; whnf)
              | (refine Ends.forceLs ?_; conv => enter [1]; whnf)
              | (refine Ends.iteT (by first | with_reducible assumption | (simp [*]; done) | (apply decide_eq_true; omega) | fail "open") ?_; conv => enter [1]; whnf)
              | (refine Ends.iteF (by first | with_reducible assumption | (simp [*]; done) | (apply decide_eq_false; omega) | fail "open") ?_; conv => enter [1]; whnf)
              | (refine Ends.ite (fun h => ?_) (fun h => ?_) <;> (conv => enter [1]; whnf)))
            refine Ends.loop (fun m T M => ∃ i : Nat, i ≤ G[j].length ∧ G[j].length - i < m ∧ T = [.undef, .undef, .undef, .sl (.hp b) 0 G.length 1, .undef, .undef, .ptr (.lo 1) 0, .undef, .undef, .undef, .int .i64 (a 3).2, .bool (decide (w ∈ G[j].take i)), .int .i64 (i : Int), .undef, .undef, .undef, .undef, .undef, .undef, .undef, .undef, .undef, .undef, .undef, .undef, .undef, .undef, .undef, .undef, .undef, .undef, .undef, .undef, .undef, .undef, .undef, .undef, .undef, .undef, .undef, .undef, .undef, .undef, .undef, .undef, .undef, .undef, .undef, .undef, .undef, .undef, .undef, .undef, .undef, .undef, .undef, .undef, .undef, .undef, .undef, .undef, .undef, .undef, .undef, .undef, .undef, .undef, .undef, .undef, .undef, .undef, .undef, .undef, .undef, .undef, .undef, .undef, .undef, .undef, .undef, .undef, .undef, .undef, .undef] ∧ M = ⟨[lL l, vL ⟨vn, 1, w, vt, vz, kn⟩], H⟩) (fun T M ⟨i, _, h, _⟩ => by omega) ?_ _ _ ⟨0, by omega, by omega, rfl, rfl⟩
            rintro m T M L ⟨i, i1, i2, rfl, rfl⟩ hL
            conv => enter [1]; whnf
            refine Ends.iteT (by rw [hwr]; exact decide_eq_true (by omega)) ?_
            conv => enter [1]; whnf
            refine Ends.opt (get_at g1 _) ?_
            conv => enter [1]; whnf
            refine Ends.opt (partSlAt g4 (by rw [hwr]; omega)) ?_
            conv => enter [1]; whnf
            refine Ends.ite (fun hcc => ?_) (fun hcc => ?_) <;> (conv => enter [1]; whnf)
            · have hi : i < G[j].length := by have := of_decide_eq_true hcc; omega
              have ht := mem_take_succ w hi
              have e3 : IntKind.i64.wrap ((i : Int) + 1) = ((i + 1 : Nat) : Int) := by rw [w64]; omega
              cases hm : decide (w ∈ G[j].take i)
              · conv => enter [1]; whnf
                refine Ends.iteT (by rw [hwr]; exact decide_eq_true (by omega)) ?_
                conv => enter [1]; whnf
                refine Ends.opt (get_at g1 _) ?_
                conv => enter [1]; whnf
                refine Ends.opt (partSlAt g4 (by rw [hwr]; omega)) ?_
                conv => enter [1]; whnf
                refine Ends.iteT (decide_eq_true (by omega)) ?_
                conv => enter [1]; whnf
                refine Ends.opt (get_at g5 _) ?_
                conv => enter [1]; whnf
                refine Ends.opt (partInt (getAt_iV' i hi (by omega))) ?_
                conv => enter [1]; whnf
                rw [hm, Bool.false_or] at ht
                refine hL _ ⟨i + 1, by omega, by omega, ?_, rfl⟩
                rw [← e3, ht]
                rfl
              · conv => enter [1]; whnf
                rw [hm, Bool.true_or] at ht
                refine hL _ ⟨i + 1, by omega, by omega, ?_, rfl⟩
                rw [← e3, ht]
                rfl
            · have hi : i = G[j].length := by have := of_decide_eq_false hcc; omega
              refine Ends.some' ?_
              rw [hq, hi, List.take_length]
          · skip
            repeat' (first
              | refine Ends.some' ?_
              | (refine Ends.force ?_; conv => enter [1]; whnf)
              | (refine Ends.forceN ?_; conv => enter [1]; whnf)
              | (refine Ends.forceLs ?_; conv => enter [1]; whnf)
              | (refine Ends.iteT (by first | with_reducible assumption | (simp [*]; done) | (apply decide_eq_true; omega) | fail "open") ?_; conv => enter [1]; whnf)
              | (refine Ends.iteF (by first | with_reducible assumption | (simp [*]; done) | (apply decide_eq_false; omega) | fail "open") ?_; conv => enter [1]; whnf)
              | (refine Ends.ite (fun h => ?_) (fun h => ?_) <;> (conv => enter [1]; whnf)))
            all_goals first | (simp [hasB, c1, c2, c3, c5, c6, c7, c8]; done) | (simp_all [hasB]; done) | (simp_all [hasB]; omega)
        · skip
          repeat' (first
            | refine Ends.some' ?_
            | (refine Ends.force ?_; conv => enter [1]; whnf)
            | (refine Ends.forceN ?_; conv => enter [1]; whnf)
            | (refine Ends.forceLs ?_; conv => enter [1]; whnf)
            | (refine Ends.iteT (by first | with_reducible assumption | (simp [*]; done) | (apply decide_eq_true; omega) | fail "open") ?_; conv => enter [1]; whnf)
            | (refine Ends.iteF (by first | with_reducible assumption | (simp [*]; done) | (apply decide_eq_false; omega) | fail "open") ?_; conv => enter [1]; whnf)
            | (refine Ends.ite (fun h => ?_) (fun h => ?_) <;> (conv => enter [1]; whnf)))
          all_goals first | (simp [hasB, c1, c2, c3, c5, c6, c7]; done) | (simp_all [hasB]; done) | (simp_all [hasB]; omega)
      · skip
        repeat' (first
          | refine Ends.some' ?_
          | (refine Ends.force ?_; conv => enter [1]; whnf)
          | (refine Ends.forceN ?_; conv => enter [1]; whnf)
          | (refine Ends.forceLs ?_; conv => enter [1]; whnf)
          | (refine Ends.iteT (by first | with_reducible assumption | (simp [*]; done) | (apply decide_eq_true; omega) | fail "open") ?_; conv => enter [1]; whnf)
          | (refine Ends.iteF (by first | with_reducible assumption | (simp [*]; done) | (apply decide_eq_false; omega) | fail "open") ?_; conv => enter [1]; whnf)
          | (refine Ends.ite (fun h => ?_) (fun h => ?_) <;> (conv => enter [1]; whnf)))
        all_goals first | (simp [hasB, c1, c2, c3, c5, c6]; done) | (simp_all [hasB]; done) | (simp_all [hasB]; omega)
    · skip
      repeat' (first
        | refine Ends.some' ?_
        | (refine Ends.force ?_; conv => enter [1]; whnf)
        | (refine Ends.forceN ?_; conv => enter [1]; whnf)
        | (refine Ends.forceLs ?_; conv => enter [1]; whnf)
        | (refine Ends.iteT (by first | with_reducible assumption | (simp [*]; done) | (apply decide_eq_true; omega) | fail "open") ?_; conv => enter [1]; whnf)
        | (refine Ends.iteF (by first | with_reducible assumption | (simp [*]; done) | (apply decide_eq_false; omega) | fail "open") ?_; conv => enter [1]; whnf)
        | (refine Ends.ite (fun h => ?_) (fun h => ?_) <;> (conv => enter [1]; whnf)))
      all_goals first | (simp [hasB, c1, c2, c3, c5]; done) | (simp_all [hasB]; done) | (simp_all [hasB]; omega)
theorem aset_F (mk : Mk) (k lo : Nat) (hk : 2 ≤ k) (a : Nat → Int × Int) (n : Nat) (hn : n < 4) (f w : Int) (H : List Blk) :
    FF mk k lo 19 [.agg (asL a), .int .i64 (n : Int), .int .i64 f, .int .i64 w] H = some (.agg (asL fun i => if i = n then (f, w) else a i), H) := by
  obtain ⟨k, rfl⟩ : ∃ m, k = m + 1 := ⟨k - 1, by omega⟩
  refine eq_of_ends ?_
  rcases (show n = 0 ∨ n = 1 ∨ n = 2 ∨ n = 3 by omega) with rfl | rfl | rfl | rfl
  · conv => enter [1]; whnf
    exact Ends.some' rfl
  · conv => enter [1]; whnf
    exact Ends.some' rfl
  · conv => enter [1]; whnf
    exact Ends.some' rfl
  · conv => enter [1]; whnf
    exact Ends.some' rfl
theorem near33_F (mk : Mk) (k lo : Nat) (hk : 20 ≤ k) (l : Nat → Int) (H : List Blk) :
    FF mk k lo 6 [.agg (lL l)] H = some (.agg (asL (nearA l)), H) := by
  obtain ⟨k, rfl⟩ : ∃ m, k = m + 20 := ⟨k - 20, by omega⟩
  refine eq_of_ends ?_
  conv => enter [1]; whnf
  refine Ends.some' ?_
  simp only [and64_3]
  rfl
theorem awake33_F (mk : Mk) (k lo : Nat) (hk : 20 ≤ k) (H : List Blk) : FF mk k lo 11 [] H = some (.bool true, H) := by
  obtain ⟨k, rfl⟩ : ∃ m, k = m + 20 := ⟨k - 20, by omega⟩
  kernel_rfl
theorem frame_F (mk : Mk) (k lo : Nat) (hk : 2 ≤ k) (a : Nat → Int × Int) (n : Nat) (hn : n < 4) (x : VL) (H : List Blk) :
    FF mk k lo 10 [.agg (asL a), .int .i64 (n : Int), .agg (vL x)] H = some (.tup [.int .i64 (if x.f = 1 ∧ (a n).1 = 2 then 2 else x.f), .int .i64 (if x.f = 1 ∧ (a n).1 = 2 then (a n).2 else x.w)], H) := by
  obtain ⟨k, rfl⟩ : ∃ m, k = m + 1 := ⟨k - 1, by omega⟩
  obtain ⟨vn, f, w, vt, vz, kn⟩ := x
  refine eq_of_ends ?_
  rcases (show n = 0 ∨ n = 1 ∨ n = 2 ∨ n = 3 by omega) with rfl | rfl | rfl | rfl
  · by_cases c1 : f = 1
    · by_cases c2 : (a 0).1 = 2
      · conv => enter [1]; whnf
        repeat' (first
          | refine Ends.some' ?_
          | (refine Ends.force ?_; conv => enter [1]; whnf)
          | (refine Ends.forceN ?_; conv => enter [1]; whnf)
          | (refine Ends.forceLs ?_; conv => enter [1]; whnf)
          | (refine Ends.iteT (by first | with_reducible assumption | (simp [*]; done) | (apply decide_eq_true; omega) | fail "open") ?_; conv => enter [1]; whnf)
          | (refine Ends.iteF (by first | with_reducible assumption | (simp [*]; done) | (apply decide_eq_false; omega) | fail "open") ?_; conv => enter [1]; whnf)
          | (refine Ends.ite (fun h => ?_) (fun h => ?_) <;> (conv => enter [1]; whnf)))
        all_goals (simp [c1, c2]; done)
      · conv => enter [1]; whnf
        repeat' (first
          | refine Ends.some' ?_
          | (refine Ends.force ?_; conv => enter [1]; whnf)
          | (refine Ends.forceN ?_; conv => enter [1]; whnf)
          | (refine Ends.forceLs ?_; conv => enter [1]; whnf)
          | (refine Ends.iteT (by first | with_reducible assumption | (simp [*]; done) | (apply decide_eq_true; omega) | fail "open") ?_; conv => enter [1]; whnf)
          | (refine Ends.iteF (by first | with_reducible assumption | (simp [*]; done) | (apply decide_eq_false; omega) | fail "open") ?_; conv => enter [1]; whnf)
          | (refine Ends.ite (fun h => ?_) (fun h => ?_) <;> (conv => enter [1]; whnf)))
        all_goals (simp [c1, c2]; done)
    · conv => enter [1]; whnf
      repeat' (first
        | refine Ends.some' ?_
        | (refine Ends.force ?_; conv => enter [1]; whnf)
        | (refine Ends.forceN ?_; conv => enter [1]; whnf)
        | (refine Ends.forceLs ?_; conv => enter [1]; whnf)
        | (refine Ends.iteT (by first | with_reducible assumption | (simp [*]; done) | (apply decide_eq_true; omega) | fail "open") ?_; conv => enter [1]; whnf)
        | (refine Ends.iteF (by first | with_reducible assumption | (simp [*]; done) | (apply decide_eq_false; omega) | fail "open") ?_; conv => enter [1]; whnf)
        | (refine Ends.ite (fun h => ?_) (fun h => ?_) <;> (conv => enter [1]; whnf)))
      all_goals (simp [c1]; done)
  · by_cases c1 : f = 1
    · by_cases c2 : (a 1).1 = 2
      · conv => enter [1]; whnf
        repeat' (first
          | refine Ends.some' ?_
          | (refine Ends.force ?_; conv => enter [1]; whnf)
          | (refine Ends.forceN ?_; conv => enter [1]; whnf)
          | (refine Ends.forceLs ?_; conv => enter [1]; whnf)
          | (refine Ends.iteT (by first | with_reducible assumption | (simp [*]; done) | (apply decide_eq_true; omega) | fail "open") ?_; conv => enter [1]; whnf)
          | (refine Ends.iteF (by first | with_reducible assumption | (simp [*]; done) | (apply decide_eq_false; omega) | fail "open") ?_; conv => enter [1]; whnf)
          | (refine Ends.ite (fun h => ?_) (fun h => ?_) <;> (conv => enter [1]; whnf)))
        all_goals (simp [c1, c2]; done)
      · conv => enter [1]; whnf
        repeat' (first
          | refine Ends.some' ?_
          | (refine Ends.force ?_; conv => enter [1]; whnf)
          | (refine Ends.forceN ?_; conv => enter [1]; whnf)
          | (refine Ends.forceLs ?_; conv => enter [1]; whnf)
          | (refine Ends.iteT (by first | with_reducible assumption | (simp [*]; done) | (apply decide_eq_true; omega) | fail "open") ?_; conv => enter [1]; whnf)
          | (refine Ends.iteF (by first | with_reducible assumption | (simp [*]; done) | (apply decide_eq_false; omega) | fail "open") ?_; conv => enter [1]; whnf)
          | (refine Ends.ite (fun h => ?_) (fun h => ?_) <;> (conv => enter [1]; whnf)))
        all_goals (simp [c1, c2]; done)
    · conv => enter [1]; whnf
      repeat' (first
        | refine Ends.some' ?_
        | (refine Ends.force ?_; conv => enter [1]; whnf)
        | (refine Ends.forceN ?_; conv => enter [1]; whnf)
        | (refine Ends.forceLs ?_; conv => enter [1]; whnf)
        | (refine Ends.iteT (by first | with_reducible assumption | (simp [*]; done) | (apply decide_eq_true; omega) | fail "open") ?_; conv => enter [1]; whnf)
        | (refine Ends.iteF (by first | with_reducible assumption | (simp [*]; done) | (apply decide_eq_false; omega) | fail "open") ?_; conv => enter [1]; whnf)
        | (refine Ends.ite (fun h => ?_) (fun h => ?_) <;> (conv => enter [1]; whnf)))
      all_goals (simp [c1]; done)
  · by_cases c1 : f = 1
    · by_cases c2 : (a 2).1 = 2
      · conv => enter [1]; whnf
        repeat' (first
          | refine Ends.some' ?_
          | (refine Ends.force ?_; conv => enter [1]; whnf)
          | (refine Ends.forceN ?_; conv => enter [1]; whnf)
          | (refine Ends.forceLs ?_; conv => enter [1]; whnf)
          | (refine Ends.iteT (by first | with_reducible assumption | (simp [*]; done) | (apply decide_eq_true; omega) | fail "open") ?_; conv => enter [1]; whnf)
          | (refine Ends.iteF (by first | with_reducible assumption | (simp [*]; done) | (apply decide_eq_false; omega) | fail "open") ?_; conv => enter [1]; whnf)
          | (refine Ends.ite (fun h => ?_) (fun h => ?_) <;> (conv => enter [1]; whnf)))
        all_goals (simp [c1, c2]; done)
      · conv => enter [1]; whnf
        repeat' (first
          | refine Ends.some' ?_
          | (refine Ends.force ?_; conv => enter [1]; whnf)
          | (refine Ends.forceN ?_; conv => enter [1]; whnf)
          | (refine Ends.forceLs ?_; conv => enter [1]; whnf)
          | (refine Ends.iteT (by first | with_reducible assumption | (simp [*]; done) | (apply decide_eq_true; omega) | fail "open") ?_; conv => enter [1]; whnf)
          | (refine Ends.iteF (by first | with_reducible assumption | (simp [*]; done) | (apply decide_eq_false; omega) | fail "open") ?_; conv => enter [1]; whnf)
          | (refine Ends.ite (fun h => ?_) (fun h => ?_) <;> (conv => enter [1]; whnf)))
        all_goals (simp [c1, c2]; done)
    · conv => enter [1]; whnf
      repeat' (first
        | refine Ends.some' ?_
        | (refine Ends.force ?_; conv => enter [1]; whnf)
        | (refine Ends.forceN ?_; conv => enter [1]; whnf)
        | (refine Ends.forceLs ?_; conv => enter [1]; whnf)
        | (refine Ends.iteT (by first | with_reducible assumption | (simp [*]; done) | (apply decide_eq_true; omega) | fail "open") ?_; conv => enter [1]; whnf)
        | (refine Ends.iteF (by first | with_reducible assumption | (simp [*]; done) | (apply decide_eq_false; omega) | fail "open") ?_; conv => enter [1]; whnf)
        | (refine Ends.ite (fun h => ?_) (fun h => ?_) <;> (conv => enter [1]; whnf)))
      all_goals (simp [c1]; done)
  · by_cases c1 : f = 1
    · by_cases c2 : (a 3).1 = 2
      · conv => enter [1]; whnf
        repeat' (first
          | refine Ends.some' ?_
          | (refine Ends.force ?_; conv => enter [1]; whnf)
          | (refine Ends.forceN ?_; conv => enter [1]; whnf)
          | (refine Ends.forceLs ?_; conv => enter [1]; whnf)
          | (refine Ends.iteT (by first | with_reducible assumption | (simp [*]; done) | (apply decide_eq_true; omega) | fail "open") ?_; conv => enter [1]; whnf)
          | (refine Ends.iteF (by first | with_reducible assumption | (simp [*]; done) | (apply decide_eq_false; omega) | fail "open") ?_; conv => enter [1]; whnf)
          | (refine Ends.ite (fun h => ?_) (fun h => ?_) <;> (conv => enter [1]; whnf)))
        all_goals (simp [c1, c2]; done)
      · conv => enter [1]; whnf
        repeat' (first
          | refine Ends.some' ?_
          | (refine Ends.force ?_; conv => enter [1]; whnf)
          | (refine Ends.forceN ?_; conv => enter [1]; whnf)
          | (refine Ends.forceLs ?_; conv => enter [1]; whnf)
          | (refine Ends.iteT (by first | with_reducible assumption | (simp [*]; done) | (apply decide_eq_true; omega) | fail "open") ?_; conv => enter [1]; whnf)
          | (refine Ends.iteF (by first | with_reducible assumption | (simp [*]; done) | (apply decide_eq_false; omega) | fail "open") ?_; conv => enter [1]; whnf)
          | (refine Ends.ite (fun h => ?_) (fun h => ?_) <;> (conv => enter [1]; whnf)))
        all_goals (simp [c1, c2]; done)
    · conv => enter [1]; whnf
      repeat' (first
        | refine Ends.some' ?_
        | (refine Ends.force ?_; conv => enter [1]; whnf)
        | (refine Ends.forceN ?_; conv => enter [1]; whnf)
        | (refine Ends.forceLs ?_; conv => enter [1]; whnf)
        | (refine Ends.iteT (by first | with_reducible assumption | (simp [*]; done) | (apply decide_eq_true; omega) | fail "open") ?_; conv => enter [1]; whnf)
        | (refine Ends.iteF (by first | with_reducible assumption | (simp [*]; done) | (apply decide_eq_false; omega) | fail "open") ?_; conv => enter [1]; whnf)
        | (refine Ends.ite (fun h => ?_) (fun h => ?_) <;> (conv => enter [1]; whnf)))
      all_goals (simp [c1]; done)
end Go.Proofs.Ytbkniomfegbdaaa.VM
