/- The reference's table, by the plain machine: its words and their parts; only that they are there. -/
import Derived.Test.YtponkdimnafppaaDoorCA
namespace Go.Proofs.YtponkdimnafppaaDoor.VM
open Go Go.RowKit
set_option linter.unusedVariables false
set_option linter.unusedSimpArgs false
set_option maxRecDepth 40000
set_option maxHeartbeats 1600000
theorem w64n (x : Int) (h0 : -9223372036854775808 ≤ x) (h1 : x < 9223372036854775808) : IntKind.i64.wrap x = x := by rw [w64]; omega
theorem w64s1 (j : Nat) (h : j < 1000000) : IntKind.i64.wrap ((j : Int) + 1) = ((j + 1 : Nat) : Int) := by rw [w64]; omega
theorem ext_size (s : ByteArray) (i j : Nat) : (s.extract i j).size ≤ s.size := by rw [ByteArray.size_extract]; omega
theorem word_F (mk : Mk) (k lo : Nat) (s : ByteArray) (n : Nat) (hk : s.size + n + 8 ≤ k) (hs : s.size ≤ 100000) (hn : n ≤ 1000) (H : List Blk) :
    Ends (FF mk k lo 102 [.str s, .int .i64 (n : Int)] H) fun r => r.2 = H ∧ ∃ t : ByteArray, r.1 = .str t ∧ t.size ≤ s.size := by
  obtain ⟨k, rfl⟩ : ∃ m, k = m + 1 := ⟨k - 1, by omega⟩
  conv => enter [1]; whnf
  refine Ends.loopK (fun m T M => ∃ (j a : Nat), j ≤ n ∧ a ≤ s.size + 1 ∧ n - j < m ∧ T = [.str s, .int .i64 (n : Int), .undef, .undef, .undef, .int .i64 (a : Int), .int .i64 (j : Int), .undef, .undef, .undef, .undef, .undef, .undef, .undef, .undef, .undef, .undef, .undef, .undef, .undef, .undef, .undef, .undef, .undef, .undef, .undef, .undef, .undef, .undef, .undef, .undef, .undef, .undef, .undef, .undef, .undef, .undef, .undef, .undef, .undef, .undef, .undef, .undef, .undef, .undef, .undef, .undef, .undef, .undef, .undef, .undef, .undef, .undef, .undef] ∧ M = ⟨[], H⟩) (fun T M ⟨j, a, _, _, h, _⟩ => by omega) ?_ _ _ ⟨0, 0, by omega, by omega, by omega, rfl, rfl⟩
  rintro m T M L KK hKK ⟨j, a, j1, a1, j2, rfl, rfl⟩ hL
  conv => enter [1]; whnf
  by_cases c : j < n ∧ a < s.size
  · have c1 : (j : Int) < (n : Int) := by omega
    have c2 : (a : Int) < (s.size : Int) := by omega
    repeat (first
      | (refine Ends.force ?_; conv => enter [1]; whnf)
      | (refine Ends.forceN ?_; conv => enter [1]; whnf)
      | (refine Ends.forceLs ?_; conv => enter [1]; whnf)
      | (refine Ends.iteT (by first | with_reducible assumption | (simp [*]; done) | (apply decide_eq_true; omega) | fail "open") ?_; conv => enter [1]; whnf)
      | (refine Ends.iteF (by first | with_reducible assumption | (simp [*]; done) | (apply decide_eq_false; omega) | fail "open") ?_; conv => enter [1]; whnf))
    refine Ends.loopK (fun m2 T M => ∃ a2 : Nat, a2 ≤ s.size ∧ s.size - a2 < m2 ∧ T = [.str s, .int .i64 (n : Int), .undef, .undef, .undef, .int .i64 (a2 : Int), .int .i64 (j : Int), .undef, .undef, .undef, .undef, .undef, .undef, .undef, .undef, .undef, .undef, .undef, .undef, .undef, .undef, .undef, .undef, .undef, .undef, .undef, .undef, .undef, .undef, .undef, .undef, .undef, .undef, .undef, .undef, .undef, .undef, .undef, .undef, .undef, .undef, .undef, .undef, .undef, .undef, .undef, .undef, .undef, .undef, .undef, .undef, .undef, .undef, .undef] ∧ M = ⟨[], H⟩) (fun T M ⟨a2, _, h, _⟩ => by omega) ?_ _ _ ⟨a, by omega, by omega, rfl, rfl⟩
    rintro m2 T M L2 KK2 hKK2 ⟨a2, b1, b2, rfl, rfl⟩ hL2
    conv => enter [1]; whnf
    by_cases d : a2 < s.size
    · have d2 : (a2 : Int) < (s.size : Int) := by omega
      have d3 : (0 : Int) ≤ (a2 : Int) ∧ (a2 : Int) < (s.size : Int) := by omega
      refine Ends.iteT (by rw [decide_eq_true d2]; rfl) ?_
      conv => enter [1]; whnf
      refine Ends.iteT (decide_eq_true d3) ?_
      conv => enter [1]; whnf
      refine Ends.ite (fun h => ?_) (fun h => ?_) <;> (conv => enter [1]; whnf)
      · refine hL2 _ ⟨a2 + 1, by omega, by omega, ?_, rfl⟩
        rw [← w64s1 a2 (by omega)]; rfl
      · rw [hKK2]
        conv => enter [1]; whnf
        refine hL _ ⟨j + 1, a2 + 1, by omega, by omega, by omega, ?_, rfl⟩
        rw [← w64s1 a2 (by omega), ← w64s1 j (by omega)]; rfl
    · have d2 : ¬ (a2 : Int) < (s.size : Int) := by omega
      refine Ends.iteF (by rw [decide_eq_false d2]; rfl) ?_
      conv => enter [1]; whnf
      rw [hKK2]
      conv => enter [1]; whnf
      refine hL _ ⟨j + 1, a2 + 1, by omega, by omega, by omega, ?_, rfl⟩
      rw [← w64s1 a2 (by omega), ← w64s1 j (by omega)]; rfl
  · have fin : ∀ (L3 : St → Option (Val × List Blk)), True := fun _ => trivial
    by_cases c1 : (j : Int) < (n : Int)
    all_goals
      first
        | (refine Ends.iteT (by rw [decide_eq_true c1]; rfl) ?_; (conv => enter [1]; whnf); refine Ends.iteF (by rw [decide_eq_false (show ¬ (a : Int) < (s.size : Int) from fun z => c ⟨by omega, by omega⟩)]; rfl) ?_)
        | (refine Ends.iteF (by rw [decide_eq_false c1]; rfl) ?_)
      conv => enter [1]; whnf
      rw [hKK]
      conv => enter [1]; whnf
      refine Ends.loopK (fun m2 T M => ∃ e : Nat, a ≤ e ∧ (e = a ∨ e ≤ s.size) ∧ s.size - e < m2 ∧ T = [.str s, .undef, .undef, .undef, .undef, .int .i64 (a : Int), .undef, .int .i64 (e : Int), .undef, .undef, .undef, .undef, .undef, .undef, .undef, .undef, .undef, .undef, .undef, .undef, .undef, .undef, .undef, .undef, .undef, .undef, .undef, .undef, .undef, .undef, .undef, .undef, .undef, .undef, .undef, .undef, .undef, .undef, .undef, .undef, .undef, .undef, .undef, .undef, .undef, .undef, .undef, .undef, .undef, .undef, .undef, .undef, .undef, .undef] ∧ M = ⟨[], H⟩) (fun T M ⟨e, _, _, h, _⟩ => by omega) ?_ _ _ ⟨a, by omega, by omega, by omega, rfl, rfl⟩
      rintro m2 T M L2 KK2 hKK2 ⟨e, e1, e2, e3, rfl, rfl⟩ hL2
      conv => enter [1]; whnf
      have ending : ∀ (R : Option (Val × List Blk)), True := fun _ => trivial
      by_cases d : e < s.size
      · have d2 : (e : Int) < (s.size : Int) := by omega
        have d3 : (0 : Int) ≤ (e : Int) ∧ (e : Int) < (s.size : Int) := by omega
        refine Ends.iteT (by rw [decide_eq_true d2]; rfl) ?_
        conv => enter [1]; whnf
        refine Ends.iteT (decide_eq_true d3) ?_
        conv => enter [1]; whnf
        refine Ends.ite (fun h => ?_) (fun h => ?_) <;> (conv => enter [1]; whnf)
        · refine hL2 _ ⟨e + 1, by omega, by omega, by omega, ?_, rfl⟩
          rw [← w64s1 e (by omega)]; rfl
        · rw [hKK2]
          conv => enter [1]; whnf
          refine Ends.iteF (decide_eq_false (by omega)) ?_
          conv => enter [1]; whnf
          refine Ends.iteT (decide_eq_true (by omega)) ?_
          conv => enter [1]; whnf
          exact Ends.some' ⟨rfl, _, rfl, ext_size _ _ _⟩
      · have d2 : ¬ (e : Int) < (s.size : Int) := by omega
        refine Ends.iteF (by rw [decide_eq_false d2]; rfl) ?_
        conv => enter [1]; whnf
        rw [hKK2]
        conv => enter [1]; whnf
        by_cases q : a < s.size
        · skip
          refine Ends.iteF (decide_eq_false (by omega)) ?_
          conv => enter [1]; whnf
          refine Ends.iteT (decide_eq_true (by omega)) ?_
          conv => enter [1]; whnf
          exact Ends.some' ⟨rfl, _, rfl, ext_size _ _ _⟩
        · skip
          refine Ends.iteT (decide_eq_true (by omega)) ?_
          conv => enter [1]; whnf
          exact Ends.some' ⟨rfl, _, rfl, Nat.zero_le _⟩
end Go.Proofs.YtponkdimnafppaaDoor.VM
