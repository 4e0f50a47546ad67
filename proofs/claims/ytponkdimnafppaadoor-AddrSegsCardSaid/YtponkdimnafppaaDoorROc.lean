/- The reference's table, by the plain machine: the smallest functions. -/
import Derived.Test.YtponkdimnafppaaDoorROb
namespace Go.Proofs.YtponkdimnafppaaDoor.VM
open Go Go.RowKit
set_option linter.unusedVariables false
set_option linter.unusedSimpArgs false
set_option maxRecDepth 40000
set_option maxHeartbeats 1600000
theorem second_F (mk : Mk) (k lo : Nat) (hk : 2 ≤ k) (n : Int) (H : List Blk) : Ends (FF mk k lo 86 [.int .i64 n] H) fun r => r.2 = H ∧ ∃ b, r.1 = .bool b := by
  obtain ⟨k, rfl⟩ : ∃ m, k = m + 1 := ⟨k - 1, by omega⟩
  refine Ends.enter rfl ?_
  conv => enter [1]; whnf
  repeat' (first
    | refine Ends.some' ?_
    | (refine Ends.force ?_; conv => enter [1]; whnf)
    | (refine Ends.forceN ?_; conv => enter [1]; whnf)
    | (refine Ends.forceLs ?_; conv => enter [1]; whnf)
    | (refine Ends.iteT (by first | with_reducible assumption | (simp [*]; done) | (apply decide_eq_true; omega) | fail "open") ?_; conv => enter [1]; whnf)
    | (refine Ends.iteF (by first | with_reducible assumption | (simp [*]; done) | (apply decide_eq_false; omega) | fail "open") ?_; conv => enter [1]; whnf)
    | (refine Ends.ite (fun h => ?_) (fun h => ?_) <;> (conv => enter [1]; whnf)))
  all_goals exact ⟨rfl, _, rfl⟩
theorem rbytes_F (mk : Mk) (k lo : Nat) (hk : 2 ≤ k) (n : Int) (H : List Blk) : Ends (FF mk k lo 34 [.int .i64 n] H) fun r => r.2 = H ∧ ∃ z : Int, r.1 = .int .i64 z ∧ (z = 0 ∨ z = 1 ∨ z = 2 ∨ z = 4) := by
  obtain ⟨k, rfl⟩ : ∃ m, k = m + 1 := ⟨k - 1, by omega⟩
  refine Ends.enter rfl ?_
  conv => enter [1]; whnf
  repeat' (first
    | refine Ends.some' ?_
    | (refine Ends.force ?_; conv => enter [1]; whnf)
    | (refine Ends.forceN ?_; conv => enter [1]; whnf)
    | (refine Ends.forceLs ?_; conv => enter [1]; whnf)
    | (refine Ends.iteT (by first | with_reducible assumption | (simp [*]; done) | (apply decide_eq_true; omega) | fail "open") ?_; conv => enter [1]; whnf)
    | (refine Ends.iteF (by first | with_reducible assumption | (simp [*]; done) | (apply decide_eq_false; omega) | fail "open") ?_; conv => enter [1]; whnf)
    | (refine Ends.ite (fun h => ?_) (fun h => ?_) <;> (conv => enter [1]; whnf)))
  all_goals exact ⟨rfl, _, rfl, by decide⟩
theorem name_F (mk : Mk) (k lo : Nat) (hk : 2000 ≤ k) (n : Int) (H : List Blk) : Ends (FF mk k lo 79 [.int .i64 n] H) fun r => r.2 = H ∧ ∃ t : ByteArray, r.1 = .str t := by
  obtain ⟨k, rfl⟩ : ∃ m, k = m + 1 := ⟨k - 1, by omega⟩
  refine Ends.enter rfl ?_
  by_cases c1 : n < 1
  · conv => enter [1]; whnf
    repeat (first
      | (refine Ends.force ?_; conv => enter [1]; whnf)
      | (refine Ends.forceN ?_; conv => enter [1]; whnf)
      | (refine Ends.forceLs ?_; conv => enter [1]; whnf)
      | (refine Ends.iteT (by first | with_reducible assumption | (simp [*]; done) | (apply decide_eq_true; omega) | fail "open") ?_; conv => enter [1]; whnf)
      | (refine Ends.iteF (by first | with_reducible assumption | (simp [*]; done) | (apply decide_eq_false; omega) | fail "open") ?_; conv => enter [1]; whnf))
    exact Ends.some' ⟨rfl, _, rfl⟩
  by_cases c2 : n > 95
  · conv => enter [1]; whnf
    repeat (first
      | (refine Ends.force ?_; conv => enter [1]; whnf)
      | (refine Ends.forceN ?_; conv => enter [1]; whnf)
      | (refine Ends.forceLs ?_; conv => enter [1]; whnf)
      | (refine Ends.iteT (by first | with_reducible assumption | (simp [*]; done) | (apply decide_eq_true; omega) | fail "open") ?_; conv => enter [1]; whnf)
      | (refine Ends.iteF (by first | with_reducible assumption | (simp [*]; done) | (apply decide_eq_false; omega) | fail "open") ?_; conv => enter [1]; whnf))
    exact Ends.some' ⟨rfl, _, rfl⟩
  conv => enter [1]; whnf
  repeat (first
    | (refine Ends.force ?_; conv => enter [1]; whnf)
    | (refine Ends.forceN ?_; conv => enter [1]; whnf)
    | (refine Ends.forceLs ?_; conv => enter [1]; whnf)
    | (refine Ends.iteT (by first | with_reducible assumption | (simp [*]; done) | (apply decide_eq_true; omega) | fail "open") ?_; conv => enter [1]; whnf)
    | (refine Ends.iteF (by first | with_reducible assumption | (simp [*]; done) | (apply decide_eq_false; omega) | fail "open") ?_; conv => enter [1]; whnf))
  obtain ⟨j, hj⟩ : ∃ j : Nat, IntKind.i64.wrap (n - 1) = (j : Int) := ⟨(n - 1).toNat, by rw [w64]; omega⟩
  have hj2 : j ≤ 100 := by rw [w64] at hj; omega
  rw [hj]
  refine Ends.callE (word_F mk k lo _ j ?_ ?_ (by omega) H) (fun v H1 hv => ?_)
  · exact Nat.le_trans (Nat.add_le_add_right (Nat.add_le_add_right (show _ ≤ 600 by decide) j) 8) (by omega)
  · decide
  obtain ⟨hH, t, hv, _⟩ := hv
  replace hH : H1 = H := hH
  replace hv : v = .str t := hv
  subst hH; subst hv
  conv => enter [1]; whnf
  exact Ends.some' ⟨rfl, _, rfl⟩
theorem disps_F (mk : Mk) (k lo : Nat) (hk : 2 ≤ k) (n m : Int) (H : List Blk) : Ends (FF mk k lo 32 [.int .i64 n, .int .i64 m] H) fun r => r.2 = H ∧ ∃ z : Int, r.1 = .int .i64 z ∧ (z = 0 ∨ z = 1 ∨ z = 2) := by
  obtain ⟨k, rfl⟩ : ∃ m, k = m + 1 := ⟨k - 1, by omega⟩
  refine Ends.enter rfl ?_
  conv => enter [1]; whnf
  repeat' (first
    | refine Ends.some' ?_
    | (refine Ends.force ?_; conv => enter [1]; whnf)
    | (refine Ends.forceN ?_; conv => enter [1]; whnf)
    | (refine Ends.forceLs ?_; conv => enter [1]; whnf)
    | (refine Ends.iteT (by first | with_reducible assumption | (simp [*]; done) | (apply decide_eq_true; omega) | fail "open") ?_; conv => enter [1]; whnf)
    | (refine Ends.iteF (by first | with_reducible assumption | (simp [*]; done) | (apply decide_eq_false; omega) | fail "open") ?_; conv => enter [1]; whnf)
    | (refine Ends.ite (fun h => ?_) (fun h => ?_) <;> (conv => enter [1]; whnf)))
  all_goals exact ⟨rfl, _, rfl, by decide⟩
theorem prefix_F (mk : Mk) (k lo : Nat) (hk : 2 ≤ k) (n : Int) (H : List Blk) : Ends (FF mk k lo 39 [.int .u8 n] H) fun r => r.2 = H ∧ ∃ b, r.1 = .bool b := by
  obtain ⟨k, rfl⟩ : ∃ m, k = m + 1 := ⟨k - 1, by omega⟩
  refine Ends.enter rfl ?_
  by_cases c38 : n = 38
  · subst c38
    conv => enter [1]; whnf
    exact Ends.some' ⟨rfl, _, rfl⟩
  by_cases c46 : n = 46
  · subst c46
    conv => enter [1]; whnf
    exact Ends.some' ⟨rfl, _, rfl⟩
  by_cases c54 : n = 54
  · subst c54
    conv => enter [1]; whnf
    exact Ends.some' ⟨rfl, _, rfl⟩
  by_cases c62 : n = 62
  · subst c62
    conv => enter [1]; whnf
    exact Ends.some' ⟨rfl, _, rfl⟩
  by_cases c240 : n = 240
  · subst c240
    conv => enter [1]; whnf
    exact Ends.some' ⟨rfl, _, rfl⟩
  by_cases c242 : n = 242
  · subst c242
    conv => enter [1]; whnf
    exact Ends.some' ⟨rfl, _, rfl⟩
  by_cases c243 : n = 243
  · subst c243
    conv => enter [1]; whnf
    exact Ends.some' ⟨rfl, _, rfl⟩
  conv => enter [1]; whnf
  repeat (first
    | (refine Ends.force ?_; conv => enter [1]; whnf)
    | (refine Ends.forceN ?_; conv => enter [1]; whnf)
    | (refine Ends.forceLs ?_; conv => enter [1]; whnf)
    | (refine Ends.iteT (by first | with_reducible assumption | (simp [*]; done) | (apply decide_eq_true; omega) | fail "open") ?_; conv => enter [1]; whnf)
    | (refine Ends.iteF (by first | with_reducible assumption | (simp [*]; done) | (apply decide_eq_false; omega) | fail "open") ?_; conv => enter [1]; whnf))
  exact Ends.some' ⟨rfl, _, rfl⟩
theorem entry_F (mk : Mk) (k lo : Nat) (hk : 8000 ≤ k) (op reg : Int) (hop : 0 ≤ op ∧ op < 256) (H : List Blk) : Ends (FF mk k lo 82 [.int .u8 op, .int .i64 reg] H) fun r => r.2 = H ∧ ∃ t : ByteArray, r.1 = .str t ∧ t.size ≤ 6000 := by
  obtain ⟨k, rfl⟩ : ∃ m, k = m + 1 := ⟨k - 1, by omega⟩
  refine Ends.enter rfl ?_
  conv => enter [1]; whnf
  obtain ⟨j, hj⟩ : ∃ j : Nat, IntKind.i64.wrap op = (j : Int) := ⟨op.toNat, by rw [w64]; omega⟩
  have hj2 : j < 256 := by rw [w64] at hj; omega
  rw [hj]
  refine Ends.callE (Ψ := fun r => r.2 = H ∧ ∃ t : ByteArray, r.1 = .str t ∧ t.size ≤ 6000) ((word_F mk k lo _ j ?_ ?_ (by omega) H).mono ?_) (fun v H1 hv => ?_)
  · exact Nat.le_trans (Nat.add_le_add_right (Nat.add_le_add_right (show _ ≤ 6000 by decide) j) 8) (by omega)
  · decide
  · rintro r ⟨h1, t, h2, h3⟩
    exact ⟨h1, t, h2, Nat.le_trans h3 (by decide)⟩
  obtain ⟨hH, t, hv, ht⟩ := hv
  replace hH : H1 = H := hH
  replace hv : v = .str t := hv
  subst hH; subst hv
  conv => enter [1]; whnf
  by_cases c1 : 0 < t.size
  · have c2 : (t.size : Int) > 0 := by omega
    have c3 : (0 : Int) ≤ 0 ∧ (0 : Int) < (t.size : Int) := by omega
    refine Ends.iteT (by rw [decide_eq_true c2]; rfl) ?_
    conv => enter [1]; whnf
    refine Ends.iteT (decide_eq_true c3) ?_
    conv => enter [1]; whnf
    refine Ends.ite (fun h => ?_) (fun h => ?_) <;> (conv => enter [1]; whnf)
    · rw [and64_7]
      obtain ⟨z, hz⟩ : ∃ z : Nat, IntKind.i64.wrap (reg % 8 + 1) = (z : Int) := ⟨(reg % 8 + 1).toNat, by rw [w64]; omega⟩
      have hz2 : z ≤ 8 := by rw [w64] at hz; omega
      rw [hz]
      refine Ends.callE (part_F mk k lo t _ z (by omega) (by omega) (by omega) H1) (fun v H2 hv => ?_)
      obtain ⟨hH, u, hv, hu⟩ := hv
      replace hH : H2 = H1 := hH
      replace hv : v = .str u := hv
      subst hH; subst hv
      conv => enter [1]; whnf
      exact Ends.some' ⟨rfl, _, rfl, by omega⟩
    · exact Ends.some' ⟨rfl, _, rfl, ht⟩
  · have c2 : ¬ (t.size : Int) > 0 := by omega
    refine Ends.iteF (by rw [decide_eq_false c2]; rfl) ?_
    conv => enter [1]; whnf
    exact Ends.some' ⟨rfl, _, rfl, ht⟩
end Go.Proofs.YtponkdimnafppaaDoor.VM
