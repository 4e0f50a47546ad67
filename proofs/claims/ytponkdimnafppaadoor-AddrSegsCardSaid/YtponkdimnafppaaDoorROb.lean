/- The reference's table, by the plain machine: parts of words, and where a word is. -/
import Derived.Test.YtponkdimnafppaaDoorROa
namespace Go.Proofs.YtponkdimnafppaaDoor.VM
open Go Go.RowKit
set_option linter.unusedVariables false
set_option linter.unusedSimpArgs false
set_option maxRecDepth 40000
set_option maxHeartbeats 1600000
theorem part_F (mk : Mk) (k lo : Nat) (s : ByteArray) (mark : Int) (n : Nat) (hk : s.size + 8 ≤ k) (hs : s.size ≤ 100000) (hn : n ≤ 1000) (H : List Blk) :
    Ends (FF mk k lo 84 [.str s, .int .u8 mark, .int .i64 (n : Int)] H) fun r => r.2 = H ∧ ∃ t : ByteArray, r.1 = .str t ∧ t.size ≤ s.size := by
  obtain ⟨k, rfl⟩ : ∃ m, k = m + 1 := ⟨k - 1, by omega⟩
  conv => enter [1]; whnf
  refine Ends.loopK (fun m T M => ∃ (i f z : Nat), i ≤ s.size + 1 ∧ f ≤ i ∧ z ≤ 1000 ∧ s.size + 1 - i < m ∧ T = [.str s, .int .u8 mark, .int .i64 (z : Int), .undef, .undef, .undef, .undef, .int .i64 (f : Int), .int .i64 (i : Int), .undef, .undef, .undef, .undef, .undef, .undef, .undef, .undef, .undef, .undef, .undef, .undef, .undef, .undef, .undef, .undef, .undef, .undef, .undef, .undef, .undef, .undef, .undef, .undef, .undef, .undef, .undef] ∧ M = ⟨[], H⟩) (fun T M ⟨i, f, z, _, _, _, h, _⟩ => by omega) ?_ _ _ ⟨0, 0, n, by omega, by omega, hn, by omega, rfl, rfl⟩
  rintro m T M L KK hKK ⟨i, f, z, i1, f1, z1, i2, rfl, rfl⟩ hL
  conv => enter [1]; whnf
  by_cases c : i ≤ s.size
  · have body : ∀ (P : Prop), P → P := fun _ h => h
    refine Ends.iteT (decide_eq_true (by omega)) ?_
    conv => enter [1]; whnf
    by_cases d : i < s.size
    · have d2 : (i : Int) < (s.size : Int) := by omega
      have d3 : (0 : Int) ≤ (i : Int) ∧ (i : Int) < (s.size : Int) := by omega
      refine Ends.iteT (by rw [decide_eq_true d2]; rfl) ?_
      conv => enter [1]; whnf
      refine Ends.iteT (decide_eq_true d3) ?_
      conv => enter [1]; whnf
      refine Ends.ite (fun h => ?_) (fun h => ?_) <;> (conv => enter [1]; whnf)
      · refine hL _ ⟨i + 1, f, z, by omega, by omega, z1, by omega, ?_, rfl⟩
        rw [← w64s1 i (by omega)]; rfl
      · by_cases q : z = 0
        · subst q
          conv => enter [1]; whnf
          refine Ends.iteT (decide_eq_true (by omega)) ?_
          conv => enter [1]; whnf
          rw [hKK]
          conv => enter [1]; whnf
          exact Ends.some' ⟨rfl, _, rfl, ext_size _ _ _⟩
        · skip
          refine Ends.iteF (by simp [q]) ?_
          conv => enter [1]; whnf
          refine hL _ ⟨i + 1, i + 1, z - 1, by omega, by omega, by omega, by omega, ?_, rfl⟩
          have e : IntKind.i64.wrap ((z : Int) - 1) = ((z - 1 : Nat) : Int) := by rw [w64]; omega
          rw [← w64s1 i (by omega), ← e]; rfl
    · have d2 : ¬ (i : Int) < (s.size : Int) := by omega
      refine Ends.iteF (by rw [decide_eq_false d2]; rfl) ?_
      conv => enter [1]; whnf
      by_cases q : z = 0
      · subst q
        conv => enter [1]; whnf
        refine Ends.iteT (decide_eq_true (by omega)) ?_
        conv => enter [1]; whnf
        rw [hKK]
        conv => enter [1]; whnf
        exact Ends.some' ⟨rfl, _, rfl, ext_size _ _ _⟩
      · skip
        refine Ends.iteF (by simp [q]) ?_
        conv => enter [1]; whnf
        refine hL _ ⟨i + 1, i + 1, z - 1, by omega, by omega, by omega, by omega, ?_, rfl⟩
        have e : IntKind.i64.wrap ((z : Int) - 1) = ((z - 1 : Nat) : Int) := by rw [w64]; omega
        rw [← w64s1 i (by omega), ← e]; rfl
  · refine Ends.iteF (decide_eq_false (by omega)) ?_
    conv => enter [1]; whnf
    rw [hKK]
    conv => enter [1]; whnf
    exact Ends.some' ⟨rfl, _, rfl, Nat.zero_le _⟩
theorem find_F (mk : Mk) (k lo : Nat) (s w : ByteArray) (hk : s.size + 8 ≤ k) (hs : s.size ≤ 100000) (H : List Blk) :
    Ends (FF mk k lo 85 [.str s, .str w] H) fun r => r.2 = H ∧ ∃ z : Nat, r.1 = .int .i64 (z : Int) ∧ z ≤ s.size := by
  obtain ⟨k, rfl⟩ : ∃ m, k = m + 1 := ⟨k - 1, by omega⟩
  conv => enter [1]; whnf
  refine Ends.loopK (fun m T M => ∃ (i f z : Nat), i ≤ s.size ∧ f ≤ i ∧ z ≤ i + 1 ∧ s.size - i < m ∧ T = [.str s, .str w, .undef, .undef, .undef, .int .i64 (z : Int), .int .i64 (f : Int), .int .i64 (i : Int), .undef, .undef, .undef, .undef, .undef, .undef, .undef, .undef, .undef, .undef, .undef, .undef, .undef, .undef, .undef, .undef, .undef, .undef, .undef, .undef, .undef] ∧ M = ⟨[], H⟩) (fun T M ⟨i, f, z, _, _, _, h, _⟩ => by omega) ?_ _ _ ⟨0, 0, 1, by omega, by omega, by omega, by omega, rfl, rfl⟩
  rintro m T M L KK hKK ⟨i, f, z, i1, f1, z1, i2, rfl, rfl⟩ hL
  conv => enter [1]; whnf
  by_cases c : i < s.size
  · have d3 : (0 : Int) ≤ (i : Int) ∧ (i : Int) < (s.size : Int) := by omega
    refine Ends.iteT (decide_eq_true (by omega)) ?_
    conv => enter [1]; whnf
    refine Ends.iteT (decide_eq_true d3) ?_
    conv => enter [1]; whnf
    refine Ends.ite (fun h => ?_) (fun h => ?_) <;> (conv => enter [1]; whnf)
    · refine hL _ ⟨i + 1, f, z, by omega, by omega, by omega, by omega, ?_, rfl⟩
      rw [← w64s1 i (by omega)]; rfl
    · refine Ends.iteT (decide_eq_true (by omega)) ?_
      conv => enter [1]; whnf
      refine Ends.ite (fun h => ?_) (fun h => ?_) <;> (conv => enter [1]; whnf)
      · rw [hKK]
        conv => enter [1]; whnf
        exact Ends.some' ⟨rfl, z, rfl, by omega⟩
      · refine hL _ ⟨i + 1, i + 1, z + 1, by omega, by omega, by omega, by omega, ?_, rfl⟩
        rw [← w64s1 i (by omega), ← w64s1 z (by omega)]; rfl
  · refine Ends.iteF (decide_eq_false (by omega)) ?_
    conv => enter [1]; whnf
    rw [hKK]
    conv => enter [1]; whnf
    exact Ends.some' ⟨rfl, 0, rfl, Nat.zero_le _⟩
end Go.Proofs.YtponkdimnafppaaDoor.VM
