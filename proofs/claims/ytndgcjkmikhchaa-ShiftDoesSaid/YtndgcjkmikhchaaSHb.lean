/- Shifts by the plain machine: the reference's smallest functions. -/
import Derived.Test.YtndgcjkmikhchaaSHa
namespace Go.Proofs.Ytndgcjkmikhchaa.VM
open Go Go.RowKit
open Sh
set_option linter.unusedVariables false
set_option linter.unusedSimpArgs false
set_option maxRecDepth 40000
set_option maxHeartbeats 1600000
theorem i64N (a : Nat) (h : a < 9223372036854775808) : IntKind.i64.wrap (a : Int) = (a : Int) := by rw [w64]; omega
theorem bit_F (mk : Mk) (k lo : Nat) (hk : 18 ≤ k) (v i : Nat) (hv : v < 65536) (hi : i < 16) (H : List Blk) : FF mk k lo 12 [.int .u16 v, .int .i64 i] H = some (.int .i64 (v / 2 ^ i % 2 : Nat), H) := by
  obtain ⟨k, rfl⟩ : ∃ m, k = m + 1 := ⟨k - 1, by omega⟩
  refine eq_of_ends ?_
  conv => enter [1]; whnf
  refine Ends.loop (fun m T M => ∃ j, j ≤ i ∧ i - j < m ∧ T = [.int .u16 ((v / 2 ^ j : Nat) : Int), .int .i64 i, .undef, .undef, .undef, .int .i64 j, .undef, .undef, .undef, .undef, .undef, .undef, .undef, .undef, .undef, .undef] ∧ M = ⟨[], H⟩) (fun T M ⟨j, _, h, _⟩ => by omega) ?_ _ _ ⟨0, by omega, by omega, by rw [Nat.pow_zero, Nat.div_one]; rfl, rfl⟩
  rintro m T M L ⟨j, h1, h2, rfl, rfl⟩ hL
  conv => enter [1]; whnf
  refine Ends.ite (fun h => ?_) (fun h => ?_) <;> (conv => enter [1]; whnf)
  · have hj : j < i := by have := of_decide_eq_true h; omega
    refine hL _ ⟨j + 1, by omega, by omega, ?_, rfl⟩
    have e1 : IntKind.u16.wrap (((v / 2 ^ j : Nat) : Int).tdiv 2) = ((v / 2 ^ (j + 1) : Nat) : Int) := by
      rw [show (2 : Int) = ((2 : Nat) : Int) from rfl, tdivN, wrapN, Nat.pow_succ, ← Nat.div_div_eq_div_mul]
      have := Nat.div_le_self v (2 ^ j)
      generalize v / 2 ^ j = x at *
      congr 1; omega
    have e2 : IntKind.i64.wrap ((j : Int) + 1) = ((j + 1 : Nat) : Int) := by rw [← i64N (j + 1) (by omega)]; rfl
    rw [← e1, ← e2]
    rfl
  · have hj : j = i := by have := of_decide_eq_false h; omega
    subst hj
    refine Ends.some' ?_
    have := Nat.div_le_self v (2 ^ j)
    rw [show (2 : Int) = ((2 : Nat) : Int) from rfl, tmodN, i64N _ (by omega)]
theorem size_F (mk : Mk) (k lo : Nat) (hk : 1 ≤ k) (wide : Bool) (H : List Blk) : FF mk k lo 11 [.bool wide] H = some (.int .i64 (szN wide : Nat), H) := by
  obtain ⟨k, rfl⟩ : ∃ m, k = m + 1 := ⟨k - 1, by omega⟩
  cases wide <;> kernel_rfl
theorem cutR_F (mk : Mk) (k lo : Nat) (hk : 1 ≤ k) (v : Nat) (hv : v < 65536) (wide : Bool) (H : List Blk) : FF mk k lo 18 [.int .u16 v, .bool wide] H = some (.int .u16 (cutN v wide : Nat), H) := by
  obtain ⟨k, rfl⟩ : ∃ m, k = m + 1 := ⟨k - 1, by omega⟩
  cases wide
  all_goals
    refine eq_of_ends ?_
    conv => enter [1]; whnf
    repeat' (first
      | refine Ends.some' ?_
      | (refine Ends.force ?_; conv => enter [1]; whnf)
      | (refine Ends.forceN ?_; conv => enter [1]; whnf)
      | (refine Ends.forceLs ?_; conv => enter [1]; whnf)
      | (refine Ends.iteT (by first | with_reducible assumption | (simp [*]; done) | (apply decide_eq_true; omega) | fail "open") ?_; conv => enter [1]; whnf)
      | (refine Ends.iteF (by first | with_reducible assumption | (simp [*]; done) | (apply decide_eq_false; omega) | fail "open") ?_; conv => enter [1]; whnf)
      | (refine Ends.ite (fun h => ?_) (fun h => ?_) <;> (conv => enter [1]; whnf)))
  all_goals simp only [Prod.mk.injEq, Val.int.injEq, true_and, and_true, cutN, MM]
  · rw [show (256 : Int) = ((256 : Nat) : Int) from rfl, tmodN]; rfl
  · simp; omega
theorem ones_F (mk : Mk) (k lo : Nat) (hk : 12 ≤ k) (v : Nat) (hv : v < 65536) (H : List Blk) : FF mk k lo 19 [.int .u16 v, .int .i64 8] H = some (.int .i64 (onesN v 8 : Nat), H) := by
  obtain ⟨k, rfl⟩ : ∃ m, k = m + 12 := ⟨k - 12, by omega⟩
  refine eq_of_ends ?_
  conv => enter [1]; whnf
  refine Ends.some' ?_
  have h2 : (2 : Int) = ((2 : Nat) : Int) := rfl
  have h0 : (0 : Int) = ((0 : Nat) : Int) := rfl
  simp only [h2, tdivN, tmodN, wrapN]
  rw [h0]
  have m65 : ∀ x : Nat, x < 65536 → x % 65536 = x := fun x h => Nat.mod_eq_of_lt h
  have d2 : ∀ x : Nat, x < 65536 → x / 2 < 65536 := fun x h => by omega
  simp only [onesN]
  simp (disch := omega) only [m65, i64N, addN]
  simp only [Prod.mk.injEq, Val.int.injEq, true_and, and_true]
  omega
theorem signsR_F (mk : Mk) (k lo : Nat) (hk : 30 ≤ k) (v : Nat) (hv : v < 65536) (wide : Bool) (H : List Blk) : FF mk k lo 14 [.int .u16 v, .bool wide] H = some (.int .u16 (signsN v wide : Nat), H) := by
  obtain ⟨k, rfl⟩ : ∃ m, k = m + 1 := ⟨k - 1, by omega⟩
  have hc : cutN v wide < 65536 := by unfold cutN MM; split <;> omega
  have e7 : IntKind.i64.wrap (((szN wide : Nat) : Int) - 1) = ((szN wide - 1 : Nat) : Int) := by cases wide <;> rfl
  have eb : ∀ H, FF mk k lo 12 [.int .u16 (cutN v wide : Nat), .int .i64 (IntKind.i64.wrap (((szN wide : Nat) : Int) - 1))] H = some (.int .i64 (v / HH wide % 2 : Nat), H) := by
    intro H
    rw [e7, bit_F mk k lo (by omega) _ _ hc (by cases wide <;> decide)]
    have : cutN v wide / 2 ^ (szN wide - 1) % 2 = v / HH wide % 2 := by
      cases wide <;> simp only [cutN, MM, HH, szN, Bool.false_eq_true, if_true, if_false]
      · omega
      · omega
    rw [this]
  have eo : ∀ H, FF mk k lo 19 [.int .u16 ((cutN v wide : Int).tmod 256), .int .i64 8] H = some (.int .i64 (onesN (v % 256) 8 : Nat), H) := by
    intro H
    have : cutN v wide % 256 = v % 256 := by cases wide <;> simp only [cutN, MM, Bool.false_eq_true, if_true, if_false] <;> omega
    rw [show (256 : Int) = ((256 : Nat) : Int) from rfl, tmodN, this]
    exact ones_F mk k lo (by omega) _ (by omega) H
  refine eq_of_ends ?_
  conv => enter [1]; whnf
  repeat' (first
    | refine Ends.some' ?_
    | (refine Ends.force ?_; conv => enter [1]; whnf)
    | (refine Ends.forceN ?_; conv => enter [1]; whnf)
    | (refine Ends.forceLs ?_; conv => enter [1]; whnf)
    | (refine Ends.call (cutR_F _ _ _ (by omega) _ hv _ _) ?_; conv => enter [1]; whnf)
    | (refine Ends.call (size_F _ _ _ (by omega) _ _) ?_; conv => enter [1]; whnf)
    | (refine Ends.call (eb _) ?_; conv => enter [1]; whnf)
    | (refine Ends.call (eo _) ?_; conv => enter [1]; whnf)
    | (refine Ends.iteT (by first | with_reducible assumption | (simp [*]; done) | (apply decide_eq_true; omega) | fail "open") ?_; conv => enter [1]; whnf)
    | (refine Ends.iteF (by first | with_reducible assumption | (simp [*]; done) | (apply decide_eq_false; omega) | fail "open") ?_; conv => enter [1]; whnf)
    | (refine Ends.ite (fun h => ?_) (fun h => ?_) <;> (conv => enter [1]; whnf)))
  all_goals (simp only [bne_iff_ne, ne_eq, beq_iff_eq, bne_eq_false_iff_eq, beq_eq_false_iff_ne, Prod.mk.injEq, Val.int.injEq, true_and, and_true, decide_eq_true_eq] at *)
  all_goals (
    clear eb eo
    rw [show (2 : Int) = ((2 : Nat) : Int) from rfl, tmodN] at *
    unfold signsN
    norm_cast at *
    generalize v / HH wide % 2 = q at *
    generalize onesN (v % 256) 8 % 2 = p at *
    generalize cutN v wide = z at *)
  all_goals (repeat' split)
  all_goals (first | rfl | (exfalso; omega))
end Go.Proofs.Ytndgcjkmikhchaa.VM
