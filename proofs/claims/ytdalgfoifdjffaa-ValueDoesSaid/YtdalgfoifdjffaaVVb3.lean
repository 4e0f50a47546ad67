/- ValueDoes by the plain machine: a word. -/
import Derived.Test.YtdalgfoifdjffaaVVa
namespace Go.Proofs.Ytdalgfoifdjffaa.VM
open Go Go.RowKit
set_option linter.unusedVariables false
set_option linter.unusedSimpArgs false
set_option maxRecDepth 40000
set_option maxHeartbeats 1600000
theorem sh_mn (y : Int) : min (y % 32).toNat IntKind.i64.bits = (y % 32).toNat := by
  have : IntKind.i64.bits = 64 := rfl
  omega
theorem sh_mn2 (y : Int) : min (y % 32).toNat IntKind.u32.bits = (y % 32).toNat := by
  have : IntKind.u32.bits = 32 := rfl
  omega
theorem sh_pow (y : Int) : 1 ≤ (2 : Int) ^ (y % 32).toNat ∧ (2 : Int) ^ (y % 32).toNat ≤ 2147483648 := by
  have h : (y % 32).toNat ≤ 31 := by omega
  have h1 : 2 ^ (y % 32).toNat ≤ 2 ^ 31 := Nat.pow_le_pow_right (by decide) h
  have h2 : 0 < 2 ^ (y % 32).toNat := Nat.pow_pos (by decide)
  have h3 : ((2 ^ (y % 32).toNat : Nat) : Int) = (2 : Int) ^ (y % 32).toNat := by simp
  rw [← h3]
  omega
theorem sh_u (y : Int) : IntKind.u64.wrap (IntKind.i64.wrap ↑(BitVec.ofInt IntKind.i64.bits y &&& BitVec.ofInt IntKind.i64.bits 31).toNat) = y % 32 := by
  rw [and64_31, wu64]; omega
theorem sh_pw (y : Int) : IntKind.i64.wrap (1 * 2 ^ min (IntKind.u64.wrap (IntKind.i64.wrap ↑(BitVec.ofInt IntKind.i64.bits y &&& BitVec.ofInt IntKind.i64.bits 31).toNat)).toNat IntKind.i64.bits) = 2 ^ (y % 32).toNat := by
  rw [sh_u, sh_mn, Int.one_mul, w64]
  have := sh_pow y
  omega
theorem sh_sg (y : Int) : decide (IntKind.u64.wrap (IntKind.i64.wrap ↑(BitVec.ofInt IntKind.i64.bits y &&& BitVec.ofInt IntKind.i64.bits 31).toNat) < 0) = false := by
  rw [sh_u]; simp only [decide_eq_false_iff_not]; omega
theorem sh_sn (y : Int) : decide (IntKind.i64.wrap (1 * 2 ^ min (IntKind.u64.wrap (IntKind.i64.wrap ↑(BitVec.ofInt IntKind.i64.bits y &&& BitVec.ofInt IntKind.i64.bits 31).toNat)).toNat IntKind.i64.bits) ≠ 0) = true := by
  rw [sh_pw]; have := sh_pow y; simp only [decide_eq_true_eq]; omega
theorem sh_dv (x y : Int) (h : -2147483648 ≤ x ∧ x < 2147483648) : ((IntKind.i64.wrap (x + 4294967296)).tmod 4294967296).tdiv (2 ^ (y % 32).toNat) = (IntKind.u32.wrap x).fdiv (2 ^ (y % 32).toNat) := by
  have hp := sh_pow y
  rw [fdiv_pos _ _ (by omega), tdiv_pos _ _ (by omega), tmod_pos _ 4294967296 (by decide), wu32, w64]
  rw [show (x + 4294967296 + 9223372036854775808) % 18446744073709551616 - 9223372036854775808 = x + 4294967296 by omega]
  rw [if_pos (show 0 ≤ x + 4294967296 by omega), if_pos (by omega), show (x + 4294967296) % 4294967296 = x % 4294967296 by omega]
theorem does3 (a b word : Int) (ha : I64 a) (hb : I64 b) (hw : word % 16 = 3) : Ends (FF 13 0 7 [.int .i64 a, .int .i64 b, .int .i64 word] []) (fun r => r.1 = .bool true) := by
  obtain ⟨k, hk⟩ : ∃ k, k = 12 := ⟨_, rfl⟩
  show Ends (FF (12 + 1) 0 7 _ _) _
  rw [← hk]
  conv => enter [1]; whnf
  refine Ends.call (cut_F _ _ (by omega) _ (by assumption) _) ?_
  conv => enter [1]; whnf
  refine Ends.call (cut_F _ _ (by omega) _ (by assumption) _) ?_
  conv => enter [1]; whnf
  refine Ends.ite (fun h => ?_) (fun h => ?_) <;> clear h <;> (conv => enter [1]; whnf)
  · simp only [and64_15, hw]
    conv => enter [1]; whnf
    generalize hyy : b % 16 = y
    generalize hx : cutZ a = x
    have Hy : 0 ≤ y ∧ y < 16 := by omega
    have cy : cutZ y = y := cutZ_id (by omega)
    clear hyy
    have sg := sh_sg y
    have sn := sh_sn y
    have Hx : -2147483648 ≤ x ∧ x < 2147483648 := by rw [← hx]; unfold cutZ; omega
    clear ha hb
    repeat' (first
      | refine Ends.some' ?_
      | (refine Ends.call (do_N _ _ _ _ (by omega) _) ?_; conv => enter [1]; whnf)
      | (refine Ends.call (do_F _ _ _ _ _ _ _ (by omega) _ (fun k lo h => reckon3 k lo h _ _ _)) ?_; conv => enter [1]; whnf)
      | (refine Ends.call (numZ_F _ _ (by omega) _ _ (by assumption) _) ?_; conv => enter [1]; whnf)
      | (refine Ends.call (awake29_F _ _ (by omega) _) ?_; conv => enter [1]; whnf)
      | (refine Ends.call (cut_F _ _ (by omega) _ (i64_wrap _) _) ?_; conv => enter [1]; whnf)
      | (refine Ends.call (cut_F _ _ (by omega) _ (by first | assumption | (unfold I64; omega)) _) ?_; conv => enter [1]; whnf)
      | (refine Ends.iteT (by first | with_reducible assumption | (simp [*]; done) | fail "open") ?_; conv => enter [1]; whnf)
      | (refine Ends.iteF (by first | with_reducible assumption | (simp [*]; done) | fail "open") ?_; conv => enter [1]; whnf)
      | (refine Ends.ite (fun h => ?_) (fun h => ?_) <;> (conv => enter [1]; whnf)))
    all_goals (simp only [sh_pw, sh_mn, sh_mn2, sh_dv x y Hx] at *)
    all_goals (first | (with_reducible rfl) | (simp_all; done))
  · simp only [and64_15, hw]
    conv => enter [1]; whnf
    generalize hyy : cutZ b = y
    generalize hx : cutZ a = x
    have Hy : -2147483648 ≤ y ∧ y < 2147483648 := by rw [← hyy]; unfold cutZ; omega
    have cy : cutZ y = y := cutZ_id (by omega)
    clear hyy
    have sg := sh_sg y
    have sn := sh_sn y
    have Hx : -2147483648 ≤ x ∧ x < 2147483648 := by rw [← hx]; unfold cutZ; omega
    clear ha hb
    repeat' (first
      | refine Ends.some' ?_
      | (refine Ends.call (do_N _ _ _ _ (by omega) _) ?_; conv => enter [1]; whnf)
      | (refine Ends.call (do_F _ _ _ _ _ _ _ (by omega) _ (fun k lo h => reckon3 k lo h _ _ _)) ?_; conv => enter [1]; whnf)
      | (refine Ends.call (numZ_F _ _ (by omega) _ _ (by assumption) _) ?_; conv => enter [1]; whnf)
      | (refine Ends.call (awake29_F _ _ (by omega) _) ?_; conv => enter [1]; whnf)
      | (refine Ends.call (cut_F _ _ (by omega) _ (i64_wrap _) _) ?_; conv => enter [1]; whnf)
      | (refine Ends.call (cut_F _ _ (by omega) _ (by first | assumption | (unfold I64; omega)) _) ?_; conv => enter [1]; whnf)
      | (refine Ends.iteT (by first | with_reducible assumption | (simp [*]; done) | fail "open") ?_; conv => enter [1]; whnf)
      | (refine Ends.iteF (by first | with_reducible assumption | (simp [*]; done) | fail "open") ?_; conv => enter [1]; whnf)
      | (refine Ends.ite (fun h => ?_) (fun h => ?_) <;> (conv => enter [1]; whnf)))
    all_goals (simp only [sh_pw, sh_mn, sh_mn2, sh_dv x y Hx] at *)
    all_goals (first | (with_reducible rfl) | (simp_all; done))
end Go.Proofs.Ytdalgfoifdjffaa.VM
