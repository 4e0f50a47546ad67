/- The walk of the law FloatLess: it returns true at every input. -/
import Derived.Test.YtdhingmjnhhjnaaFloatV
import Derived.Test.YtdhingmjnhhjnaaLem
namespace Go.Proofs.Ytdhingmjnhhjnaa.My
open Go.RowKit Go.Proofs.YtdhingmjnhhjnaaW.PrintWords Go.Proofs.YtdhingmjnhhjnaaW.PrintLast Go.Proofs.YtdhingmjnhhjnaaW.PrintMore
set_option linter.unusedVariables false
set_option linter.unusedSimpArgs false
theorem wf_u32l {a : Int} (h : (Lit.int .u32 a).wf = true) : 0 ≤ a ∧ a < 4294967296 := by
  simp [Lit.wf, IntKind.min, IntKind.max, IntKind.signed, IntKind.bits] at h; omega
theorem i64_low (n : Int) (j : Nat) (hj : j ≤ 2) (m : Int) (hm : (BitVec.ofInt 64 m).toNat = 2 ^ j - 1) : Go.bits .and .i64 n m = n % (2 ^ j : Nat) := by
  have key : (BitVec.ofInt 64 n &&& BitVec.ofInt 64 m).toNat = (n % ((2 ^ 64 : Nat) : Int)).toNat % 2 ^ j := by
    rw [BitVec.toNat_and, BitVec.toNat_ofInt, hm, Nat.and_two_pow_sub_one_eq_mod]
  show IntKind.i64.wrap ((BitVec.ofInt 64 n &&& BitVec.ofInt 64 m).toNat : Nat) = n % (2 ^ j : Nat)
  rw [key, IntKind.wrap_i64]
  rcases (show j = 0 ∨ j = 1 ∨ j = 2 by omega) with rfl | rfl | rfl <;> simp <;> omega
theorem i64_two (n : Int) : Go.bits .and .i64 n 2 = n % 4 / 2 * 2 := by
  have h2 : (BitVec.ofInt 64 2).toNat = 2 := by decide
  have key : (BitVec.ofInt 64 n &&& BitVec.ofInt 64 2).toNat = (n % ((2 ^ 64 : Nat) : Int)).toNat / 2 % 2 * 2 := by
    rw [BitVec.toNat_and, BitVec.toNat_ofInt, h2]; exact nat_bit 1 _
  show IntKind.i64.wrap ((BitVec.ofInt 64 n &&& BitVec.ofInt 64 2).toNat : Nat) = n % 4 / 2 * 2
  rw [key, IntKind.wrap_i64]
  omega
theorem and24 (a : Int) (h0 : 0 ≤ a) (h1 : a < 4294967296) : ∃ x : Nat, Go.bits .and .u64 a 16777215 = (x : Int) ∧ x ≤ 16777215 := by
  obtain ⟨a, rfl⟩ := Int.eq_ofNat_of_zero_le h0
  have h := u64_and_nat a 16777215 (by omega) (by omega)
  rw [show ((16777215 : Nat) : Int) = 16777215 from rfl] at h
  exact ⟨a &&& 16777215, h, Nat.and_le_right⟩
theorem quot_p (s : Bool) (x y : Nat) (x2 : x ≤ 16777215) (y2 : y ≤ 16777215) (w : World) : Calls Try.prog 14 #[.bool s, .int .u64 x, .int .u64 ((y : Int) + 1)] w fun e w' => e = .returned (.int .u64 ((sgnW s (quoW x (y + 1)) : Nat) : Int)) ∧ w = w' := by
  obtain ⟨hW, hd⟩ := quoW_spec x (y + 1) (by omega) (by omega) (by omega)
  refine quot_c s x ((y : Int) + 1) x (y + 1) _ _ (by rw [if_neg (by omega)]) (by rw [if_neg (by omega)]; omega) rfl (float_lt x (by omega)) (hd s) ?_ w
  unfold sgnW
  exact kindF_lt _ hW s
theorem floatLess_w (a0 a1 b0 b1 sign : Int) (w : World) (p0 : (Lit.int .u32 a0).wf = true) (p1 : (Lit.int .u32 a1).wf = true) (p2 : (Lit.int .u32 b0).wf = true) (p3 : (Lit.int .u32 b1).wf = true) (p4 : (Lit.int .i64 sign).wf = true) :
    Calls Try.prog 4 #[.agg #[.int .u32 a0, .int .u32 a1], .agg #[.int .u32 b0, .int .u32 b1], .int .i64 sign] w fun e w' => e = .returned (.bool true) ∧ Below w.heap.size w w' := by
  obtain ⟨c0, c1⟩ := wf_u32l p0
  obtain ⟨c2, c3⟩ := wf_u32l p1
  obtain ⟨c4, c5⟩ := wf_u32l p2
  obtain ⟨c6, c7⟩ := wf_u32l p3
  obtain ⟨x, hx, x2⟩ := and24 a0 c0 c1
  obtain ⟨y, hy, y2⟩ := and24 a1 c2 c3
  obtain ⟨v, hv, v2⟩ := and24 b0 c4 c5
  obtain ⟨u, hu, u2⟩ := and24 b1 c6 c7
  have wr : ∀ n : Int, 0 ≤ n → n < 4294967296 → IntKind.u64.wrap n = n := fun n h1 h2 => by rw [IntKind.wrap_u64]; omega
  have hL : (x : Int) * ((u : Int) + 1) = ((x * (u + 1) : Nat) : Int) := by rw [Int.natCast_mul]; rfl
  have hR : (v : Int) * ((y : Int) + 1) = ((v * (y + 1) : Nat) : Int) := by rw [Int.natCast_mul]; rfl
  have L2 : x * (u + 1) ≤ 281474976710656 := Nat.le_trans (Nat.mul_le_mul (show x ≤ 16777216 by omega) (show u + 1 ≤ 16777216 by omega)) (by decide)
  have R2 : v * (y + 1) ≤ 281474976710656 := Nat.le_trans (Nat.mul_le_mul (show v ≤ 16777216 by omega) (show y + 1 ≤ 16777216 by omega)) (by decide)
  have K1 := i64_low sign 1 (by decide) 1 (by decide)
  have K3 := i64_low sign 2 (by decide) 3 (by decide)
  have K2 := i64_two sign
  rw [show ((2 ^ 1 : Nat) : Int) = 2 from rfl] at K1
  rw [show ((2 ^ 2 : Nat) : Int) = 4 from rfl] at K3
  have LQ := fun s t => less_quo s t x (y + 1) v (u + 1) (by omega) (by omega) (by omega) (by omega) (by omega) (by omega)
  have IQ := fun s => ord_inf s (quoW x (y + 1)) (quoW_spec x (y + 1) (by omega) (by omega) (by omega)).1
  rcases (show sign % 4 = 0 ∨ sign % 4 = 1 ∨ sign % 4 = 2 ∨ sign % 4 = 3 by omega) with h | h | h | h
  · exact fl_0 a0 a1 b0 b1 sign x y v u _ _ _ _ hx hy hv hu (wr _ c0 c1) (wr _ c2 c3) (wr _ c4 c5) (wr _ c6 c7) (wr _ (by omega) (by omega)) (wr _ (by omega) (by omega)) x2 y2 v2 u2 (by rw [K1]; omega) (by rw [K2]; omega) (by rw [K3]; omega) hL hR L2 R2 (quot_p false x y x2 y2) (quot_p false v u v2 u2) (LQ false false) (IQ false) w
  · exact fl_1 a0 a1 b0 b1 sign x y v u _ _ _ _ hx hy hv hu (wr _ c0 c1) (wr _ c2 c3) (wr _ c4 c5) (wr _ c6 c7) (wr _ (by omega) (by omega)) (wr _ (by omega) (by omega)) x2 y2 v2 u2 (by rw [K1]; omega) (by rw [K2]; omega) (by rw [K3]; omega) hL hR L2 R2 (quot_p true x y x2 y2) (quot_p false v u v2 u2) (LQ true false) (IQ true) w
  · exact fl_2 a0 a1 b0 b1 sign x y v u _ _ _ _ hx hy hv hu (wr _ c0 c1) (wr _ c2 c3) (wr _ c4 c5) (wr _ c6 c7) (wr _ (by omega) (by omega)) (wr _ (by omega) (by omega)) x2 y2 v2 u2 (by rw [K1]; omega) (by rw [K2]; omega) (by rw [K3]; omega) hL hR L2 R2 (quot_p false x y x2 y2) (quot_p true v u v2 u2) (LQ false true) (IQ false) w
  · exact fl_3 a0 a1 b0 b1 sign x y v u _ _ _ _ hx hy hv hu (wr _ c0 c1) (wr _ c2 c3) (wr _ c4 c5) (wr _ c6 c7) (wr _ (by omega) (by omega)) (wr _ (by omega) (by omega)) x2 y2 v2 u2 (by rw [K1]; omega) (by rw [K2]; omega) (by rw [K3]; omega) hL hR L2 R2 (quot_p true x y x2 y2) (quot_p true v u v2 u2) (LQ true true) (IQ true) w
end Go.Proofs.Ytdhingmjnhhjnaa.My
