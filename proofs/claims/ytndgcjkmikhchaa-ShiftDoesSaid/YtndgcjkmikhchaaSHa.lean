/- Shifts by the plain machine: plain facts, and the smallest functions. -/
import Derived.Test.YtndgcjkmikhchaaWB
namespace Go.Proofs.Ytndgcjkmikhchaa.VM
open Go Go.RowKit
set_option linter.unusedVariables false
set_option linter.unusedSimpArgs false
set_option maxRecDepth 40000
set_option maxHeartbeats 1600000
namespace Sh
def b2n (c : Bool) : Nat := if c then 1 else 0
theorem b2n_le (c : Bool) : b2n c ≤ 1 := by cases c <;> decide
def MM (wide : Bool) : Nat := if wide then 65536 else 256
def HH (wide : Bool) : Nat := if wide then 32768 else 128
def szN (wide : Bool) : Nat := if wide then 16 else 8
def cutN (v : Nat) (wide : Bool) : Nat := v % MM wide
def onesN (n : Nat) : Nat → Nat
  | 0 => 0
  | k + 1 => n % 2 + onesN (n / 2) k
def signsN (v : Nat) (wide : Bool) : Nat := (if v / HH wide % 2 = 1 then 128 else 0) + (if cutN v wide = 0 then 64 else 0) + (if onesN (v % 256) 8 % 2 = 0 then 4 else 0)
end Sh
open Sh
theorem orN (a b : Nat) (ha : a < 65536) (hb : b < 65536) : IntKind.u16.wrap ((BitVec.ofInt IntKind.u16.bits (a : Int) ||| BitVec.ofInt IntKind.u16.bits (b : Int)).toNat : Nat) = ((a ||| b : Nat) : Int) := by
  have e1 : (BitVec.ofInt IntKind.u16.bits ((a : Int))).toNat = a := by
    rw [BitVec.toNat_ofInt]; show ((a : Int) % 65536).toNat = a; omega
  have e2 : (BitVec.ofInt IntKind.u16.bits ((b : Int))).toNat = b := by
    rw [BitVec.toNat_ofInt]; show ((b : Int) % 65536).toNat = b; omega
  rw [BitVec.toNat_or, e1, e2, wu16]
  have := Nat.or_lt_two_pow (n := 16) ha hb
  omega
theorem andN (a b : Nat) (ha : a < 65536) (hb : b < 65536) : IntKind.u16.wrap ((BitVec.ofInt IntKind.u16.bits (a : Int) &&& BitVec.ofInt IntKind.u16.bits (b : Int)).toNat : Nat) = ((a &&& b : Nat) : Int) := by
  have e1 : (BitVec.ofInt IntKind.u16.bits ((a : Int))).toNat = a := by
    rw [BitVec.toNat_ofInt]; show ((a : Int) % 65536).toNat = a; omega
  have e2 : (BitVec.ofInt IntKind.u16.bits ((b : Int))).toNat = b := by
    rw [BitVec.toNat_ofInt]; show ((b : Int) % 65536).toNat = b; omega
  rw [BitVec.toNat_and, e1, e2, wu16]
  have := Nat.lt_of_le_of_lt (Nat.and_le_left (n := a) (m := b)) ha
  omega
theorem wrapN (a : Nat) : IntKind.u16.wrap (a : Int) = ((a % 65536 : Nat) : Int) := by rw [wu16]; omega
theorem fdivN (a b : Nat) : ((a : Int).fdiv (b : Int)) = ((a / b : Nat) : Int) := by
  rw [Int.fdiv_eq_ediv_of_nonneg _ (by omega)]; rfl
theorem tdivN (a b : Nat) : ((a : Int).tdiv (b : Int)) = ((a / b : Nat) : Int) := Int.ofNat_tdiv a b
theorem tmodN (a b : Nat) : ((a : Int).tmod (b : Int)) = ((a % b : Nat) : Int) := Int.ofNat_tmod a b
theorem mulN (a b : Nat) : ((a : Int) * (b : Int)) = ((a * b : Nat) : Int) := rfl
theorem addN (a b : Nat) : ((a : Int) + (b : Int)) = ((a + b : Nat) : Int) := rfl
theorem and1N (a : Nat) : IntKind.u16.wrap ((BitVec.ofInt IntKind.u16.bits (a : Int) &&& BitVec.ofInt IntKind.u16.bits 1).toNat : Nat) = ((a % 2 : Nat) : Int) := by rw [and16_1]; rfl
theorem toN (a : Nat) (ha : a < 65536) : (BitVec.ofInt IntKind.u16.bits ((a : Int))).toNat = a := by
  rw [BitVec.toNat_ofInt]; show ((a : Int) % 65536).toNat = a; omega
theorem and1T (a : Nat) (ha : a < 65536) : (BitVec.ofInt IntKind.u16.bits (a : Int) &&& BitVec.ofInt IntKind.u16.bits 1).toNat = a % 2 := by
  have e2 : (BitVec.ofInt IntKind.u16.bits (1 : Int)).toNat = 1 := rfl
  rw [BitVec.toNat_and, toN a ha, e2, show (1 : Nat) = 2 ^ 1 - 1 from rfl, Nat.and_two_pow_sub_one_eq_mod]
theorem orT (a b : Nat) (ha : a < 65536) (hb : b < 65536) : (BitVec.ofInt IntKind.u16.bits (a : Int) ||| BitVec.ofInt IntKind.u16.bits (b : Int)).toNat = a ||| b := by
  rw [BitVec.toNat_or, toN a ha, toN b hb]
theorem orT0 (a : Nat) (ha : a < 65536) : (BitVec.ofInt IntKind.u16.bits (a : Int) ||| BitVec.ofInt IntKind.u16.bits 0).toNat = a := by
  have e2 : (BitVec.ofInt IntKind.u16.bits (0 : Int)).toNat = 0 := rfl
  rw [BitVec.toNat_or, toN a ha, e2, Nat.or_zero]
theorem orT1 (a : Nat) (ha : a < 65536) : (BitVec.ofInt IntKind.u16.bits (a : Int) ||| BitVec.ofInt IntKind.u16.bits 1).toNat = a ||| 1 := by
  have e2 : (BitVec.ofInt IntKind.u16.bits (1 : Int)).toNat = 1 := rfl
  rw [BitVec.toNat_or, toN a ha, e2]
theorem or_lo (a x : Nat) (ha : a % 2 = 0) (hx : x ≤ 1) : a ||| x = a + x := by
  obtain ⟨b, rfl⟩ : ∃ b, a = 2 ^ 1 * b := ⟨a / 2, by omega⟩
  rw [← Nat.two_pow_add_eq_or_of_lt (by omega)]
theorem or_hi (a x m : Nat) (ha : a < 2 ^ m) : a ||| x * 2 ^ m = a + x * 2 ^ m := by
  rw [Nat.or_comm, Nat.mul_comm, ← Nat.two_pow_add_eq_or_of_lt ha, Nat.add_comm]
theorem or_h7 (a x : Nat) (ha : a < 128) (hx : x ≤ 1) : a ||| x * 128 % 65536 = a + x * 128 := by
  rw [Nat.mod_eq_of_lt (by omega)]; exact or_hi a x 7 ha
theorem or_h15 (a x : Nat) (ha : a < 32768) (hx : x ≤ 1) : a ||| x * 32768 % 65536 = a + x * 32768 := by
  rw [Nat.mod_eq_of_lt (by omega)]; exact or_hi a x 15 ha
theorem or_c7 (a : Nat) (ha : a < 128) : a ||| 128 % 65536 = a + 128 := or_hi a 1 7 ha
theorem or_c15 (a : Nat) (ha : a < 32768) : a ||| 32768 % 65536 = a + 32768 := or_hi a 1 15 ha
theorem wrap0 : IntKind.u16.wrap 0 = 0 := rfl
theorem cutA_F (mk : Mk) (k lo : Nat) (hk : 1 ≤ k) (v : Nat) (hv : v < 65536) (wide : Bool) (H : List Blk) : FF mk k lo 7 [.int .u16 v, .bool wide] H = some (.int .u16 (cutN v wide : Nat), H) := by
  obtain ⟨k, rfl⟩ : ∃ m, k = m + 1 := ⟨k - 1, by omega⟩
  cases wide
  all_goals
    refine eq_of_ends ?_
    conv => enter [1]; whnf
    repeat' (first
      | refine Ends.some' ?_
      | (refine Ends.force ?_; conv => enter [1]; whnf)
      | (refine Ends.forceN ?_; conv => enter [1]; whnf)
      | (refine Ends.forceLs ?_; conv => enter [1]; whnf)
      | (refine Ends.iteT (by first | with_reducible assumption | (simp [*]; done) | (apply decide_eq_true; omega) | fail "open") ?_; conv => enter [1]; whnf)
      | (refine Ends.iteF (by first | with_reducible assumption | (simp [*]; done) | (apply decide_eq_false; omega) | fail "open") ?_; conv => enter [1]; whnf)
      | (refine Ends.ite (fun h => ?_) (fun h => ?_) <;> (conv => enter [1]; whnf)))
  all_goals simp only [Prod.mk.injEq, Val.int.injEq, true_and, and_true, cutN, MM]
  · rw [show (255 : Int) = ((255 : Nat) : Int) from rfl, andN v 255 hv (by decide), show (255 : Nat) = 2 ^ 8 - 1 from rfl, Nat.and_two_pow_sub_one_eq_mod]
    rfl
  · simp; omega
def evenE (b : Int) : Bool :=
  let b1 := IntKind.u8.wrap ((BitVec.ofInt IntKind.u8.bits b ^^^ BitVec.ofInt IntKind.u8.bits (b.fdiv (2 ^ min (Int.toNat 4) IntKind.u8.bits))).toNat : Nat)
  let b2 := IntKind.u8.wrap ((BitVec.ofInt IntKind.u8.bits b1 ^^^ BitVec.ofInt IntKind.u8.bits (b1.fdiv (2 ^ min (Int.toNat 2) IntKind.u8.bits))).toNat : Nat)
  let b3 := IntKind.u8.wrap ((BitVec.ofInt IntKind.u8.bits b2 ^^^ BitVec.ofInt IntKind.u8.bits (b2.fdiv (2 ^ min (Int.toNat 1) IntKind.u8.bits))).toNat : Nat)
  IntKind.u8.wrap ((BitVec.ofInt IntKind.u8.bits b3 &&& BitVec.ofInt IntKind.u8.bits 1).toNat : Nat) == 0
theorem evenE_all : ∀ n : Fin 256, evenE (n.1 : Int) = (onesN n.1 8 % 2 == 0) := by decide +kernel
theorem even_F (mk : Mk) (k lo : Nat) (hk : 1 ≤ k) (v : Nat) (hv : v < 256) (H : List Blk) : FF mk k lo 16 [.int .u8 v] H = some (.bool (onesN v 8 % 2 == 0), H) := by
  obtain ⟨k, rfl⟩ : ∃ m, k = m + 1 := ⟨k - 1, by omega⟩
  rw [← evenE_all ⟨v, hv⟩]
  refine eq_of_ends ?_
  conv => enter [1]; whnf
  refine Ends.some' ?_
  rfl
theorem low_N (v : Nat) : IntKind.u8.wrap (v : Int) = ((v % 256 : Nat) : Int) := by rw [wu8]; omega
theorem and_pow (v m : Nat) : v &&& 2 ^ m = v / 2 ^ m % 2 * 2 ^ m := by
  apply Nat.eq_of_testBit_eq
  intro i
  rw [Nat.testBit_and, Nat.testBit_two_pow]
  have hb : v.testBit m = decide (v / 2 ^ m % 2 = 1) := Nat.testBit_eq_decide_div_mod_eq
  rcases (by omega : v / 2 ^ m % 2 = 0 ∨ v / 2 ^ m % 2 = 1) with h | h
  · rw [h]
    by_cases e : m = i
    · subst e; simp [hb, h]
    · simp [e]
  · rw [h, Nat.one_mul, Nat.testBit_two_pow]
    by_cases e : m = i
    · subst e; simp [hb, h]
    · simp [e]
theorem topbit (v m : Nat) (hv : v < 65536) (hm : m < 16) : IntKind.u16.wrap ((BitVec.ofInt IntKind.u16.bits (v : Int) &&& BitVec.ofInt IntKind.u16.bits ((2 ^ m : Nat) : Int)).toNat : Nat) = ((v / 2 ^ m % 2 * 2 ^ m : Nat) : Int) := by
  have h2 : (2 : Nat) ^ m < 2 ^ 16 := Nat.pow_lt_pow_right (by decide) hm
  rw [andN v (2 ^ m) hv (by simpa using h2), and_pow]
theorem top_F (mk : Mk) (k lo : Nat) (hk : 1 ≤ k) (wide : Bool) (H : List Blk) : FF mk k lo 15 [.bool wide] H = some (.int .u16 (HH wide : Nat), H) := by
  obtain ⟨k, rfl⟩ : ∃ m, k = m + 1 := ⟨k - 1, by omega⟩
  cases wide <;> kernel_rfl
theorem evenV_F (mk : Mk) (k lo : Nat) (hk : 1 ≤ k) (v : Nat) (H : List Blk) : FF mk k lo 16 [.int .u8 ((v : Int) % 256)] H = some (.bool (onesN (v % 256) 8 % 2 == 0), H) := by
  rw [show ((v : Int) % 256) = ((v % 256 : Nat) : Int) from rfl]
  exact even_F mk k lo hk _ (by omega) H
theorem signsA_F (mk : Mk) (k lo : Nat) (hk : 3 ≤ k) (v : Nat) (hv : v < 65536) (wide : Bool) (H : List Blk) : FF mk k lo 10 [.int .u16 v, .bool wide] H = some (.int .u16 (signsN v wide : Nat), H) := by
  obtain ⟨k, rfl⟩ : ∃ m, k = m + 1 := ⟨k - 1, by omega⟩
  have hc : cutN v wide < 65536 := by unfold cutN MM; split <;> omega
  have hH : HH wide = 32768 ∨ HH wide = 128 := by unfold HH; cases wide <;> simp
  refine eq_of_ends ?_
  conv => enter [1]; whnf
  repeat' (first
    | refine Ends.some' ?_
    | (refine Ends.force ?_; conv => enter [1]; whnf)
    | (refine Ends.forceN ?_; conv => enter [1]; whnf)
    | (refine Ends.forceLs ?_; conv => enter [1]; whnf)
    | (refine Ends.call (cutA_F _ _ _ (by omega) _ hv _ _) ?_; conv => enter [1]; whnf)
    | (refine Ends.call (top_F _ _ _ (by omega) _ _) ?_; conv => enter [1]; whnf)
    | (refine Ends.call (low_F _ _ _ (by omega) _ _) ?_; conv => enter [1]; whnf)
    | (refine Ends.call (evenV_F _ _ _ (by omega) v _) ?_; conv => enter [1]; whnf)
    | (refine Ends.iteT (by first | with_reducible assumption | (simp [*]; done) | (apply decide_eq_true; omega) | fail "open") ?_; conv => enter [1]; whnf)
    | (refine Ends.iteF (by first | with_reducible assumption | (simp [*]; done) | (apply decide_eq_false; omega) | fail "open") ?_; conv => enter [1]; whnf)
    | (refine Ends.ite (fun h => ?_) (fun h => ?_) <;> (conv => enter [1]; whnf)))
  all_goals (
    have ht : IntKind.u16.wrap ((BitVec.ofInt IntKind.u16.bits (v : Int) &&& BitVec.ofInt IntKind.u16.bits ((HH wide : Nat) : Int)).toNat : Nat) = ((v / HH wide % 2 * HH wide : Nat) : Int) := by
      cases wide
      · exact topbit v 7 hv (by decide)
      · exact topbit v 15 hv (by decide)
    simp only [ht, bne_iff_ne, ne_eq, beq_iff_eq, bne_eq_false_iff_eq, beq_eq_false_iff_ne, Prod.mk.injEq, Val.int.injEq, true_and, and_true] at *)
  all_goals (unfold signsN; norm_cast at *)
  all_goals (
    have key : (v / HH wide % 2 * HH wide = 0) = (v / HH wide % 2 = 0) := by rcases hH with h | h <;> rw [h] <;> exact propext (by omega)
    simp only [key] at *
    have hq : v / HH wide % 2 < 2 := Nat.mod_lt _ (by decide)
    generalize v / HH wide % 2 = q at *
    generalize onesN (v % 256) 8 % 2 = p at *
    generalize cutN v wide = z at *)
  all_goals (repeat' split)
  all_goals (first | rfl | (exfalso; omega))
def stepR (name : Nat) (v : Nat) (c wide : Bool) : Nat :=
  if name = 63 then 2 * v % 65536 + v / HH wide
  else if name = 65 then 2 * v % 65536 + b2n c
  else if name = 67 then 2 * v % 65536
  else if name = 64 then v / 2 + v % 2 * HH wide
  else if name = 66 then v / 2 + b2n c * HH wide
  else if name = 68 then v / 2
  else v / 2 + v / HH wide * HH wide
def leftB (name : Nat) : Bool := decide (name = 63) || decide (name = 65) || decide (name = 67)
def stepC (name : Nat) (v : Nat) (wide : Bool) : Bool := if leftB name then decide (v / HH wide = 1) else decide (v % 2 = 1)
theorem turns_F (mk : Mk) (k lo : Nat) (hk : 1 ≤ k) (name : Nat) (h0 : 63 ≤ name) (H : List Blk) : FF mk k lo 9 [.int .i64 name] H = some (.bool (decide (name ≤ 66)), H) := by
  obtain ⟨k, rfl⟩ : ∃ m, k = m + 1 := ⟨k - 1, by omega⟩
  have h1 : (63 : Int) ≤ (name : Int) := by omega
  refine eq_of_ends ?_
  conv => enter [1]; whnf
  repeat' (first
    | refine Ends.some' ?_
    | (refine Ends.force ?_; conv => enter [1]; whnf)
    | (refine Ends.forceN ?_; conv => enter [1]; whnf)
    | (refine Ends.forceLs ?_; conv => enter [1]; whnf)
    | (refine Ends.iteT (by first | with_reducible assumption | (simp [*]; done) | (apply decide_eq_true; omega) | fail "open") ?_; conv => enter [1]; whnf)
    | (refine Ends.iteF (by first | with_reducible assumption | (simp [*]; done) | (apply decide_eq_false; omega) | fail "open") ?_; conv => enter [1]; whnf)
    | (refine Ends.ite (fun h => ?_) (fun h => ?_) <;> (conv => enter [1]; whnf)))
  all_goals (first | (with_reducible rfl) | rfl | (simp_all; done) | (simp_all; omega))
theorem step_FF (mk : Mk) (k lo : Nat) (hk : 1 ≤ k) (name : Nat) (h0 : 63 ≤ name) (h1 : name ≤ 69) (v : Nat) (wide : Bool) (hv : v < MM wide) (c : Bool) (H : List Blk) : FF mk k lo 8 [.int .i64 name, .int .u16 v, .bool c, .bool wide] H = some (.tup [.int .u16 (stepR name v c wide : Nat), .bool (stepC name v wide)], H) := by
  obtain ⟨k, rfl⟩ : ∃ m, k = m + 1 := ⟨k - 1, by omega⟩
  have e1 : (2 : Int) ^ min (Int.toNat 1) IntKind.u16.bits = ((2 : Nat) : Int) := rfl
  have e15 : (2 : Int) ^ min (IntKind.i64.wrap (16 - 1)).toNat IntKind.u16.bits = ((32768 : Nat) : Int) := rfl
  have e7 : (2 : Int) ^ min (IntKind.i64.wrap (8 - 1)).toNat IntKind.u16.bits = ((128 : Nat) : Int) := rfl
  have hv2 : v < 65536 := by unfold MM at hv; split at hv <;> omega
  rcases (by omega : name = 63 ∨ name = 64 ∨ name = 65 ∨ name = 66 ∨ name = 67 ∨ name = 68 ∨ name = 69) with rfl | rfl | rfl | rfl | rfl | rfl | rfl <;> cases wide <;> cases c
  all_goals
    refine eq_of_ends ?_
    conv => enter [1]; whnf
    refine Ends.some' ?_
    simp only [Prod.mk.injEq, Val.tup.injEq, List.cons.injEq, Val.int.injEq, Val.bool.injEq, true_and, and_true]
    simp only [MM, if_true, Bool.false_eq_true, if_false] at hv
    constructor
  all_goals simp (disch := omega) only [e1, e15, e7, mulN, wrapN, fdivN, and1T, Int.zero_mul, Int.one_mul]
  all_goals try simp (disch := omega) only [orT, orT0, orT1, wrapN, wrap0]
  all_goals simp only [stepR, stepC, leftB, HH, b2n, if_true, Bool.false_eq_true, if_false]
  all_goals try simp (disch := omega) only [or_lo, or_h7, or_h15, or_c7, or_c15]
  all_goals clear e1 e15 e7
  all_goals (first
    | omega
    | (rcases (by omega : v / 128 = 0 ∨ v / 128 = 1) with h9 | h9 <;> simp only [h9] <;> omega)
    | (rcases (by omega : v / 32768 = 0 ∨ v / 32768 = 1) with h9 | h9 <;> simp only [h9] <;> omega)
    | (repeat rw [if_neg (by decide)]
       rcases (by omega : v / 128 = 0 ∨ v / 128 = 1) with h9 | h9 <;> simp only [h9] <;> omega)
    | (repeat rw [if_neg (by decide)]
       omega)
    | (rw [Bool.eq_iff_iff]; simp; done)
    | (rw [Bool.eq_iff_iff]; simp; omega)
    | (simp; done)
    | (simp; omega)
    | omega | fail "leaf")
end Go.Proofs.Ytndgcjkmikhchaa.VM
