/- Shifts by the plain machine: the program's own way. -/
import Derived.Test.YtndgcjkmikhchaaSHc
namespace Go.Proofs.Ytndgcjkmikhchaa.VM
open Go Go.RowKit
open Sh
set_option linter.unusedVariables false
set_option linter.unusedSimpArgs false
set_option maxRecDepth 40000
set_option maxHeartbeats 1600000
/-- A number, what went out, and the number ahead of it, behind so many steps. -/
def itS (name : Nat) (wide : Bool) (v : Nat) (c : Bool) : Nat → Nat × Bool × Nat
  | 0 => (v, c, v)
  | j + 1 => (cutN (stepR name (itS name wide v c j).1 (itS name wide v c j).2.1 wide) wide, stepC name (itS name wide v c j).1 wide, (itS name wide v c j).1)
theorem cutN_lt (v : Nat) (wide : Bool) : cutN v wide < MM wide := Nat.mod_lt _ (by cases wide <;> decide)
theorem MM_le (wide : Bool) : MM wide ≤ 65536 := by cases wide <;> decide
theorem itS_lt {name : Nat} {wide : Bool} {v : Nat} {c : Bool} (h : v < MM wide) : ∀ j, (itS name wide v c j).1 < MM wide
  | 0 => h
  | j + 1 => cutN_lt _ _
theorem itS_lt2 {name : Nat} {wide : Bool} {v : Nat} {c : Bool} (h : v < MM wide) : ∀ j, (itS name wide v c j).2.2 < MM wide
  | 0 => h
  | j + 1 => itS_lt h j
theorem b2n_H (b wide : Bool) : b2n b * HH wide ≤ 32768 := by cases b <;> cases wide <;> decide
theorem stepR_lt {name v : Nat} {c wide : Bool} (h : v < MM wide) : stepR name v c wide < 65536 := by
  have h1 := b2n_le c
  have h2 := b2n_H c wide
  have h3 : v < 65536 := Nat.lt_of_lt_of_le h (MM_le wide)
  have h4 : v / HH wide ≤ 1 := by
    cases wide <;> simp only [HH, MM, Bool.false_eq_true, if_true, if_false] at * <;> omega
  have h5 : v % 2 * HH wide ≤ 32768 := by
    rcases (by omega : v % 2 = 0 ∨ v % 2 = 1) with h | h <;> rw [h] <;> cases wide <;> decide
  have h6 : v / HH wide * HH wide ≤ 32768 := by
    rcases Nat.le_one_iff_eq_zero_or_eq_one.1 h4 with h | h <;> rw [h] <;> cases wide <;> decide
  have h7 : 2 * v % 65536 + 1 ≤ 65535 := by clear h4 h5 h6 h; omega
  unfold stepR
  generalize v / HH wide * HH wide = x at *
  generalize v % 2 * HH wide = z at *
  generalize b2n c * HH wide = w at *
  generalize v / HH wide = y at *
  repeat' split
  all_goals omega
/-- Is a number's sign set? -/
def sgn (v : Nat) (wide : Bool) : Bool := decide (v / HH wide % 2 = 1)
theorem sg128 (v : Nat) (wide : Bool) : IntKind.u16.wrap ((BitVec.ofInt IntKind.u16.bits ((signsN v wide : Nat) : Int) &&& BitVec.ofInt IntKind.u16.bits 128).toNat : Nat) = bif sgn v wide then 128 else 0 := by
  unfold signsN sgn
  by_cases h : v / HH wide % 2 = 1
  · simp only [h, if_true, decide_true, cond_true]
    repeat' split
    all_goals rfl
  · simp only [h, if_false, decide_false, cond_false]
    repeat' split
    all_goals rfl
/-- The flags behind steps. -/
def finZ (name : Nat) (A : Int) (v : Nat) (c s wide : Bool) : Int :=
  let f1 := IntKind.u16.wrap ((BitVec.ofInt IntKind.u16.bits (if name ≤ 66 then A else ((signsN v wide : Nat) : Int)) &&& ~~~BitVec.ofInt IntKind.u16.bits 2049).toNat : Nat)
  let f2 := bif c then IntKind.u16.wrap ((BitVec.ofInt IntKind.u16.bits f1 ||| BitVec.ofInt IntKind.u16.bits 1).toNat : Nat) else f1
  bif s then IntKind.u16.wrap ((BitVec.ofInt IntKind.u16.bits f2 ||| BitVec.ofInt IntKind.u16.bits 2048).toNat : Nat) else f2
/-- The flags that were. -/
def wasZ (was : Int) : Int := IntKind.u16.wrap ((BitVec.ofInt IntKind.u16.bits was &&& BitVec.ofInt IntKind.u16.bits 2261).toNat : Nat)
def wasC (A : Int) : Bool := IntKind.u16.wrap ((BitVec.ofInt IntKind.u16.bits A &&& BitVec.ofInt IntKind.u16.bits 1).toNat : Nat) != 0
/-- What steps come to. -/
def outS (name : Nat) (wide : Bool) (v : Nat) (was : Int) (n : Nat) : List Val :=
  let q := itS name wide (cutN v wide) (wasC (wasZ was)) n
  [.int .u16 (q.1 : Nat), .int .u16 (finZ name (wasZ was) q.1 q.2.1 (sgn q.1 wide != sgn q.2.2 wide) wide)]
theorem sgn_bne (a b : Bool) : ((bif a then (128 : Int) else 0) != (bif b then (128 : Int) else 0)) = (a != b) := by cases a <;> cases b <;> rfl
theorem do_F (mk : Mk) (k lo : Nat) (n : Nat) (hk : n + 10 ≤ k) (name v : Nat) (was : Int) (wide : Bool) (h0 : 63 ≤ name) (h1 : name ≤ 69) (hv : v < 65536) (hn : n < 256) (hz : n ≠ 0) (H : List Blk) :
    FF mk k lo 4 [.int .i64 name, .int .u16 v, .int .u8 n, .int .u16 was, .bool wide] H = some (.tup (outS name wide v was n ++ [.bool true]), H) := by
  obtain ⟨k, rfl⟩ : ∃ m, k = m + 1 := ⟨k - 1, by omega⟩
  have g1 : ¬ ((name : Int) < 63) := by omega
  have g2 : ¬ ((69 : Int) < name) := by omega
  have g3 : ¬ ((n : Int) = 0) := by omega
  have hc := cutN_lt v wide
  refine eq_of_ends ?_
  conv => enter [1]; whnf
  repeat' (first
    | refine Ends.some' ?_
    | (refine Ends.force ?_; conv => enter [1]; whnf)
    | (refine Ends.forceN ?_; conv => enter [1]; whnf)
    | (refine Ends.forceLs ?_; conv => enter [1]; whnf)
    | (refine Ends.call (cutA_F _ _ _ (by omega) _ hv _ _) ?_; conv => enter [1]; whnf)
    | (refine Ends.iteT (by first | with_reducible assumption | (simp [*]; done) | (apply decide_eq_true; omega) | fail "open") ?_; conv => enter [1]; whnf)
    | (refine Ends.iteF (by first | with_reducible assumption | (simp [*]; done) | (apply decide_eq_false; omega) | fail "open") ?_; conv => enter [1]; whnf)
    | (refine Ends.ite (fun h => ?_) (fun h => ?_) <;> (conv => enter [1]; whnf)))
  unfold outS
  rw [show IntKind.u16.wrap ((BitVec.ofInt IntKind.u16.bits was &&& BitVec.ofInt IntKind.u16.bits 2261).toNat : Nat) = wasZ was from rfl]
  generalize hA : wasZ was = A
  rw [show (IntKind.u16.wrap ((BitVec.ofInt IntKind.u16.bits A &&& BitVec.ofInt IntKind.u16.bits 1).toNat : Nat) != 0) = wasC A from rfl]
  generalize hcc : wasC A = c0
  refine Ends.loop (fun m T M => ∃ j, j ≤ n ∧ n - j < m ∧ T = [.int .i64 name, .int .u16 ((itS name wide (cutN v wide) c0 j).1 : Nat), .undef, .int .u16 A, .bool wide, .undef, .undef, .undef, .undef, .undef, .undef, .undef, .undef, .bool (itS name wide (cutN v wide) c0 j).2.1, .int .u16 ((itS name wide (cutN v wide) c0 j).2.2 : Nat), .undef, .undef, .undef, .undef, .undef, .undef, .undef, .undef, .undef, .undef, .undef, .undef, .undef, .undef, .undef, .undef, .undef, .undef, .undef, .undef, .int .u8 n, .int .u8 j, .undef, .undef, .undef, .undef, .undef, .undef, .undef, .undef, .undef, .undef, .undef, .undef, .undef, .undef, .undef, .undef, .undef, .undef, .undef, .undef, .undef, .undef, .undef, .undef, .undef, .undef, .undef, .undef, .undef, .undef, .undef, .undef, .undef, .undef, .undef, .undef, .undef, .undef, .undef] ∧ M = ⟨[], H⟩) (fun T M ⟨j, _, h, _⟩ => by omega) ?_ _ _ ⟨0, by omega, by omega, rfl, rfl⟩
  rintro m T M L ⟨j, j1, j2, rfl, rfl⟩ hL
  have i1 := itS_lt (name := name) (c := c0) hc j
  have i2 := itS_lt2 (name := name) (c := c0) hc j
  have M1 := MM_le wide
  conv => enter [1]; whnf
  refine Ends.ite (fun h => ?_) (fun h => ?_) <;> (conv => enter [1]; whnf)
  · have hj : j < n := by have := of_decide_eq_true h; omega
    have i3 := stepR_lt (name := name) (c := (itS name wide (cutN v wide) c0 j).2.1) i1
    refine Ends.call (step_FF _ _ _ (by omega) _ h0 h1 _ _ i1 _ _) ?_
    conv => enter [1]; whnf
    refine Ends.call (cutA_F _ _ _ (by omega) _ i3 _ _) ?_
    conv => enter [1]; whnf
    refine hL _ ⟨j + 1, by omega, by omega, ?_, rfl⟩
    have e3 : IntKind.u8.wrap ((j : Int) + 1) = ((j + 1 : Nat) : Int) := by rw [wu8]; omega
    rw [← e3]
    rfl
  · have hj : j = n := by have := of_decide_eq_false h; omega
    subst hj
    have s1 := fun (H : List Blk) => signsA_F mk k lo (by omega) _ (show (itS name wide (cutN v wide) c0 j).1 < 65536 by omega) wide H
    have s2 := fun (H : List Blk) => signsA_F mk k lo (by omega) _ (show (itS name wide (cutN v wide) c0 j).2.2 < 65536 by omega) wide H
    refine Ends.call (turns_F _ _ _ (by omega) _ h0 _) ?_
    conv => enter [1]; whnf
    repeat' (first
      | refine Ends.some' ?_
      | (refine Ends.force ?_; conv => enter [1]; whnf)
      | (refine Ends.forceN ?_; conv => enter [1]; whnf)
      | (refine Ends.forceLs ?_; conv => enter [1]; whnf)
      | (refine Ends.call (s1 _) ?_; conv => enter [1]; whnf)
      | (refine Ends.call (s2 _) ?_; conv => enter [1]; whnf)
      | (refine Ends.iteT (by first | with_reducible assumption | (simp [*]; done) | (apply decide_eq_true; omega) | fail "open") ?_; conv => enter [1]; whnf)
      | (refine Ends.iteF (by first | with_reducible assumption | (simp [*]; done) | (apply decide_eq_false; omega) | fail "open") ?_; conv => enter [1]; whnf)
      | (refine Ends.ite (fun h => ?_) (fun h => ?_) <;> (conv => enter [1]; whnf)))
    all_goals (
      simp only [sg128, sgn_bne] at *
      simp only [finZ]
      simp only [decide_eq_true_eq, decide_eq_false_iff_not, Bool.not_eq_true', Bool.not_eq_false', Bool.not_eq_eq_eq_not, Bool.not_true, Bool.not_false] at *
      simp only [*, if_true, if_false, cond_true, cond_false])
    all_goals rfl
end Go.Proofs.Ytndgcjkmikhchaa.VM
