/- Shifts by the plain machine: a number of bits. -/
import Derived.Test.YtndgcjkmikhchaaSHb
namespace Go.Proofs.Ytndgcjkmikhchaa.VM
open Go Go.RowKit
open Sh
set_option linter.unusedVariables false
set_option linter.unusedSimpArgs false
set_option maxRecDepth 40000
set_option maxHeartbeats 1600000
theorem aggInt : aggB Try.prog 3 = some false := by kernel_rfl
theorem sizeInt : sizeB Try.prog 3 = some 1 := by kernel_rfl
theorem partInt {cs : List Val} {off : Nat} {v : Val} (h : getAt off cs = some v) : partV Try.prog 3 cs off = some v := by
  unfold partV; rw [aggInt, sizeInt]; exact h
def bitsV (x : List Nat) : List Val := x.map fun (b : Nat) => .int .i64 (b : Int)
theorem bitsV_get {x : List Nat} {i : Nat} (h : i < x.length) : getAt i (bitsV x) = some (.int .i64 ((x[i] : Nat) : Int)) := by
  rw [getAt_eq]; simp [bitsV, h]
def ofN : List Nat → Nat
  | [] => 0
  | b :: l => b + 2 * ofN l
theorem ofN_append (l : List Nat) (b : Nat) : ofN (l ++ [b]) = ofN l + 2 ^ l.length * b := by
  induction l with
  | nil => simp [ofN]
  | cons x l ih => simp only [List.cons_append, ofN, ih, List.length_cons, Nat.pow_succ]; rw [Nat.mul_add, Nat.mul_comm (2 ^ l.length) 2, Nat.mul_assoc]; omega
theorem ofN_lt (l : List Nat) (h : ∀ b ∈ l, b < 2) : ofN l < 2 ^ l.length := by
  induction l with
  | nil => simp [ofN]
  | cons x l ih =>
    have h1 := ih fun b hb => h b (by simp [hb])
    have h2 := h x (by simp)
    simp only [ofN, List.length_cons, Nat.pow_succ]
    omega
theorem pow16 {i : Nat} (h : i ≤ 16) : 2 ^ i ≤ 65536 := Nat.pow_le_pow_right (n := 2) (by decide) h
theorem of_step {s q b : Nat} (hs : s < q) (hq : 2 * q ≤ 65536) (hb : b < 2) : (s + q * b % 65536) % 65536 = s + q * b := by
  rcases (by omega : b = 0 ∨ b = 1) with rfl | rfl
  · simp; omega
  · simp only [Nat.mul_one]; omega
theorem of_F (mk : Mk) (k lo : Nat) (hk : 20 ≤ k) (x : List Nat) (hx : ∀ b ∈ x, b < 2) (hl : x.length ≤ 16) (p : Nat) (H : List Blk) (hp : Mem.get ⟨[], H⟩ (.hp p) = some (bitsV x)) : FF mk k lo 13 [.sl (.hp p) 0 x.length 1] H = some (.int .u16 (ofN x : Nat), H) := by
  obtain ⟨k, rfl⟩ : ∃ m, k = m + 1 := ⟨k - 1, by omega⟩
  refine eq_of_ends ?_
  conv => enter [1]; whnf
  refine Ends.loop (fun m T M => ∃ j, j ≤ x.length ∧ x.length - j < m ∧ T = [.sl (.hp p) 0 x.length 1, .undef, .undef, .int .u16 (ofN (x.take j) : Nat), .int .u16 ((2 ^ j % 65536 : Nat) : Int), .int .i64 j, .undef, .undef, .undef, .undef, .undef, .undef, .undef, .undef, .undef, .undef, .undef, .undef, .undef, .undef, .undef, .undef, .undef, .undef] ∧ M = ⟨[], H⟩) (fun T M ⟨j, _, h, _⟩ => by omega) ?_ _ _ ⟨0, by omega, by omega, rfl, rfl⟩
  rintro m T M L ⟨j, h1, h2, rfl, rfl⟩ hL
  conv => enter [1]; whnf
  refine Ends.ite (fun h => ?_) (fun h => ?_) <;> (conv => enter [1]; whnf)
  · have hj : j < x.length := by have := of_decide_eq_true h; omega
    have hg := bitsV_get hj
    refine Ends.iteT (decide_eq_true (by omega)) ?_
    conv => enter [1]; whnf
    refine Ends.opt hp ?_
    conv => enter [1]; whnf
    refine Ends.opt (partInt (v := .int .i64 ((x[j] : Nat) : Int)) (by rw [show 0 + ((j : Int)).toNat * 1 = j by omega]; exact hg)) ?_
    conv => enter [1]; whnf
    refine hL _ ⟨j + 1, by omega, by omega, ?_, rfl⟩
    have hb := hx x[j] (List.getElem_mem hj)
    have hlt := ofN_lt (x.take j) fun b hb => hx b (List.mem_of_mem_take hb)
    rw [List.length_take, Nat.min_eq_left h1] at hlt
    have hp16 := pow16 (show j ≤ 16 by omega)
    have hpp : 2 ^ j < 65536 := Nat.pow_lt_pow_right (a := 2) (by decide) (show j < 16 by omega)
    have e0 : ofN (x.take (j + 1)) = ofN (x.take j) + 2 ^ j * x[j] := by
      rw [List.take_succ_eq_append_getElem hj, ofN_append, List.length_take, Nat.min_eq_left h1]
    have e1 : IntKind.u16.wrap (((ofN (x.take j) : Nat) : Int) + IntKind.u16.wrap (IntKind.u16.wrap ((x[j] : Nat) : Int) * ((2 ^ j % 65536 : Nat) : Int))) = ((ofN (x.take (j + 1)) : Nat) : Int) := by
      rw [wrapN, mulN, wrapN, addN, wrapN, e0, Nat.mod_eq_of_lt hpp, Nat.mod_eq_of_lt (show x[j] < 65536 by omega), Nat.mul_comm (x[j])]
      rw [of_step hlt (by have := pow16 (show j + 1 ≤ 16 by omega); rw [Nat.pow_succ] at this; omega) hb]
    have e2 : IntKind.u16.wrap (((2 ^ j % 65536 : Nat) : Int) * 2) = ((2 ^ (j + 1) % 65536 : Nat) : Int) := by
      rw [show (2 : Int) = ((2 : Nat) : Int) from rfl, mulN, wrapN, Nat.pow_succ]
      congr 1; omega
    have e3 : IntKind.i64.wrap ((j : Int) + 1) = ((j + 1 : Nat) : Int) := by rw [← i64N (j + 1) (by omega)]; rfl
    rw [← e1, ← e2, ← e3]
    rfl
  · have hj : j = x.length := by have := of_decide_eq_false h; omega
    subst hj
    refine Ends.some' ?_
    rw [List.take_length]
end Go.Proofs.Ytndgcjkmikhchaa.VM
