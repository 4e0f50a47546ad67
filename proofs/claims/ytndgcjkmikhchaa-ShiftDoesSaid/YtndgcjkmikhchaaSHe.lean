/- Shifts by the plain machine: bits, lists of them, and where they lie. -/
import Derived.Test.YtndgcjkmikhchaaSHd
namespace Go.Proofs.Ytndgcjkmikhchaa.VM
open Go Go.RowKit
open Sh
set_option linter.unusedVariables false
set_option linter.unusedSimpArgs false
def bitsL (s n : Nat) : List Nat := (List.range n).map fun j => s / 2 ^ j % 2
theorem bitsL_succ (s n : Nat) : bitsL s (n + 1) = bitsL s n ++ [s / 2 ^ n % 2] := by simp [bitsL, List.range_succ]
theorem bitsL_len (s n : Nat) : (bitsL s n).length = n := by simp [bitsL]
theorem bitsL_lt (s n : Nat) : ∀ b ∈ bitsL s n, b < 2 := by
  intro b hb
  simp only [bitsL, List.mem_map] at hb
  obtain ⟨j, _, rfl⟩ := hb
  exact Nat.mod_lt _ (by decide)
theorem ofN_bitsL (s n : Nat) : ofN (bitsL s n) = s % 2 ^ n := by
  induction n with
  | zero => simp [bitsL, ofN, Nat.mod_one]
  | succ n ih => rw [bitsL_succ, ofN_append, ih, bitsL_len, Nat.mod_pow_succ]
theorem bitsV_append (x : List Nat) (b : Nat) : bitsV x ++ [.int .i64 (b : Int)] = bitsV (x ++ [b]) := by simp [bitsV]
theorem bitsV_len (x : List Nat) : (bitsV x).length = x.length := by simp [bitsV]
theorem drop0 {α : Type} (x : List α) : dropN 0 x = x := by cases x <;> rfl
theorem get_top (loc : List (List Val)) (G : List Blk) (cs : List Val) : Mem.get ⟨loc, G ++ [⟨cs, true⟩]⟩ (.hp G.length) = some cs := by
  simp [Mem.get]
theorem get_prev (loc : List (List Val)) (G : List Blk) (cs : List Val) (Y : Blk) : Mem.get ⟨loc, (G ++ [⟨cs, true⟩]) ++ [Y]⟩ (.hp G.length) = some cs := by
  simp [Mem.get]
theorem set_top (A : List Blk) (Y Z : Blk) : (A ++ [Y]).set A.length Z = A ++ [Z] := by simp
theorem get_set_ne {loc : List (List Val)} {A : List Blk} {p q : Nat} {Z : Blk} {cs : List Val} (h : p ≠ q) (hg : Mem.get ⟨loc, A⟩ (.hp q) = some cs) : Mem.get ⟨loc, A.set p Z⟩ (.hp q) = some cs := by
  simp only [Mem.get] at *
  rw [List.getElem?_set_ne h]; exact hg
theorem get_set_eq {loc : List (List Val)} {A : List Blk} {p : Nat} {cs : List Val} (h : p < A.length) : Mem.get ⟨loc, A.set p ⟨cs, true⟩⟩ (.hp p) = some cs := by
  simp [Mem.get, h]
theorem write_top {lo : Nat} {G : List Blk} (h : lo ≤ G.length) : mayWrite lo (.hp G.length) = true := by
  simpa [mayWrite] using h
theorem write_top2 {lo : Nat} {G : List Blk} {B : Blk} (h : lo ≤ G.length) : mayWrite lo (.hp (G ++ [B]).length) = true := by
  simp only [mayWrite, Nat.ble_eq, List.length_append]; omega
/-- One step left, by bits. -/
theorem left_step (name : Nat) (hn : name = 63 ∨ name = 65 ∨ name = 67) (wide : Bool) (l h v : Nat) (c : Bool) (hl : l < HH wide) (hh : h < 2) (hv : v = l + HH wide * h) :
    cutN (stepR name v c wide) wide = (if name = 63 then h else if name = 65 then b2n c else 0) + 2 * l ∧ stepC name v wide = decide (h = 1) ∧ (sgn v wide = decide (h = 1)) := by
  have hb := b2n_le c
  have hvh : v / HH wide = h := by subst hv; cases wide <;> simp only [HH, Bool.false_eq_true, if_true, if_false] at * <;> omega
  generalize hbb : b2n c = b at *
  unfold stepR stepC sgn leftB
  rw [hvh, hbb]
  rcases hn with rfl | rfl | rfl <;> rcases (by omega : h = 0 ∨ h = 1) with rfl | rfl <;> cases wide <;> simp only [cutN, MM, HH, Bool.false_eq_true, if_true, if_false] at * <;> subst hv <;> simp <;> omega
/-- One step right, by bits. -/
theorem right_step (name : Nat) (hn : name = 64 ∨ name = 66 ∨ name = 68 ∨ name = 69) (wide : Bool) (r b v h : Nat) (c : Bool) (hr : r < HH wide) (hb : b < 2) (hv : v = b + 2 * r) (hh : v / HH wide % 2 = h) :
    cutN (stepR name v c wide) wide = r + HH wide * (if name = 64 then b else if name = 66 then b2n c else if name = 68 then 0 else h) ∧ stepC name v wide = decide (b = 1) ∧ (sgn v wide = decide (h = 1)) := by
  have hbb := b2n_le c
  generalize hbc : b2n c = d at *
  have hd : d = 0 ∨ d = 1 := by omega
  rcases hn with rfl | rfl | rfl | rfl <;> rcases (by omega : b = 0 ∨ b = 1) with rfl | rfl <;> rcases hd with rfl | rfl <;> cases wide <;> simp only [cutN, MM, HH, stepR, stepC, leftB, sgn, hbc, Bool.false_eq_true, if_true, if_false] at * <;> subst hv <;> simp <;> omega
theorem wasC_eq (was : Int) : decide (IntKind.u16.wrap ((BitVec.ofInt IntKind.u16.bits was &&& BitVec.ofInt IntKind.u16.bits 1).toNat : Nat) > 0) = wasC (wasZ was) := by
  unfold wasC wasZ
  rw [and16_1, and16_1]
  have e2 : (BitVec.ofInt IntKind.u16.bits (2261 : Int)).toNat = 2261 := rfl
  have h : (BitVec.ofInt IntKind.u16.bits was &&& BitVec.ofInt IntKind.u16.bits 2261).toNat % 2 = (BitVec.ofInt IntKind.u16.bits was).toNat % 2 := by
    rw [BitVec.toNat_and, e2, show (2 : Nat) = 2 ^ 1 from rfl, Nat.and_mod_two_pow]
    show ((BitVec.ofInt IntKind.u16.bits was).toNat % 2) &&& 1 = _
    rw [Nat.and_one_is_mod]; omega
  have hw : ((BitVec.ofInt IntKind.u16.bits was).toNat : Int) = was % 65536 := by
    rw [BitVec.toNat_ofInt]
    show ((was % 65536).toNat : Int) = _
    omega
  rw [wu16]
  generalize (BitVec.ofInt IntKind.u16.bits was &&& BitVec.ofInt IntKind.u16.bits 2261).toNat = p at *
  generalize (BitVec.ofInt IntKind.u16.bits was).toNat = q at *
  rw [Bool.eq_iff_iff]
  simp only [decide_eq_true_eq, bne_iff_ne, ne_eq]
  omega
theorem list8 {x : List Nat} (h : x.length = 8) : ∃ x0 x1 x2 x3 x4 x5 x6 x7, x = [x0, x1, x2, x3, x4, x5, x6, x7] := by
  match x, h with
  | [x0, x1, x2, x3, x4, x5, x6, x7], _ => exact ⟨x0, x1, x2, x3, x4, x5, x6, x7, rfl⟩
theorem list16 {x : List Nat} (h : x.length = 16) : ∃ x0 x1 x2 x3 x4 x5 x6 x7 x8 x9 x10 x11 x12 x13 x14 x15, x = [x0, x1, x2, x3, x4, x5, x6, x7, x8, x9, x10, x11, x12, x13, x14, x15] := by
  match x, h with
  | [x0, x1, x2, x3, x4, x5, x6, x7, x8, x9, x10, x11, x12, x13, x14, x15], _ => exact ⟨x0, x1, x2, x3, x4, x5, x6, x7, x8, x9, x10, x11, x12, x13, x14, x15, rfl⟩
theorem ofN_lt' (l : List Nat) (h : ∀ b ∈ l, b < 2) (n m : Nat) (hn : l.length = n) (hm : 2 ^ n = m) : ofN l < m := by
  subst hn; subst hm; exact ofN_lt l h
theorem ofN_append' (l : List Nat) (b n m : Nat) (hn : l.length = n) (hm : 2 ^ n = m) : ofN (l ++ [b]) = ofN l + m * b := by
  subst hn; subst hm; exact ofN_append l b
theorem b2n_dec {h : Nat} (hh : h < 2) : b2n (decide (h = 1)) = h := by
  rcases (by omega : h = 0 ∨ h = 1) with rfl | rfl <;> rfl
theorem b2n_one (c : Bool) : (((b2n c : Nat) : Int) == 1) = c := by cases c <;> rfl
theorem b2n_bne (a b : Bool) : (((b2n a : Nat) : Int) != ((b2n b : Nat) : Int)) = (b != a) := by cases a <;> cases b <;> rfl
end Go.Proofs.Ytndgcjkmikhchaa.VM
