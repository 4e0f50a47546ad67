/- Plain facts on shifts and turns of words and bytes: no program. -/
import Derived.Test.YtefdfcdgghoknaaAluB
namespace Go.Proofs.Ytefdfcdgghoknaa.My
open Go.RowKit
set_option linter.unusedVariables false
set_option linter.unusedSimpArgs false
def b2n (c : Bool) : Nat := if c then 1 else 0
theorem b2n_le (c : Bool) : b2n c ≤ 1 := by cases c <;> decide
/-- A number behind one step (63 ROL, 64 ROR, 65 RCL, 66 RCR, 67 SHL, 68 SHR, 69 SAR). -/
def stepV (name : Int) (v : Nat) (c wide : Bool) : Nat :=
  if name = 63 then (2 * v + v / HH wide) % MM wide
  else if name = 64 then v / 2 + v % 2 * HH wide
  else if name = 65 then (2 * v + b2n c) % MM wide
  else if name = 66 then v / 2 + b2n c * HH wide
  else if name = 67 then 2 * v % MM wide
  else if name = 68 then v / 2
  else v / 2 + v / HH wide * HH wide
def leftB (name : Int) : Bool := decide (name = 63) || decide (name = 65) || decide (name = 67)
def stepC (name : Int) (v : Nat) (wide : Bool) : Bool := if leftB name then decide (v / HH wide = 1) else decide (v % 2 = 1)
theorem MM_HH (wide : Bool) : MM wide = 2 * HH wide := by cases wide <;> rfl
theorem top_01 (v : Nat) (wide : Bool) (h : v < MM wide) : v / HH wide ≤ 1 ∧ (v / HH wide = 1 ↔ HH wide ≤ v) := by
  unfold MM HH at *; cases wide <;> simp at * <;> omega
theorem mul_le1 {a b : Nat} (h : a ≤ 1) : a * b ≤ b := by have := Nat.mul_le_mul_right b h; omega
theorem stepV_lt (name : Int) (v : Nat) (c wide : Bool) (h : v < MM wide) : stepV name v c wide < MM wide := by
  have hb := b2n_le c
  have hm := MM_HH wide
  have hp : 0 < HH wide := by unfold HH; cases wide <;> decide
  have hM : 0 < MM wide := by omega
  have ht := (top_01 v wide h).1
  have k1 : b2n c * HH wide ≤ HH wide := mul_le1 hb
  have k2 : v % 2 * HH wide ≤ HH wide := mul_le1 (by omega)
  have k3 : v / HH wide * HH wide ≤ HH wide := mul_le1 ht
  unfold stepV
  repeat' split
  all_goals first | exact Nat.mod_lt _ hM | omega
/-- So many steps: the number, and what went out last. -/
def shI (name : Int) (wide : Bool) (v : Nat) (c : Bool) : Nat → Nat × Bool
  | 0 => (v, c)
  | k + 1 => (stepV name (shI name wide v c k).1 (shI name wide v c k).2 wide, stepC name (shI name wide v c k).1 wide)
theorem shI_lt (name : Int) (wide : Bool) (v : Nat) (c : Bool) (h : v < MM wide) (k : Nat) : (shI name wide v c k).1 < MM wide := by
  induction k with
  | zero => exact h
  | succ k ih => exact stepV_lt name _ _ wide ih
/-- Ahead of the last step. -/
def shA (name : Int) (wide : Bool) (v : Nat) (c : Bool) : Nat → Nat
  | 0 => v
  | k + 1 => (shI name wide v c k).1
theorem shA_lt (name : Int) (wide : Bool) (v : Nat) (c : Bool) (h : v < MM wide) (k : Nat) : shA name wide v c k < MM wide := by
  cases k with
  | zero => exact h
  | succ k => exact shI_lt name wide v c h k
/-- The flags behind steps. -/
def shF (name : Int) (wide : Bool) (v a was : Nat) (c : Bool) : Nat :=
  (((if name ≤ 66 then was &&& 2261 else signsN v wide) &&& 63486) ||| b2n c) ||| (if v / HH wide = a / HH wide then 0 else 2048)
def shN (name : Int) (v n was : Nat) (wide : Bool) : Nat × Nat :=
  if n = 0 then (cutN v wide, was &&& 2261)
  else ((shI name wide (cutN v wide) (decide (was % 2 = 1)) n).1,
    shF name wide (shI name wide (cutN v wide) (decide (was % 2 = 1)) n).1 (shA name wide (cutN v wide) (decide (was % 2 = 1)) n) was (shI name wide (cutN v wide) (decide (was % 2 = 1)) n).2)
/-- Twice a number, and a bit: nothing goes out, or a one. -/
theorem dbl (v x : Nat) (wide : Bool) (h : v < MM wide) (hx : x ≤ 1) : (v < HH wide ∧ v / HH wide = 0 ∧ (2 * v + x) % MM wide = 2 * v + x) ∨ (HH wide ≤ v ∧ v / HH wide = 1 ∧ (2 * v + x) % MM wide + MM wide = 2 * v + x) := by
  unfold MM HH at *
  cases wide <;> simp at * <;> omega
/-! ### turned left and right -/
theorem ror_rol (v : Nat) (wide c d : Bool) (h : v < MM wide) : stepV 64 (stepV 63 v c wide) d wide = v := by
  simp only [stepV]; simp
  have h1 := dbl v 0 wide h (by omega)
  have h2 := dbl v 1 wide h (by omega)
  have hm := MM_HH wide
  have hp : 0 < HH wide := by unfold HH; cases wide <;> decide
  rcases h1 with ⟨a, e, _⟩ | ⟨a, e, _⟩ <;> rcases h2 with ⟨b, _, f⟩ | ⟨b, _, f⟩ <;> try omega
  · rw [e, Nat.add_zero, Nat.mod_eq_of_lt (by omega)]
    rw [show 2 * v % 2 = 0 by omega]; omega
  · rw [e]
    generalize (2 * v + 1) % MM wide = y at *
    have : y % 2 = 1 := by
      have : HH wide % 2 = 0 := by unfold HH; cases wide <;> decide
      omega
    rw [this]; omega
theorem rol_c (v : Nat) (wide c d : Bool) : stepV 63 v c wide = stepV 63 v d wide := by simp [stepV]
theorem ror_c (v : Nat) (wide c d : Bool) : stepV 64 v c wide = stepV 64 v d wide := by simp [stepV]
theorem rol_any (wide : Bool) (v : Nat) (c d : Bool) (k : Nat) : (shI 63 wide v c k).1 = (shI 63 wide v d k).1 := by
  induction k with
  | zero => rfl
  | succ k ih => simp only [shI]; rw [ih]; exact rol_c _ _ _ _
theorem ror_any (wide : Bool) (v : Nat) (c d : Bool) (k : Nat) : (shI 64 wide v c k).1 = (shI 64 wide v d k).1 := by
  induction k with
  | zero => rfl
  | succ k ih => simp only [shI]; rw [ih]; exact ror_c _ _ _ _
/-- One step first, then the others. -/
theorem shI_first (name : Int) (wide : Bool) (v : Nat) (c : Bool) (k : Nat) : shI name wide v c (k + 1) = shI name wide (stepV name v c wide) (stepC name v wide) k := by
  induction k with
  | zero => rfl
  | succ k ih => rw [shI, ih]; rfl
theorem back (wide : Bool) (v : Nat) (h : v < MM wide) (k : Nat) : ∀ c d, (shI 64 wide (shI 63 wide v c k).1 d k).1 = v := by
  induction k with
  | zero => intro c d; rfl
  | succ k ih =>
    intro c d
    rw [shI_first, show (shI 63 wide v c (k + 1)).1 = stepV 63 (shI 63 wide v c k).1 (shI 63 wide v c k).2 wide from rfl, ror_rol _ _ _ _ (shI_lt 63 wide v c h k)]
    exact ih _ _
theorem red (y n k : Nat) (h : y + n = k) : y % n = k % n := by rw [← h, Nat.add_mod_right]
theorem rol_mod (v : Nat) (wide c : Bool) (h : v < MM wide) : stepV 63 v c wide % (MM wide - 1) = 2 * v % (MM wide - 1) ∧ (stepV 63 v c wide = 0 ↔ v = 0) := by
  simp only [stepV]; simp
  have h1 := dbl v 0 wide h (by omega)
  have h2 := dbl v 1 wide h (by omega)
  have hm := MM_HH wide
  have hp : 0 < HH wide := by unfold HH; cases wide <;> decide
  rcases h1 with ⟨a, e, f1⟩ | ⟨a, e, f1⟩ <;> rcases h2 with ⟨b, _, f⟩ | ⟨b, _, f⟩ <;> try omega
  · rw [e, f1]; exact ⟨rfl, by omega⟩
  · rw [e]; exact ⟨red _ _ _ (by omega), by omega⟩
theorem rol_iter (wide : Bool) (v : Nat) (c : Bool) (h : v < MM wide) (k : Nat) : (shI 63 wide v c k).1 % (MM wide - 1) = 2 ^ k * v % (MM wide - 1) ∧ ((shI 63 wide v c k).1 = 0 ↔ v = 0) := by
  induction k with
  | zero => simp [shI]
  | succ k ih =>
    have hs := rol_mod (shI 63 wide v c k).1 wide (shI 63 wide v c k).2 (shI_lt 63 wide v c h k)
    simp only [shI]
    refine ⟨?_, hs.2.trans ih.2⟩
    rw [hs.1, Nat.mul_mod, ih.1, ← Nat.mul_mod, Nat.pow_succ, Nat.mul_comm (2 ^ k) 2, Nat.mul_assoc]
theorem mod_pin (x v n : Nat) (hn : 0 < n) (hx : x ≤ n) (hv : v ≤ n) (h : x % n = v % n) (hz : x = 0 ↔ v = 0) : x = v := by
  by_cases h1 : x = n
  · by_cases h2 : v = n
    · omega
    · rw [h1, Nat.mod_self, Nat.mod_eq_of_lt (by omega)] at h; omega
  · by_cases h2 : v = n
    · rw [h2, Nat.mod_self, Nat.mod_eq_of_lt (by omega)] at h; omega
    · rw [Nat.mod_eq_of_lt (by omega), Nat.mod_eq_of_lt (by omega)] at h; exact h
theorem round_mod (n v : Nat) : (n + 1) * v % n = v % n := by rw [Nat.add_mul, Nat.one_mul, Nat.mul_add_mod]
theorem rol_round (wide : Bool) (v : Nat) (c : Bool) (h : v < MM wide) : (shI 63 wide v c (szN wide)).1 = v := by
  have hi := rol_iter wide v c h (szN wide)
  have hl := shI_lt 63 wide v c h (szN wide)
  have hm : 1 < MM wide := by unfold MM; cases wide <;> decide
  rw [← MM_pow] at hi
  have hr := round_mod (MM wide - 1) v
  rw [show MM wide - 1 + 1 = MM wide by omega] at hr
  exact mod_pin _ _ (MM wide - 1) (by omega) (by omega) (by omega) (hi.1.trans hr) hi.2
/-- RCL turns one bit more. -/
theorem rcl_mod (v : Nat) (c wide : Bool) (h : v < MM wide) : (stepV 65 v c wide + b2n (stepC 65 v wide) * MM wide) % (2 * MM wide - 1) = 2 * (v + b2n c * MM wide) % (2 * MM wide - 1) ∧ (stepV 65 v c wide + b2n (stepC 65 v wide) * MM wide = 0 ↔ v + b2n c * MM wide = 0) := by
  have hb := b2n_le c
  have h1 := dbl v (b2n c) wide h hb
  have hm := MM_HH wide
  have hp : 0 < HH wide := by unfold HH; cases wide <;> decide
  simp only [stepV, stepC, leftB]
  simp
  have hD : b2n c * MM wide = 0 ∧ b2n c = 0 ∨ b2n c * MM wide = MM wide ∧ b2n c = 1 := by cases c <;> simp [b2n]
  generalize b2n c = B at *
  rcases h1 with ⟨a, e, f⟩ | ⟨a, e, f⟩
  · rw [e, f]
    rw [show b2n (decide (0 = 1)) = 0 from rfl, Nat.zero_mul, Nat.add_zero]
    rcases hD with ⟨d, d1⟩ | ⟨d, d1⟩
    · rw [d, d1]; exact ⟨rfl, by omega⟩
    · rw [d, d1]; exact ⟨red _ _ _ (by omega), by omega⟩
  · rw [e]
    rw [show b2n (decide (1 = 1)) = 1 from rfl, Nat.one_mul, f]
    rcases hD with ⟨d, d1⟩ | ⟨d, d1⟩
    · rw [d, d1]; exact ⟨rfl, by omega⟩
    · rw [d, d1]; exact ⟨red _ _ _ (by omega), by omega⟩
theorem rcl_iter (wide : Bool) (v : Nat) (c : Bool) (h : v < MM wide) (k : Nat) :
    ((shI 65 wide v c k).1 + b2n (shI 65 wide v c k).2 * MM wide) % (2 * MM wide - 1) = 2 ^ k * (v + b2n c * MM wide) % (2 * MM wide - 1) ∧ ((shI 65 wide v c k).1 + b2n (shI 65 wide v c k).2 * MM wide = 0 ↔ v + b2n c * MM wide = 0) := by
  induction k with
  | zero => simp [shI]
  | succ k ih =>
    have hs := rcl_mod (shI 65 wide v c k).1 (shI 65 wide v c k).2 wide (shI_lt 65 wide v c h k)
    simp only [shI]
    refine ⟨?_, hs.2.trans ih.2⟩
    rw [hs.1, Nat.mul_mod, ih.1, ← Nat.mul_mod, Nat.pow_succ, Nat.mul_comm (2 ^ k) 2, Nat.mul_assoc]
theorem rcl_round (wide : Bool) (v : Nat) (c : Bool) (h : v < MM wide) : shI 65 wide v c (szN wide + 1) = (v, c) := by
  have hi := rcl_iter wide v c h (szN wide + 1)
  have hl := shI_lt 65 wide v c h (szN wide + 1)
  have hm : 1 < MM wide := by unfold MM; cases wide <;> decide
  rw [Nat.pow_succ, ← MM_pow] at hi
  have hr := round_mod (2 * MM wide - 1) (v + b2n c * MM wide)
  rw [show 2 * MM wide - 1 + 1 = MM wide * 2 by omega] at hr
  generalize hx : shI 65 wide v c (szN wide + 1) = x at *
  obtain ⟨x, d⟩ := x
  simp only at hi hl ⊢
  have b1 : b2n c * MM wide = 0 ∧ c = false ∨ b2n c * MM wide = MM wide ∧ c = true := by cases c <;> simp [b2n]
  have b2 : b2n d * MM wide = 0 ∧ d = false ∨ b2n d * MM wide = MM wide ∧ d = true := by cases d <;> simp [b2n]
  have e := mod_pin _ _ (2 * MM wide - 1) (by omega) (by omega) (by omega) (hi.1.trans hr) hi.2
  rcases b1 with ⟨p, rfl⟩ | ⟨p, rfl⟩ <;> rcases b2 with ⟨q, rfl⟩ | ⟨q, rfl⟩ <;> first | (exfalso; omega) | (rw [show x = v by omega])
end Go.Proofs.Ytefdfcdgghoknaa.My
