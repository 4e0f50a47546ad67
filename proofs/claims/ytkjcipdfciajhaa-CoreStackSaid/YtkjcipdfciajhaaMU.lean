/- Places of a stack, in the plain machine. -/
import Derived.Test.YtkjcipdfciajhaaMT
namespace Go.Proofs.Ytkjcipdfciajhaa.VM
open Go Go.RowKit
set_option linter.unusedVariables false
set_option linter.unusedSimpArgs false
/-- The offset so many bytes ahead of where the stack began. -/
def stO (sp : Int) (m : Nat) : Int := (sp - m) % 65536
theorem stO_u16 (sp : Int) (m : Nat) : U16 (stO sp m) := by unfold stO U16; omega
theorem stO_nxt (sp : Int) (m : Nat) : nxt (stO sp (m + 1)) = stO sp m := by unfold nxt stO; rw [wu16]; omega
theorem stO_prv (sp : Int) (m : Nat) : prv (stO sp m) = stO sp (m + 2) := by unfold prv stO; rw [wu16]; omega
theorem stO_nx2 (sp : Int) (m : Nat) : nx2 (stO sp (m + 2)) = stO sp m := by unfold nx2 stO; rw [wu16]; omega
theorem lin_st (o : Int) (h : U16 o) : linN 256 o = (4096 + o).toNat := by unfold linN linZ; unfold U16 at h; omega
theorem lin_inj {a b : Int} (ha : U16 a) (hb : U16 b) (h : linN 256 a = linN 256 b) : a = b := by
  rw [lin_st a ha, lin_st b hb] at h; unfold U16 at ha hb; omega
theorem stO_inj {sp : Int} {m n : Nat} (hm : m < 65536) (hn : n < 65536) (h : stO sp m = stO sp n) : m = n := by unfold stO at h; omega
theorem own_st (o : Int) (h : U16 o) : ownZ (256 * 16) 65536 (256, true) o = true := by
  unfold ownZ linZ; unfold U16 at h
  simp only [Bool.true_and, decide_eq_true_eq]; omega
theorem pl_ne {sp : Int} {m n : Nat} (hm : m < 65536) (hn : n < 65536) (h : m ≠ n) : linN 256 (stO sp m) ≠ linN 256 (stO sp n) :=
  fun z => h (stO_inj hm hn (lin_inj (stO_u16 sp m) (stO_u16 sp n) z))
/-- What was pushed stands there; what is below is free. -/
structure Stk (f t : Nat → Int) (sp : Int) (l : List VT) (j : Nat) : Prop where
  have' : ∀ (i : Nat) (h : i < l.length), i < j → f (linN 256 (stO sp (2 * i + 2))) = l[i].1 % 256 ∧ f (linN 256 (stO sp (2 * i + 1))) = l[i].1 / 256 ∧ t (linN 256 (stO sp (2 * i + 2))) = (if l[i].2 then 1 else 0) ∧ t (linN 256 (stO sp (2 * i + 1))) = (if l[i].2 then 2 else 0)
  rest : ∀ m, 2 * j < m → m < 100 → t (linN 256 (stO sp m)) = 0
theorem updI_ne {f : Nat → Int} {i j : Nat} {x : Int} (h : j ≠ i) : updI f i x j = f j := by unfold updI; rw [if_neg h]
theorem updI_at (f : Nat → Int) (i : Nat) (x : Int) : updI f i x i = x := by unfold updI; rw [if_pos rfl]
theorem kindT_ne {y : Bool} {t : Nat → Int} {a b c : Nat} (h1 : c ≠ a) (h2 : c ≠ b) : kindT y t a b c = t c := by
  unfold kindT
  cases y <;> simp only [if_true, Bool.false_eq_true, if_false] <;> simp only [updI_ne h1, updI_ne h2]
theorem kindT_at {y : Bool} {t : Nat → Int} {a b : Nat} (h : a ≠ b) : kindT y t a b a = (if y then 1 else 0) ∧ kindT y t a b b = (if y then 2 else 0) := by
  unfold kindT
  cases y <;> simp only [if_true, Bool.false_eq_true, if_false] <;> simp only [updI_ne h, updI_at, and_self]
theorem Stk.step {f t : Nat → Int} {sp : Int} {l : List VT} {j : Nat} (h : Stk f t sp l j) (hj : j < l.length) (h20 : j < 20) :
    Stk (updI (updI f (linN 256 (stO sp (2 * j + 2))) (l[j].1 % 256)) (linN 256 (stO sp (2 * j + 1))) (l[j].1 / 256)) (kindT l[j].2 t (linN 256 (stO sp (2 * j + 2))) (linN 256 (stO sp (2 * j + 1)))) sp l (j + 1) := by
  have hab : linN 256 (stO sp (2 * j + 2)) ≠ linN 256 (stO sp (2 * j + 1)) := pl_ne (by omega) (by omega) (by omega)
  refine ⟨fun i hi hij => ?_, fun m hm hm2 => ?_⟩
  · by_cases e : i = j
    · subst e
      refine ⟨?_, ?_, (kindT_at hab).1, (kindT_at hab).2⟩
      · rw [updI_ne hab, updI_at]
      · rw [updI_at]
    · obtain ⟨a1, a2, a3, a4⟩ := h.have' i hi (by omega)
      have n1 : linN 256 (stO sp (2 * i + 2)) ≠ linN 256 (stO sp (2 * j + 2)) := pl_ne (by omega) (by omega) (by omega)
      have n2 : linN 256 (stO sp (2 * i + 2)) ≠ linN 256 (stO sp (2 * j + 1)) := pl_ne (by omega) (by omega) (by omega)
      have n3 : linN 256 (stO sp (2 * i + 1)) ≠ linN 256 (stO sp (2 * j + 2)) := pl_ne (by omega) (by omega) (by omega)
      have n4 : linN 256 (stO sp (2 * i + 1)) ≠ linN 256 (stO sp (2 * j + 1)) := pl_ne (by omega) (by omega) (by omega)
      refine ⟨?_, ?_, ?_, ?_⟩
      · rw [updI_ne n2, updI_ne n1]; exact a1
      · rw [updI_ne n4, updI_ne n3]; exact a2
      · rw [kindT_ne n1 n2]; exact a3
      · rw [kindT_ne n3 n4]; exact a4
  · rw [kindT_ne (pl_ne (by omega) (by omega) (by omega)) (pl_ne (by omega) (by omega) (by omega))]
    exact h.rest m (by omega) hm2
theorem Stk.zero (sp : Int) (l : List VT) : Stk (fun _ => 0) (fun _ => 0) sp l 0 := ⟨fun i hi h => by omega, fun _ _ _ => rfl⟩
end Go.Proofs.Ytkjcipdfciajhaa.VM
