/- A machine that begins, in the plain machine. -/
import Derived.Test.YtkjcipdfciajhaaMP
import Derived.Test.YtkjcipdfciajhaaMJ
namespace Go.Proofs.Ytkjcipdfciajhaa.VM
open Go Go.RowKit
set_option linter.unusedVariables false
set_option linter.unusedSimpArgs false
set_option maxRecDepth 40000
set_option maxHeartbeats 1600000
def g0 : Nat → VT := fun _ => (0, false)
theorem wnewN_F (mk : Mk) (k lo : Nat) (hk : 4 ≤ k) (H : List Blk) : FF mk k lo 22 [.nils] H = some (.ptr (.hp H.length) 0, H ++ [⟨[.nils, .int .i64 0, .nils], true⟩]) := by
  obtain ⟨k, rfl⟩ : ∃ m, k = m + 4 := ⟨k - 4, by omega⟩
  kernel_rfl
theorem cnew_F (mk : Mk) (k lo : Nat) (hk : 2 ≤ k) (H : List Blk) (p w : Nat) (para sz z : Int) (hp : U16 para) (hz : 0 ≤ sz ∧ sz ≤ 1048576) : FF mk k lo 28 [.ptr (.hp p) 0, .ptr (.hp w) 0, .int .u16 para, .int .i64 sz] H = some (.ptr (.hp H.length) 0, H ++ [⟨machL g0 g0 0 0 p w (para * 16) sz 0, true⟩]) := by
  obtain ⟨k, rfl⟩ : ∃ m, k = m + 1 := ⟨k - 1, by omega⟩
  have e1 : IntKind.u32.wrap (IntKind.u32.wrap para * 2 ^ min (Int.toNat 4) IntKind.u32.bits) = para * 16 := by
    have e4 : (2 : Int) ^ min (Int.toNat 4) IntKind.u32.bits = 16 := rfl
    unfold U16 at hp
    rw [e4, wu32, wu32]; omega
  refine eq_of_ends ?_
  conv => enter [1]; whnf
  have e2 : IntKind.u32.wrap (if 1048576 < (if 0 > sz then 0 else sz) then 1048576 else (if 0 > sz then 0 else sz)) = sz := by
    rw [if_neg (show ¬ 0 > sz by omega), if_neg (by omega), wu32]; omega
  rw [e1, e2]
  exact Ends.some' rfl
theorem putAt0 (g g' s s' : Nat → VT) (ip fl ip' fl' : Int) (p w : Nat) (b z st : Int) : putAt 0 (regsL g' s' ip' fl') (machL g s ip fl p w b z st) = some (machL g' s' ip' fl' p w b z st) := rfl
theorem set13_F (mk : Mk) (k lo : Nat) (hk : 1 ≤ k) {H : List Blk} {c : Nat} {g s : Nat → VT} {ip fl : Int} {p w : Nat} {b z st : Int} (h : HasMach H c g s ip fl p w b z st) (hc : lo ≤ c) (g' s' : Nat → VT) (ip' fl' : Int) : FF mk k lo 53 [.ptr (.hp c) 0, .agg (regsL g' s' ip' fl')] H = some (.tup [], H.set c ⟨machL g' s' ip' fl' p w b z st, true⟩) := by
  obtain ⟨k, rfl⟩ : ∃ m, k = m + 1 := ⟨k - 1, by omega⟩
  refine eq_of_ends ?_
  conv => enter [1]; whnf
  refine Ends.iteT (may_hp hc) ?_
  conv => enter [1]; whnf
  refine Ends.opt (h.get _) ?_
  conv => enter [1]; whnf
  exact Ends.some' rfl
theorem with13_F (mk : Mk) (k lo : Nat) (hk : 12 ≤ k) {H : List Blk} {c : Nat} {g s : Nat → VT} {ip fl : Int} {p w : Nat} {b z st : Int} (h : HasMach H c g s ip fl p w b z st) (hc : lo ≤ c) (para sp : Int) : FF mk k lo 30 [.ptr (.hp c) 0, .int .u16 para, .int .u16 sp] H = some (.ptr (.hp c) 0, H.set c ⟨machL (updR g0 4 (sp, false)) (fun _ => (para, true)) 0 0 p w b z st, true⟩) := by
  obtain ⟨k, rfl⟩ : ∃ m, k = m + 12 := ⟨k - 12, by omega⟩
  refine eq_of_ends ?_
  conv => enter [1]; whnf
  have c1 := set13_F mk (k + 11) lo (by omega) h hc (updR g0 4 (sp, false)) (fun _ => (para, true)) 0 0
  refine Ends.call c1 ?_
  conv => enter [1]; whnf
  exact Ends.some' rfl
/-- A machine that begins. -/
def Begun (N : Nat) (H : List Blk) (para sz sp : Int) (r : Val × List Blk) : Prop := ∃ c p w q r', r.1 = .ptr (.hp c) 0 ∧ HasMach r.2 c (updR g0 4 (sp, false)) (fun _ => (para, true)) 0 0 p w (para * 16) sz 0 ∧ HasMem N r.2 p q r' (fun _ => 0) (fun _ => 0) ∧ Grown H r.2 ∧ H.length ≤ c ∧ H.length ≤ q ∧ H.length ≤ r' ∧ c ≠ q ∧ c ≠ r' ∧ c ≠ p
theorem begin13_F (mk : Mk) (k lo : Nat) (hk : 14 ≤ k) {N : Nat} (hN : N = 1048576) (H : List Blk) (hlo : lo ≤ H.length) (para sz sp : Int) (hp : U16 para) (hz : 0 ≤ sz ∧ sz ≤ 1048576) : Ends (FF mk k lo 7 [.int .u16 para, .int .i64 sz, .int .u16 sp] H) (Begun N H para sz sp) := by
  obtain ⟨k, rfl⟩ : ∃ m, k = m + 1 := ⟨k - 1, by omega⟩
  conv => enter [1]; whnf
  refine Ends.callE (mnew_E mk k lo (by omega) hN H) (fun v H1 hv => ?_)
  obtain ⟨hv, g1, l1, h1⟩ := hv
  replace hv : v = .ptr (.hp (H.length + 2)) 0 := hv
  subst hv
  replace g1 : Grown H H1 := g1
  replace l1 : H1.length = H.length + 3 := l1
  replace h1 : HasMem N H1 (H.length + 2) H.length (H.length + 1) (fun _ => 0) (fun _ => 0) := h1
  conv => enter [1]; whnf
  refine Ends.call (wnewN_F mk k lo (by omega) H1) ?_
  conv => enter [1]; whnf
  refine Ends.call (cnew_F mk k lo (by omega) _ (H.length + 2) H1.length para sz sz hp hz) ?_
  conv => enter [1]; whnf
  have hcl : (H1 ++ [(⟨[.nils, .int .i64 0, .nils], true⟩ : Blk)]).length = H.length + 4 := by rw [List.length_append, l1]; rfl
  have hX : (H1 ++ [(⟨[.nils, .int .i64 0, .nils], true⟩ : Blk)] ++ [(⟨machL g0 g0 0 0 (H.length + 2) H1.length (para * 16) sz 0, true⟩ : Blk)])[(H1 ++ [(⟨[.nils, .int .i64 0, .nils], true⟩ : Blk)]).length]? = some ⟨machL g0 g0 0 0 (H.length + 2) H1.length (para * 16) sz 0, true⟩ := snoc_top rfl
  have g3 : Grown H1 (H1 ++ [(⟨[.nils, .int .i64 0, .nils], true⟩ : Blk)] ++ [(⟨machL g0 g0 0 0 (H.length + 2) H1.length (para * 16) sz 0, true⟩ : Blk)]) := (Grown.one _ _).trans (Grown.one _ _)
  generalize (H1 ++ [(⟨[.nils, .int .i64 0, .nils], true⟩ : Blk)] ++ [(⟨machL g0 g0 0 0 (H.length + 2) H1.length (para * 16) sz 0, true⟩ : Blk)]) = X at *
  generalize (H1 ++ [(⟨[.nils, .int .i64 0, .nils], true⟩ : Blk)]).length = cc at *
  have hc : HasMach X cc g0 g0 0 0 (H.length + 2) H1.length (para * 16) sz 0 := ⟨hX⟩
  refine Ends.call (with13_F mk k lo (by omega) hc (by omega) para sp) ?_
  conv => enter [1]; whnf
  have g4 : Grown H1 (X.set cc ⟨machL (updR g0 4 (sp, false)) (fun _ => (para, true)) 0 0 (H.length + 2) H1.length (para * 16) sz 0, true⟩) := g3.set (by omega) _
  have hcs : (X.set cc ⟨machL (updR g0 4 (sp, false)) (fun _ => (para, true)) 0 0 (H.length + 2) H1.length (para * 16) sz 0, true⟩)[cc]? = some ⟨machL (updR g0 4 (sp, false)) (fun _ => (para, true)) 0 0 (H.length + 2) H1.length (para * 16) sz 0, true⟩ := List.getElem?_set_self (at_lt hX)
  exact Ends.some' ⟨cc, H.length + 2, H1.length, H.length, H.length + 1, rfl, ⟨hcs⟩, h1.grow g4, g1.trans g4, by omega, Nat.le_refl _, by omega, by omega, by omega, by omega⟩
end Go.Proofs.Ytkjcipdfciajhaa.VM
