/- The reference's instructions, by the plain machine: rows, whether one may be. -/
import Derived.Test.YtponkdimnafppaaDoorROc
import Derived.Test.YtponkdimnafppaaDoorWB
namespace Go.Proofs.YtponkdimnafppaaDoor.VM
open Go Go.RowKit
set_option linter.unusedVariables false
set_option linter.unusedSimpArgs false
set_option maxRecDepth 40000
set_option maxHeartbeats 1600000
/-- An instruction. -/
structure IN where
  lock : Bool
  rep : Int
  seg : Int
  op : Int
  mod : Int
  reg : Int
  rm : Int
  disp : Int
  imm : Int
  sel : Int
def inL (x : IN) : List Val := [.bool x.lock, .int .i64 x.rep, .int .i64 x.seg, .int .u8 x.op, .int .i64 x.mod, .int .i64 x.reg, .int .i64 x.rm, .int .u16 x.disp, .int .u16 x.imm, .int .u16 x.sel]
/-- A row. -/
structure RW where
  nm : Int
  a : Int
  b : Int
  md : Bool
def rwL (x : RW) : List Val := [.int .i64 x.nm, .int .i64 x.a, .int .i64 x.b, .bool x.md]
theorem Find_F (mk : Mk) (k lo : Nat) (w : ByteArray) (hk : 2000 ≤ k) (H : List Blk) :
    Ends (FF mk k lo 83 [.str w] H) fun r => r.2 = H ∧ ∃ z : Int, r.1 = .int .i64 z := by
  obtain ⟨k, rfl⟩ : ∃ m, k = m + 1 := ⟨k - 1, by omega⟩
  refine Ends.enter rfl ?_
  conv => enter [1]; whnf
  refine Ends.callE (find_F mk k lo _ w ?_ ?_ H) (fun v H1 hv => ?_)
  · exact Nat.le_trans (Nat.add_le_add_right (show _ ≤ 600 by decide) 8) (by omega)
  · decide
  obtain ⟨hH, t, hv, _⟩ := hv
  replace hH : H1 = H := hH
  replace hv : v = .int .i64 t := hv
  subst hH; subst hv
  conv => enter [1]; whnf
  exact Ends.some' ⟨rfl, _, rfl⟩
theorem row04_F (mk : Mk) (k lo : Nat) (hk : 9000 ≤ k) (op reg : Int) (hop : 0 ≤ op ∧ op < 256) (H : List Blk) : Ends (FF mk k lo 40 [.int .u8 op, .int .i64 reg] H) fun r => r.2 = H ∧ ∃ (x : RW) (ok : Bool), r.1 = .tup [.agg (rwL x), .bool ok] := by
  obtain ⟨k, rfl⟩ : ∃ m, k = m + 1 := ⟨k - 1, by omega⟩
  refine Ends.enter rfl ?_
  conv => enter [1]; whnf
  refine Ends.callE (entry_F mk k lo (by omega) op reg hop H) (fun v9 H9 hv => ?_)
  obtain ⟨hH9, t, hv, ht⟩ := hv
  have hH8 := Eq.symm hH9
  replace hv : v9 = .str t := hv
  subst hv
  dsimp only at hH8
  subst hH8
  clear hH9
  conv => enter [1]; whnf
  refine Ends.ite (fun h => ?_) (fun h => ?_) <;> (conv => enter [1]; whnf)
  · refine Ends.ite (fun h => ?_) (fun h => ?_) <;> (conv => enter [1]; whnf)
    · exact Ends.some' ⟨rfl, ⟨0, 0, 0, false⟩, false, rfl⟩
    · skip
      refine Ends.callE (part_F mk k lo t _ 0 (by omega) (by omega) (by omega) H) (fun v9 H9 hv => ?_)
      obtain ⟨hH9, u1, hv, hu1⟩ := hv
      have hH8 := Eq.symm hH9
      replace hv : v9 = .str u1 := hv
      subst hv
      dsimp only at hH8
      subst hH8
      clear hH9
      conv => enter [1]; whnf
      refine Ends.callE (Find_F mk k lo u1 (by omega) H) (fun v9 H9 hv => ?_)
      obtain ⟨hH9, z1, hv⟩ := hv
      have hH8 := Eq.symm hH9
      replace hv : v9 = .int .i64 z1 := hv
      subst hv
      dsimp only at hH8
      subst hH8
      clear hH9
      conv => enter [1]; whnf
      refine Ends.callE (part_F mk k lo t _ 1 (by omega) (by omega) (by omega) H) (fun v9 H9 hv => ?_)
      obtain ⟨hH9, u2, hv, hu2⟩ := hv
      have hH8 := Eq.symm hH9
      replace hv : v9 = .str u2 := hv
      subst hv
      dsimp only at hH8
      subst hH8
      clear hH9
      conv => enter [1]; whnf
      refine Ends.callE ((find_F mk k lo _ u2 (Nat.le_trans (Nat.add_le_add_right (show _ ≤ 600 by decide) 8) (by omega)) (by decide) H).mono (fun r h => show r.2 = H ∧ ∃ z : Int, r.1 = .int .i64 z from ⟨h.1, by obtain ⟨z, hz, _⟩ := h.2; exact ⟨_, hz⟩⟩)) (fun v9 H9 hv => ?_)
      obtain ⟨hH9, z2, hv⟩ := hv
      have hH8 := Eq.symm hH9
      replace hv : v9 = .int .i64 z2 := hv
      subst hv
      dsimp only at hH8
      subst hH8
      clear hH9
      conv => enter [1]; whnf
      refine Ends.callE (part_F mk k lo t _ 2 (by omega) (by omega) (by omega) H) (fun v9 H9 hv => ?_)
      obtain ⟨hH9, u3, hv, hu3⟩ := hv
      have hH8 := Eq.symm hH9
      replace hv : v9 = .str u3 := hv
      subst hv
      dsimp only at hH8
      subst hH8
      clear hH9
      conv => enter [1]; whnf
      refine Ends.callE ((find_F mk k lo _ u3 (Nat.le_trans (Nat.add_le_add_right (show _ ≤ 600 by decide) 8) (by omega)) (by decide) H).mono (fun r h => show r.2 = H ∧ ∃ z : Int, r.1 = .int .i64 z from ⟨h.1, by obtain ⟨z, hz, _⟩ := h.2; exact ⟨_, hz⟩⟩)) (fun v9 H9 hv => ?_)
      obtain ⟨hH9, z3, hv⟩ := hv
      have hH8 := Eq.symm hH9
      replace hv : v9 = .int .i64 z3 := hv
      subst hv
      dsimp only at hH8
      subst hH8
      clear hH9
      conv => enter [1]; whnf
      refine Ends.callE (second_F mk k lo (by omega) z2 H) (fun v9 H9 hv => ?_)
      obtain ⟨hH9, b1, hv⟩ := hv
      have hH8 := Eq.symm hH9
      replace hv : v9 = .bool b1 := hv
      subst hv
      dsimp only at hH8
      subst hH8
      clear hH9
      conv => enter [1]; whnf
      cases b1
      · conv => enter [1]; whnf
        refine Ends.callE (second_F mk k lo (by omega) z3 H) (fun v9 H9 hv => ?_)
        obtain ⟨hH9, b2, hv⟩ := hv
        have hH8 := Eq.symm hH9
        replace hv : v9 = .bool b2 := hv
        subst hv
        dsimp only at hH8
        subst hH8
        clear hH9
        conv => enter [1]; whnf
        exact Ends.some' ⟨rfl, ⟨z1, z2, z3, _⟩, true, rfl⟩
      · conv => enter [1]; whnf
        exact Ends.some' ⟨rfl, ⟨z1, z2, z3, _⟩, true, rfl⟩
  · exact Ends.some' ⟨rfl, ⟨0, 0, 0, false⟩, false, rfl⟩
theorem row05_F (mk : Mk) (k lo : Nat) (hk : 9100 ≤ k) (x : IN) (hop : 0 ≤ x.op ∧ x.op < 256) (H : List Blk) : Ends (FF mk k lo 15 [.agg (inL x)] H) fun r => r.2 = H ∧ ∃ (y : RW) (ok : Bool), r.1 = .tup [.agg (rwL y), .bool ok] := by
  obtain ⟨k, rfl⟩ : ∃ m, k = m + 1 := ⟨k - 1, by omega⟩
  refine Ends.enter rfl ?_
  conv => enter [1]; whnf
  refine Ends.callE (prefix_F mk k lo (by omega) x.op H) (fun v9 H9 hv => ?_)
  obtain ⟨hH9, b1, hv⟩ := hv
  have hH8 := Eq.symm hH9
  replace hv : v9 = .bool b1 := hv
  subst hv
  dsimp only at hH8
  subst hH8
  clear hH9
  conv => enter [1]; whnf
  cases b1
  · conv => enter [1]; whnf
    refine Ends.callE (row04_F mk k lo (by omega) x.op x.reg hop H) (fun v9 H9 hv => ?_)
    obtain ⟨hH9, y, ok, hv⟩ := hv
    have hH8 := Eq.symm hH9
    replace hv : v9 = .tup [.agg (rwL y), .bool ok] := hv
    subst hv
    dsimp only at hH8
    subst hH8
    clear hH9
    conv => enter [1]; whnf
    exact Ends.some' ⟨rfl, y, ok, rfl⟩
  · conv => enter [1]; whnf
    exact Ends.some' ⟨rfl, ⟨0, 0, 0, false⟩, false, rfl⟩
theorem fits_F (mk : Mk) (k lo : Nat) (hk : 2 ≤ k) (n : Int) (H : List Blk) : Ends (FF mk k lo 80 [.int .u16 n] H) fun r => r.2 = H ∧ ∃ b, r.1 = .bool b := by
  obtain ⟨k, rfl⟩ : ∃ m, k = m + 1 := ⟨k - 1, by omega⟩
  refine Ends.enter rfl ?_
  conv => enter [1]; whnf
  refine Ends.ite (fun h => ?_) (fun h => ?_) <;> (conv => enter [1]; whnf)
  · exact Ends.some' ⟨rfl, _, rfl⟩
  · exact Ends.some' ⟨rfl, _, rfl⟩
theorem sign_F (mk : Mk) (k lo : Nat) (hk : 2 ≤ k) (n : Int) (hn : 0 ≤ n ∧ n < 256) (H : List Blk) : Ends (FF mk k lo 33 [.int .u8 n] H) fun r => r.2 = H ∧ ∃ z : Int, r.1 = .int .u16 z ∧ 0 ≤ z ∧ z < 65536 := by
  obtain ⟨k, rfl⟩ : ∃ m, k = m + 1 := ⟨k - 1, by omega⟩
  refine Ends.enter rfl ?_
  conv => enter [1]; whnf
  refine Ends.ite (fun h => ?_) (fun h => ?_) <;> (conv => enter [1]; whnf)
  · exact Ends.some' ⟨rfl, _, rfl, by rw [wu16]; omega⟩
  · exact Ends.some' ⟨rfl, _, rfl, by rw [wu16, wu16]; omega⟩
theorem reps_F (mk : Mk) (k lo : Nat) (hk : 3000 ≤ k) (n : Int) (H : List Blk) : Ends (FF mk k lo 35 [.int .i64 n] H) fun r => r.2 = H ∧ ∃ z : Int, r.1 = .int .i64 z ∧ (z = 0 ∨ z = 1 ∨ z = 2) := by
  obtain ⟨k, rfl⟩ : ∃ m, k = m + 1 := ⟨k - 1, by omega⟩
  refine Ends.enter rfl ?_
  conv => enter [1]; whnf
  refine Ends.callE (name_F mk k lo (by omega) n H) (fun v9 H9 hv => ?_)
  obtain ⟨hH9, t, hv⟩ := hv
  have hH8 := Eq.symm hH9
  replace hv : v9 = .str t := hv
  subst hv
  dsimp only at hH8
  subst hH8
  clear hH9
  conv => enter [1]; whnf
  repeat' (first
    | (refine Ends.ite (fun h => ?_) (fun h => ?_) <;> (conv => enter [1]; whnf))
    | exact Ends.some' ⟨rfl, _, rfl, by decide⟩)
end Go.Proofs.YtponkdimnafppaaDoor.VM
