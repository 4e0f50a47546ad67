/- A memory by segments in the plain machine. -/
import Derived.Test.YtkjcipdfciajhaaMA
namespace Go.Proofs.Ytkjcipdfciajhaa.VM
open Go Go.RowKit
set_option linter.unusedVariables false
set_option linter.unusedSimpArgs false
set_option maxRecDepth 40000
set_option maxHeartbeats 1600000
/-- Where a segment's offset is. -/
def linZ (s o : Int) : Int := (s * 16 + o) % 1048576
theorem mlin_F (mk : Mk) (k lo : Nat) (hk : 1 ≤ k) (s o : Int) (hs : U16 s) (ho : U16 o) (H : List Blk) : FF mk k lo 39 [.int .u16 s, .int .u16 o] H = some (.int .u32 (linZ s o), H) := by
  obtain ⟨k, rfl⟩ : ∃ m, k = m + 1 := ⟨k - 1, by omega⟩
  refine eq_of_ends ?_
  conv => enter [1]; whnf
  repeat' (first
    | refine Ends.some' ?_
    | (refine Ends.force ?_; conv => enter [1]; whnf)
    | (refine Ends.forceN ?_; conv => enter [1]; whnf)
    | (refine Ends.forceLs ?_; conv => enter [1]; whnf)
    | (refine Ends.iteT (by first | with_reducible assumption | (simp [*]; done) | (apply decide_eq_true; omega) | fail "open") ?_; conv => enter [1]; whnf)
    | (refine Ends.iteF (by first | with_reducible assumption | (simp [*]; done) | (apply decide_eq_false; omega) | fail "open") ?_; conv => enter [1]; whnf)
    | (refine Ends.ite (fun h => ?_) (fun h => ?_) <;> (conv => enter [1]; whnf)))
  have hz : IntKind.u32.wrap (IntKind.u32.wrap (IntKind.u32.wrap s * 2 ^ min (Int.toNat 4) IntKind.u32.bits) + IntKind.u32.wrap o) = s * 16 + o := by
    have e4 : (2 : Int) ^ min (Int.toNat 4) IntKind.u32.bits = 16 := rfl
    unfold U16 at hs ho
    rw [e4, wu32, wu32, wu32, wu32]
    omega
  rw [hz]
  have h : (BitVec.ofInt IntKind.u32.bits (s * 16 + o) &&& BitVec.ofInt IntKind.u32.bits 1048575).toNat = ((s * 16 + o) % ((2 ^ 20 : Nat) : Int)).toNat := and_low 32 (s * 16 + o) 20 (by decide)
  rw [h, wu32]
  unfold U16 at hs ho
  unfold linZ
  have e20 : ((2 ^ 20 : Nat) : Int) = 1048576 := rfl
  rw [e20]
  have : (((((s * 16 + o) % 1048576).toNat : Nat) : Int)) % 4294967296 = (s * 16 + o) % 1048576 := by omega
  rw [this]
theorem linZ_lt (s o : Int) : 0 ≤ linZ s o ∧ linZ s o < 1048576 := by unfold linZ; omega
theorem mnew_F (mk : Mk) (k lo : Nat) (hk : 1 ≤ k) (H : List Blk) : FF mk k lo 29 [] H = some (.ptr (.hp (H.length + 2)) 0, H ++ [⟨mk.f 1048576 [.int .u8 0], true⟩] ++ [⟨mk.f 1048576 [.int .u8 0], true⟩] ++ [⟨[.sl (.hp H.length) 0 1048576 1, .sl (.hp (H.length + 1)) 0 1048576 1], true⟩]) := by
  obtain ⟨k, rfl⟩ : ∃ m, k = m + 1 := ⟨k - 1, by omega⟩
  rw [show H.length + 2 = (H ++ [(⟨mk.f 1048576 [.int .u8 0], true⟩ : Blk)] ++ [(⟨mk.f 1048576 [.int .u8 0], true⟩ : Blk)]).length by simp, show H.length + 1 = (H ++ [(⟨mk.f 1048576 [.int .u8 0], true⟩ : Blk)]).length by simp]
  refine eq_of_ends ?_
  conv => enter [1]; whnf
  refine Ends.force ?_
  conv => enter [1]; whnf
  refine Ends.force ?_
  conv => enter [1]; whnf
  have e1 : Nat.beq H.length (H ++ [(⟨mk.f 1048576 [.int .u8 0], true⟩ : Blk)]).length = false := by simp [← Bool.not_eq_true, Nat.beq_eq]
  have e2 : ∀ b c : Blk, Nat.beq H.length (H ++ [b] ++ [c]).length = false := by intro b c; simp [← Bool.not_eq_true, Nat.beq_eq]
  have e3 : ∀ b c : Blk, Nat.beq (H ++ [b]).length (H ++ [b] ++ [c]).length = false := by intro b c; simp [← Bool.not_eq_true, Nat.beq_eq]
  have e4 : ∀ b : Blk, Nat.beq H.length (H ++ [b]).length = false := by intro b; simp [← Bool.not_eq_true, Nat.beq_eq]
  have e5 : ∀ b : Blk, Nat.beq (H ++ [b]).length H.length = false := by intro b; simp [← Bool.not_eq_true, Nat.beq_eq]
  have e6 : ∀ b c : Blk, Nat.beq (H ++ [b] ++ [c]).length H.length = false := by intro b c; simp [← Bool.not_eq_true, Nat.beq_eq]
  have e7 : ∀ b c : Blk, Nat.beq (H ++ [b] ++ [c]).length (H ++ [b]).length = false := by intro b c; simp [← Bool.not_eq_true, Nat.beq_eq]
  refine Ends.iteT ?_ ?_
  · change freeB _ [(3, .new none (.hp (H ++ [_] ++ [_]).length) _), (1, .new none (.hp (H ++ [_]).length) _), (0, .new none (.hp H.length) _)] = true
    simp only [freeB, freeOne, commB, disjB, newsOf, wrsOf, rdsOf, List.all_cons, List.all_nil, Base.eqB, List.append_nil, List.nil_append, Option.toList, e2, e3, e4, e5, e6, e7, Bool.not_false, Bool.and_true, Bool.and_self, Bool.or_true]
  conv => enter [1]; whnf
  exact Ends.some' rfl
end Go.Proofs.Ytkjcipdfciajhaa.VM
