/- Records are got by the plain machine. -/
import Derived.Test.YtaigfmejihimgaaREc
namespace Go.Proofs.Ytaigfmejihimgaa.VM
open Go Go.RowKit
set_option linter.unusedVariables false
set_option linter.unusedSimpArgs false
set_option maxRecDepth 40000
set_option maxHeartbeats 1600000
def mOf (L : List UInt8) : Nat := (L.getD 1 0).toNat + 256 * (L.getD 2 0).toNat
def lastB (L : List UInt8) : Nat := (L.getD (2 + mOf L) 0).toNat
/-- What getting a record tells. -/
def getE (L : List UInt8) : Nat :=
  if L.length < 3 then 2 else if mOf L = 0 then 3 else if 4001 < mOf L then 8 else if L.length < 3 + mOf L then 2 else if lastB L ≠ 0 ∧ lastB L ≠ chkN (L.take (2 + mOf L)) then 4 else 0
/-- A record that is got. -/
def Got (L : List UInt8) (H : List Blk) (r : Val) : Prop := ∃ kd vb n, r = .tup [.agg [.int .u8 kd, vb], .int .i64 n, .int .i64 (getE L : Nat)] ∧
  (getE L = 0 → kd = (L.getD 0 0).toNat ∧ n = ((3 + mOf L : Nat) : Int) ∧ Bs H vb ((L.drop 3).take (mOf L - 1))) ∧ (getE L ≠ 0 → kd = 0 ∧ vb = .nils ∧ n = 0)
theorem getE_0 {L : List UInt8} (h : getE L = 0) : 3 ≤ L.length ∧ mOf L ≠ 0 ∧ mOf L ≤ 4001 ∧ 3 + mOf L ≤ L.length := by
  unfold getE at h
  repeat' (split at h; · first | (cases h; done) | omega)
  all_goals omega
theorem mOf_lt (L : List UInt8) : mOf L < 65536 := by
  have h1 := (L.getD 1 0).toNat_lt
  have h2 := (L.getD 2 0).toNat_lt
  unfold mOf; omega
theorem part_d {pre post : List Val} {l : List UInt8} (i : Nat) (h : i < l.length) {off : Nat} (ho : off = pre.length + i) : partV Try.prog 5 (pre ++ (bV l ++ post)) off = some (.int .u8 (l.getD i 0).toNat) := by
  rw [part_b i h ho]
  simp [List.getD_eq_getElem?_getD, h]
theorem beqF {a b : Nat} (h : a ≠ b) : Nat.beq a b = false := by simpa [← Bool.not_eq_true, Nat.beq_eq] using h
theorem u8_nat (b : UInt8) : U8 (b.toNat : Int) := by have := b.toNat_lt; unfold U8; omega
theorem bV_split (l : List UInt8) (n : Nat) (post : List Val) : bV l ++ post = bV (l.take n) ++ (bV (l.drop n) ++ post) := by
  rw [← List.append_assoc, ← bV_append, List.take_append_drop]
theorem get_sl (mk : Mk) (k lo : Nat) (L : List UInt8) (b off : Nat) (pre post : List Val) (hk : L.length + 8 ≤ k) (hl : L.length ≤ 100000) (H : List Blk) (hlo : lo ≤ H.length) (ho : off = pre.length) (hg : H[b]? = some ⟨pre ++ (bV L ++ post), true⟩) :
    Ends (FF mk k lo 8 [.sl (.hp b) off L.length 1] H) fun r => Grown H r.2 ∧ Got L r.2 r.1 := by
  obtain ⟨k, rfl⟩ : ∃ m, k = m + 1 := ⟨k - 1, by omega⟩
  have hb := at_lt hg
  have ne1 : Nat.beq b H.length = false := beqF (by omega)
  have ne2 : Nat.beq H.length b = false := beqF (by omega)
  conv => enter [1]; whnf
  by_cases c1 : L.length < 3
  · have hE : getE L = 2 := by unfold getE; rw [if_pos c1]
    refine Ends.iteT (decide_eq_true (by omega)) ?_
    conv => enter [1]; whnf
    refine Ends.some' ⟨Grown.refl _, 0, .nils, 0, ?_, fun h => absurd h (by omega), fun _ => ⟨rfl, rfl, rfl⟩⟩
    rw [hE]; rfl
  refine Ends.iteF (decide_eq_false (by omega)) ?_
  conv => enter [1]; whnf
  refine Ends.iteT (decide_eq_true (by omega)) ?_
  conv => enter [1]; whnf
  refine Ends.opt (get_at hg _) ?_
  conv => enter [1]; whnf
  refine Ends.opt (part_d 1 (by omega) (by omega)) ?_
  conv => enter [1]; whnf
  refine Ends.iteT (decide_eq_true (by omega)) ?_
  conv => enter [1]; whnf
  refine Ends.opt (get_at hg _) ?_
  conv => enter [1]; whnf
  refine Ends.opt (part_d 2 (by omega) (by omega)) ?_
  conv => enter [1]; whnf
  refine Ends.call (bword_F mk _ _ (by omega) _ _ (u8_nat _) (u8_nat _) _) ?_
  conv => enter [1]; whnf
  have hm : IntKind.i64.wrap ((((L.getD 1 0).toNat : Nat) : Int) + 256 * (((L.getD 2 0).toNat : Nat) : Int)) = ((mOf L : Nat) : Int) := by
    have := mOf_lt L
    unfold mOf at *
    rw [w64s _ (by omega) (by omega)]; omega
  rw [hm]
  by_cases c2 : mOf L = 0
  · have hE : getE L = 3 := by unfold getE; rw [if_neg c1, if_pos c2]
    refine Ends.iteT (by rw [c2]; rfl) ?_
    conv => enter [1]; whnf
    refine Ends.some' ⟨Grown.refl _, 0, .nils, 0, ?_, fun h => absurd h (by omega), fun _ => ⟨rfl, rfl, rfl⟩⟩
    rw [hE]; rfl
  refine Ends.iteF (by simp; omega) ?_
  conv => enter [1]; whnf
  have hw : IntKind.i64.wrap (((mOf L : Nat) : Int) - 1) = ((mOf L - 1 : Nat) : Int) := by
    have := mOf_lt L
    rw [w64s _ (by omega) (by omega)]; omega
  rw [hw]
  by_cases c3 : 4001 < mOf L
  · have hE : getE L = 8 := by unfold getE; rw [if_neg c1, if_neg c2, if_pos c3]
    refine Ends.iteT (decide_eq_true (by omega)) ?_
    conv => enter [1]; whnf
    refine Ends.some' ⟨Grown.refl _, 0, .nils, 0, ?_, fun h => absurd h (by omega), fun _ => ⟨rfl, rfl, rfl⟩⟩
    rw [hE]; rfl
  refine Ends.iteF (decide_eq_false (by omega)) ?_
  conv => enter [1]; whnf
  have hw3 : IntKind.i64.wrap (3 + ((mOf L : Nat) : Int)) = ((3 + mOf L : Nat) : Int) := by
    rw [w64s _ (by omega) (by omega)]; omega
  rw [hw3]
  by_cases c4 : L.length < 3 + mOf L
  · have hE : getE L = 2 := by unfold getE; rw [if_neg c1, if_neg c2, if_neg c3, if_pos c4]
    refine Ends.iteT (decide_eq_true (by omega)) ?_
    conv => enter [1]; whnf
    refine Ends.some' ⟨Grown.refl _, 0, .nils, 0, ?_, fun h => absurd h (by omega), fun _ => ⟨rfl, rfl, rfl⟩⟩
    rw [hE]; rfl
  refine Ends.iteF (decide_eq_false (by omega)) ?_
  conv => enter [1]; whnf
  rw [hw3]
  refine Ends.iteT (decide_eq_true (by omega)) ?_
  conv => enter [1]; whnf
  have hw4 : (((3 + mOf L : Nat) : Int) - 0).toNat = 3 + mOf L := by omega
  rw [hw4]
  have hw5 : IntKind.i64.wrap (((3 + mOf L : Nat) : Int) - 1) = ((2 + mOf L : Nat) : Int) := by
    rw [w64s _ (by omega) (by omega)]; omega
  rw [hw5]
  refine Ends.iteT (decide_eq_true (by omega)) ?_
  conv => enter [1]; whnf
  refine Ends.opt (get_at hg _) ?_
  conv => enter [1]; whnf
  refine Ends.opt (part_d (2 + mOf L) (by omega) (by omega)) ?_
  conv => enter [1]; whnf
  by_cases c5 : lastB L = 0
  · have hE : getE L = 0 := by unfold getE; rw [if_neg c1, if_neg c2, if_neg c3, if_neg c4, if_neg (by omega)]
    have hq : ((((L.getD (2 + mOf L) 0).toNat : Nat) : Int) != 0) = false := by
      have : (L.getD (2 + mOf L) 0).toNat = 0 := c5
      rw [this]; rfl
    rw [hq]
    conv => enter [1]; whnf
    refine Ends.iteT (decide_eq_true (by omega)) ?_
    conv => enter [1]; whnf
    refine Ends.opt (get_at hg _) ?_
    conv => enter [1]; whnf
    refine Ends.opt (part_d 0 (by omega) (by omega)) ?_
    conv => enter [1]; whnf
    rw [hw3, hw5]
    refine Ends.iteT (decide_eq_true (by omega)) ?_
    conv => enter [1]; whnf
    have hw7 : (((2 + mOf L : Nat) : Int) - 3).toNat = mOf L - 1 := by omega
    rw [hw7]
    refine Ends.opt (sc_sl (l := (L.drop 3).take (mOf L - 1)) (pre := pre ++ bV (L.take 3)) (post := bV ((L.drop 3).drop (mOf L - 1)) ++ post) (by rw [List.length_take, List.length_drop]; omega) (by rw [List.length_append, bV_len, List.length_take]; omega) (hg.trans (by rw [bV_split L 3, bV_split (L.drop 3) (mOf L - 1)]; simp)) _) ?_
    conv => enter [1]; whnf
    refine Ends.iteT (decide_eq_true (by rw [bV_len, List.length_take, List.length_drop]; omega)) ?_
    conv => enter [1]; whnf
    refine Ends.iteT (bV_shared _) ?_
    conv => enter [1]; whnf
    refine Ends.iteT (decide_eq_true (by omega)) ?_
    conv => enter [1]; whnf
    by_cases c7 : mOf L - 1 = 0
    · refine Ends.iteT (decide_eq_true c7) ?_
      conv => enter [1]; whnf
      rw [hw3]
      refine Ends.some' ⟨Grown.refl _, _, _, _, ?_, fun _ => ⟨rfl, rfl, .inl ⟨rfl, ?_⟩⟩, fun h => absurd hE h⟩
      · rw [hE]; rfl
      · rw [c7, List.take_zero]
    · refine Ends.iteF (decide_eq_false c7) ?_
      conv => enter [1]; whnf
      refine Ends.force ?_
      conv => enter [1]; whnf
      refine Ends.iteT ?_ ?_
      · simp [freeB, freeOne, commB, disjB, newsOf, wrsOf, rdsOf, outOf, isLoc, Base.eqB, ne1, ne2]
      conv => enter [1]; whnf
      rw [hw3]
      refine Ends.some' ⟨Grown.one _ _, _, .sl (.hp H.length) 0 (mOf L - 1) 1, _, ?_, fun _ => ⟨rfl, rfl, bs_top rfl ?_ rfl⟩, fun h => absurd hE h⟩
      · rw [hE]; rfl
      · rw [List.length_take, List.length_drop]; omega
  have hq : ((((L.getD (2 + mOf L) 0).toNat : Nat) : Int) != 0) = true := by
    have : (L.getD (2 + mOf L) 0).toNat ≠ 0 := c5
    generalize (L.getD (2 + mOf L) 0).toNat = x at *
    simp [this]
  rw [hq]
  conv => enter [1]; whnf
  rw [hw5]
  refine Ends.iteT (decide_eq_true (by omega)) ?_
  conv => enter [1]; whnf
  have hw6 : (((2 + mOf L : Nat) : Int) - 0).toNat = 2 + mOf L := by omega
  rw [hw6]
  refine Ends.call (recsum_G mk k _ (L.take (2 + mOf L)) b _ _ pre (bV (L.drop (2 + mOf L)) ++ post) (by rw [List.length_take]; omega) (by rw [List.length_take]; omega) (by rw [List.length_take]; omega) H (by omega) (by rw [hg, bV_split])) ?_
  conv => enter [1]; whnf
  by_cases c6 : lastB L = chkN (L.take (2 + mOf L))
  · have hE : getE L = 0 := by unfold getE; rw [if_neg c1, if_neg c2, if_neg c3, if_neg c4, if_neg (by omega)]
    have hq : ((((L.getD (2 + mOf L) 0).toNat : Nat) : Int) != ((chkN (L.take (2 + mOf L)) : Nat) : Int)) = false := by
      have : (L.getD (2 + mOf L) 0).toNat = chkN (L.take (2 + mOf L)) := c6
      rw [this]; simp
    rw [hq]
    conv => enter [1]; whnf
    refine Ends.iteT (decide_eq_true (by omega)) ?_
    conv => enter [1]; whnf
    refine Ends.opt (get_at hg _) ?_
    conv => enter [1]; whnf
    refine Ends.opt (part_d 0 (by omega) (by omega)) ?_
    conv => enter [1]; whnf
    rw [hw3, hw5]
    refine Ends.iteT (decide_eq_true (by omega)) ?_
    conv => enter [1]; whnf
    have hw7 : (((2 + mOf L : Nat) : Int) - 3).toNat = mOf L - 1 := by omega
    rw [hw7]
    refine Ends.opt (sc_sl (l := (L.drop 3).take (mOf L - 1)) (pre := pre ++ bV (L.take 3)) (post := bV ((L.drop 3).drop (mOf L - 1)) ++ post) (by rw [List.length_take, List.length_drop]; omega) (by rw [List.length_append, bV_len, List.length_take]; omega) (hg.trans (by rw [bV_split L 3, bV_split (L.drop 3) (mOf L - 1)]; simp)) _) ?_
    conv => enter [1]; whnf
    refine Ends.iteT (decide_eq_true (by rw [bV_len, List.length_take, List.length_drop]; omega)) ?_
    conv => enter [1]; whnf
    refine Ends.iteT (bV_shared _) ?_
    conv => enter [1]; whnf
    refine Ends.iteT (decide_eq_true (by omega)) ?_
    conv => enter [1]; whnf
    by_cases c7 : mOf L - 1 = 0
    · refine Ends.iteT (decide_eq_true c7) ?_
      conv => enter [1]; whnf
      rw [hw3]
      refine Ends.some' ⟨Grown.refl _, _, _, _, ?_, fun _ => ⟨rfl, rfl, .inl ⟨rfl, ?_⟩⟩, fun h => absurd hE h⟩
      · rw [hE]; rfl
      · rw [c7, List.take_zero]
    · refine Ends.iteF (decide_eq_false c7) ?_
      conv => enter [1]; whnf
      refine Ends.force ?_
      conv => enter [1]; whnf
      refine Ends.iteT ?_ ?_
      · simp [freeB, freeOne, commB, disjB, newsOf, wrsOf, rdsOf, outOf, isLoc, Base.eqB, ne1, ne2]
      conv => enter [1]; whnf
      rw [hw3]
      refine Ends.some' ⟨Grown.one _ _, _, .sl (.hp H.length) 0 (mOf L - 1) 1, _, ?_, fun _ => ⟨rfl, rfl, bs_top rfl ?_ rfl⟩, fun h => absurd hE h⟩
      · rw [hE]; rfl
      · rw [List.length_take, List.length_drop]; omega
  · have hE : getE L = 4 := by unfold getE; rw [if_neg c1, if_neg c2, if_neg c3, if_neg c4, if_pos ⟨c5, c6⟩]
    have hq : ((((L.getD (2 + mOf L) 0).toNat : Nat) : Int) != ((chkN (L.take (2 + mOf L)) : Nat) : Int)) = true := by
      have : (L.getD (2 + mOf L) 0).toNat ≠ chkN (L.take (2 + mOf L)) := c6
      generalize (L.getD (2 + mOf L) 0).toNat = x at *
      generalize chkN (L.take (2 + mOf L)) = y at *
      simp; omega
    rw [hq]
    conv => enter [1]; whnf
    refine Ends.some' ⟨Grown.refl _, 0, .nils, 0, ?_, fun h => absurd h (by omega), fun _ => ⟨rfl, rfl, rfl⟩⟩
    rw [hE]; rfl
theorem get_F (mk : Mk) (k lo : Nat) (L : List UInt8) (v : Val) (hk : L.length + 8 ≤ k) (hl : L.length ≤ 100000) (H : List Blk) (hlo : lo ≤ H.length) (hv : Bs H v L) :
    Ends (FF mk k lo 8 [v] H) fun r => Grown H r.2 ∧ Got L r.2 r.1 := by
  rcases hv with ⟨rfl, rfl⟩ | ⟨b, off, pre, post, rfl, h2, h3⟩
  · obtain ⟨k, rfl⟩ : ∃ m, k = m + 8 := ⟨k - 8, by simp at hk; omega⟩
    refine ⟨(.tup [.agg [.int .u8 0, .nils], .int .i64 0, .int .i64 2], H), by kernel_rfl, Grown.refl _, 0, .nils, 0, rfl, fun h => absurd h (by decide), fun _ => ⟨rfl, rfl, rfl⟩⟩
  · exact get_sl mk k lo L b off pre post hk hl H hlo h2 h3
end Go.Proofs.Ytaigfmejihimgaa.VM
