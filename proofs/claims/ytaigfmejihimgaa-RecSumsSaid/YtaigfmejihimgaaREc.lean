/- Records are put by the plain machine. -/
import Derived.Test.YtaigfmejihimgaaREb
namespace Go.Proofs.Ytaigfmejihimgaa.VM
open Go Go.RowKit
set_option linter.unusedVariables false
set_option linter.unusedSimpArgs false
set_option maxRecDepth 40000
set_option maxHeartbeats 1600000
theorem sc_sl {H : List Blk} {b off n : Nat} {pre post : List Val} {l : List UInt8} (hn : n = l.length) (ho : off = pre.length) (hg : H[b]? = some ⟨pre ++ (bV l ++ post), true⟩) (loc : List (List Val)) : sliceCells ⟨loc, H⟩ 1 (.sl (.hp b) off n 1) = some (bV l) := by
  subst hn
  show (Mem.get ⟨loc, H⟩ (.hp b)).bind (part? off (l.length * 1)) = _
  rw [get_at hg]
  exact part_mid pre (bV l) post ho (by rw [bV_len]; omega)
theorem top2 (H : List Blk) (X Y : Blk) (cs : List Val) : ((H ++ [X]).set H.length Y ++ [⟨cs, true⟩])[(H ++ [X]).length]? = some ⟨cs, true⟩ := by simp
theorem snoc_top {A : List Blk} {n : Nat} {k : Blk} (h : n = A.length) : (A ++ [k])[n]? = some k := by subst h; simp
theorem bs_top {A : List Blk} {cs : List Val} {n q : Nat} {l : List UInt8} (hq : q = A.length) (hn : n = l.length) (h : cs = bV l) : Bs (A ++ [⟨cs, true⟩]) (.sl (.hp q) 0 n 1) l := by
  subst hq; subst hn; subst h
  exact .inr ⟨A.length, 0, [], [], rfl, rfl, by simp⟩
theorem Grown.set {H A : List Blk} (h : Grown H A) {i : Nat} (hi : H.length ≤ i) (X : Blk) : Grown H (A.set i X) := by
  obtain ⟨G, rfl⟩ := h
  exact ⟨G.set (i - H.length) X, by rw [List.set_append_right _ _ hi]⟩
theorem recsum_G (mk : Mk) (k lo : Nat) (l : List UInt8) (b off n : Nat) (pre post : List Val) (hn : n = l.length) (hk : l.length + 2 ≤ k) (hl : l.length ≤ 1000000) (H : List Blk) (ho : off = pre.length) (hg : H[b]? = some ⟨pre ++ (bV l ++ post), true⟩) :
    FF mk k lo 10 [.sl (.hp b) off n 1] H = some (.int .u8 (chkN l), H) := by
  subst hn; exact recsum_sl mk k lo l b off pre post hk hl H ho hg
theorem put_sl (mk : Mk) (k lo : Nat) (kind : UInt8) (l : List UInt8) (b off : Nat) (pre post : List Val) (hk : l.length + 8 ≤ k) (hl : l.length ≤ 4000) (H : List Blk) (hlo : lo ≤ H.length) (ho : off = pre.length) (hg : H[b]? = some ⟨pre ++ (bV l ++ post), true⟩) :
    Ends (FF mk k lo 7 [.agg [.int .u8 kind.toNat, .sl (.hp b) off l.length 1]] H) fun r => Grown H r.2 ∧ Bs r.2 r.1 (recB kind l) := by
  obtain ⟨k, rfl⟩ : ∃ m, k = m + 1 := ⟨k - 1, by omega⟩
  have hb := at_lt hg
  have hn : IntKind.u16.wrap (IntKind.i64.wrap ((l.length : Int) + 1)) = ((l.length + 1 : Nat) : Int) := by
    rw [w64s _ (by omega) (by omega), wu16]; omega
  conv => enter [1]; whnf
  refine Ends.iteF (decide_eq_false (by omega)) ?_
  conv => enter [1]; whnf
  refine Ends.call (low_F mk _ _ (by omega) _ _) ?_
  conv => enter [1]; whnf
  refine Ends.call (high_F mk _ _ (by omega) _ (by rw [hn]; unfold U16; omega) _) ?_
  conv => enter [1]; whnf
  refine Ends.opt (sc_sl rfl ho (Grown.at ⟨_, rfl⟩ hg) _) ?_
  conv => enter [1]; whnf
  refine Ends.iteT (decide_eq_true (by rw [bV_len]; omega)) ?_
  conv => enter [1]; whnf
  refine Ends.iteT (bV_shared l) ?_
  conv => enter [1]; whnf
  refine Ends.iteT (may_hp hlo) ?_
  conv => enter [1]; whnf
  refine Ends.iteT (decide_eq_true (by omega)) ?_
  conv => enter [1]; whnf
  refine Ends.opt (get_top _ _ _) ?_
  conv => enter [1]; whnf
  refine Ends.force ?_
  conv => enter [1]; whnf
  have hcells : (Val.int IntKind.u8 ((kind.toNat : Nat) : Int) :: Val.int IntKind.u8 (IntKind.u16.wrap (IntKind.i64.wrap ((l.length : Int) + 1)) % 256) :: Val.int IntKind.u8 (IntKind.u16.wrap (IntKind.i64.wrap ((l.length : Int) + 1)) / 256) :: List.append [] (bV l)) = bV (recH kind l) := by
    rw [hn]
    have e1 : (((l.length + 1 : Nat) : Int) % 256) = (((l.length + 1) % 256).toUInt8.toNat : Int) := by rw [Nat.toUInt8_eq, UInt8.toNat_ofNat']; omega
    have e2 : (((l.length + 1 : Nat) : Int) / 256) = (((l.length + 1) / 256).toUInt8.toNat : Int) := by rw [Nat.toUInt8_eq, UInt8.toNat_ofNat']; omega
    rw [e1, e2]
    rfl
  refine Ends.call (recsum_G mk k _ (recH kind l) _ 0 _ [] [] (by rw [recH_len]; omega) (by rw [recH_len]; omega) (by rw [recH_len]; omega) _ rfl ?_) ?_
  · rw [top2, hcells]; simp
  conv => enter [1]; whnf
  refine Ends.iteT (may_hp (by simp; omega)) ?_
  conv => enter [1]; whnf
  refine Ends.iteT (decide_eq_true (by omega)) ?_
  conv => enter [1]; whnf
  refine Ends.opt (get_at (top2 _ _ _ _) _) ?_
  conv => enter [1]; whnf
  refine Ends.iteT (decide_eq_true (by rw [hcells, bV_len, recH_len]; omega)) ?_
  conv => enter [1]; whnf
  refine Ends.force ?_
  conv => enter [1]; whnf
  refine Ends.some' ⟨?_, ?_⟩
  · exact (((((Grown.one _ _).set (Nat.le_refl _) _).trans (Grown.one _ _)).set (by simp) _).trans (Grown.one _ _))
  · refine bs_top (l := recB kind l) ?_ ?_ ?_
    · simp
    · rw [recB_len]; omega
    show (Val.int IntKind.u8 ((kind.toNat : Nat) : Int) :: Val.int IntKind.u8 (IntKind.u16.wrap (IntKind.i64.wrap ((l.length : Int) + 1)) % 256) :: Val.int IntKind.u8 (IntKind.u16.wrap (IntKind.i64.wrap ((l.length : Int) + 1)) / 256) :: List.append [] (bV l)) ++ [Val.int IntKind.u8 (chkN (recH kind l))] = _
    rw [hcells, ← chkB_nat, recB, bV_append]
    rfl
theorem put_F (mk : Mk) (k lo : Nat) (kind : UInt8) (l : List UInt8) (v : Val) (hk : l.length + 8 ≤ k) (hl : l.length ≤ 4000) (H : List Blk) (hlo : lo ≤ H.length) (hv : Bs H v l) :
    Ends (FF mk k lo 7 [.agg [.int .u8 kind.toNat, v]] H) fun r => Grown H r.2 ∧ Bs r.2 r.1 (recB kind l) := by
  rcases hv with ⟨rfl, rfl⟩ | ⟨b, off, pre, post, rfl, h2, h3⟩
  · obtain ⟨k, rfl⟩ : ∃ m, k = m + 1 := ⟨k - 1, by simp at hk; omega⟩
    have hk : 7 ≤ k := by simp at hk; omega
    conv => enter [1]; whnf
    refine Ends.call (low_F mk _ _ (by omega) _ _) ?_
    conv => enter [1]; whnf
    refine Ends.call (high_F mk _ _ (by omega) _ (by unfold U16; decide) _) ?_
    conv => enter [1]; whnf
    refine Ends.iteT (may_hp hlo) ?_
    conv => enter [1]; whnf
    refine Ends.opt (get_top _ _ _) ?_
    conv => enter [1]; whnf
    refine Ends.call (recsum_G mk k _ (recH kind []) _ 0 _ [] [] (by rw [recH_len]; rfl) (by rw [recH_len]; simp; omega) (by rw [recH_len]; simp) _ rfl (top2 _ _ _ _)) ?_
    conv => enter [1]; whnf
    refine Ends.iteT (may_hp (by simp; omega)) ?_
    conv => enter [1]; whnf
    refine Ends.opt (get_at (top2 _ _ _ _) _) ?_
    conv => enter [1]; whnf
    refine Ends.some' ⟨?_, ?_⟩
    · exact (((((Grown.one _ _).set (Nat.le_refl _) _).trans (Grown.one _ _)).set (by simp) _).trans (Grown.one _ _))
    · refine bs_top (l := recB kind []) ?_ ?_ ?_
      · simp
      · rw [recB_len]; rfl
      rw [← chkB_nat, recB, bV_append]
      rfl
  · exact put_sl mk k lo kind l b off pre post hk hl H hlo h2 h3
end Go.Proofs.Ytaigfmejihimgaa.VM
