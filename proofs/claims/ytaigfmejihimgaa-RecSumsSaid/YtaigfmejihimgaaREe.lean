/- Records by the plain machine: there and back. -/
import Derived.Test.YtaigfmejihimgaaREd
namespace Go.Proofs.Ytaigfmejihimgaa.VM
open Go Go.RowKit
set_option linter.unusedVariables false
set_option linter.unusedSimpArgs false
set_option maxRecDepth 40000
set_option maxHeartbeats 1600000
theorem bytes_sl {pre post : List Val} {l : List UInt8} {off n : Nat} (hn : n = l.length) (ho : off = pre.length) : (part? off n (pre ++ (bV l ++ post))).bind bytesOf = some l := by
  rw [part_mid pre (bV l) post ho (by rw [bV_len]; exact hn)]
  exact bytesOf_bV l
theorem Bs.ne {H : List Blk} {v : Val} {l : List UInt8} (h : Bs H v l) (hl : l ≠ []) : ∃ b off pre post, v = .sl (.hp b) off l.length 1 ∧ off = pre.length ∧ H[b]? = some ⟨pre ++ (bV l ++ post), true⟩ := by
  rcases h with ⟨_, h⟩ | h
  · exact absurd h hl
  · exact h
theorem guardT {x : Bool} (h : x = true) : ((bif (true == true) then x else false) == true) = true := by subst h; rfl
theorem eqBytes_self (l : List UInt8) : eqBytes l l = true := by rw [eqBytes_eq]; simp
theorem eqStr_self (s : ByteArray) : eqStr s s = true := eqBytes_self _
theorem eqStr_of {a b : ByteArray} (h : a = b) : eqStr a b = true := by subst h; exact eqStr_self a
theorem rec_back (kind : UInt8) (l : List UInt8) (hl : l.length ≤ 4000) (more : List UInt8) : mOf (recB kind l ++ more) = l.length + 1 := by
  have e1 : (recB kind l ++ more).getD 1 0 = ((l.length + 1) % 256).toUInt8 := rfl
  have e2 : (recB kind l ++ more).getD 2 0 = ((l.length + 1) / 256).toUInt8 := rfl
  unfold mOf
  rw [e1, e2, Nat.toUInt8_eq, Nat.toUInt8_eq, UInt8.toNat_ofNat', UInt8.toNat_ofNat']
  omega
theorem rec_last (kind : UInt8) (l : List UInt8) (hl : l.length ≤ 4000) (more : List UInt8) : lastB (recB kind l ++ more) = chkN (recH kind l) ∧ (recB kind l ++ more).take (2 + mOf (recB kind l ++ more)) = recH kind l := by
  unfold lastB
  rw [rec_back kind l hl]
  have e : recB kind l ++ more = recH kind l ++ (chkB (recH kind l) :: more) := by simp [recB]
  rw [e]
  constructor
  · rw [List.getD_eq_getElem?_getD, List.getElem?_append_right (by rw [recH_len]; omega), recH_len, show 2 + (l.length + 1) - (l.length + 3) = 0 by omega]
    simp [chkB_nat]
  · rw [List.take_append_of_le_length (by rw [recH_len]; omega), List.take_of_length_le (by rw [recH_len]; omega)]
theorem rec_ok (kind : UInt8) (l : List UInt8) (hl : l.length ≤ 4000) (more : List UInt8) : getE (recB kind l ++ more) = 0 ∧ ((recB kind l ++ more).drop 3).take (mOf (recB kind l ++ more) - 1) = l := by
  have h1 := rec_back kind l hl more
  have h2 := rec_last kind l hl more
  have h3 := recB_len kind l
  constructor
  · unfold getE
    rw [h2.1, h2.2, h1]
    simp only [List.length_append, h3]
    rw [if_neg (by omega), if_neg (by omega), if_neg (by omega), if_neg (by omega), if_neg (by omega)]
  · rw [h1]
    show ((l ++ [chkB (recH kind l)]) ++ more).take (l.length + 1 - 1) = l
    rw [Nat.add_sub_cancel, List.append_assoc, List.take_append_of_le_length (Nat.le_refl _), List.take_length]
theorem rec_short (kind : UInt8) (l : List UInt8) (hl : l.length ≤ 4000) : getE (recH kind l) = 2 := by
  have e1 : (recH kind l).getD 1 0 = ((l.length + 1) % 256).toUInt8 := rfl
  have e2 : (recH kind l).getD 2 0 = ((l.length + 1) / 256).toUInt8 := rfl
  have hm : mOf (recH kind l) = l.length + 1 := by
    unfold mOf
    rw [e1, e2, Nat.toUInt8_eq, Nat.toUInt8_eq, UInt8.toNat_ofNat', UInt8.toNat_ofNat']
    omega
  unfold getE
  rw [hm, recH_len, if_neg (by omega), if_neg (by omega), if_neg (by omega), if_pos (by omega)]
theorem awake18_R (mk : Mk) (k lo : Nat) (hk : 40 ≤ k) (H : List Blk) (hlo : lo ≤ H.length) (R : List UInt8) (hR : R = recB 128 [1, 65]) (hlen : R.length = 6) (hE : getE R = 0) (hb : (R.drop 3).take (mOf R - 1) = [1, 65]) (h0 : R.getD 0 0 = 128) (hm : mOf R = 3) : Ends (FF mk k lo 9 [] H) fun r => r.1 = .bool true ∧ Grown H r.2 := by
  obtain ⟨k, rfl⟩ : ∃ m, k = m + 1 := ⟨k - 1, by omega⟩
  conv => enter [1]; whnf
  refine Ends.callE (put_F mk k _ 128 [1, 65] _ (by simp; omega) (by decide) _ (by simp; omega) (bs_top rfl rfl rfl)) (fun v H1 hv => ?_)
  obtain ⟨g1, b1⟩ := hv
  rw [← hR] at b1
  obtain ⟨p1, o1, pre1, post1, rfl, ho1, hp1⟩ := b1.ne (by intro z; rw [z] at hlen; cases hlen)
  rw [hlen]
  conv => enter [1]; whnf
  have hl1 : H.length + 1 ≤ H1.length := by have := g1.len; simpa using this
  have hg := get_sl mk k lo R p1 o1 pre1 post1 (by omega) (by omega) H1 (by omega) ho1 hp1
  rw [hlen] at hg
  refine Ends.callE hg (fun v H2 hv => ?_)
  obtain ⟨g2, kd, vb, n, hv, hz, _⟩ := hv
  obtain ⟨hkd, hn, b2⟩ := hz hE
  rw [hb] at b2
  have he : ((getE R : Nat) : Int) = 0 := by rw [hE]; rfl
  rw [h0] at hkd
  rw [hm] at hn
  have e1 : (((128 : UInt8).toNat : Nat) : Int) = 128 := by decide
  have e2 : ((3 + 3 : Nat) : Int) = 6 := by decide
  rw [e1] at hkd
  rw [e2] at hn
  generalize ((getE R : Nat) : Int) = e at *
  replace hv : v = .tup [.agg [.int .u8 kd, vb], .int .i64 n, .int .i64 e] := hv
  subst hv
  obtain ⟨p2, o2, pre2, post2, rfl, ho2, hp2⟩ := b2.ne (by simp)
  conv => enter [1]; whnf
  have hs : chkN [1, 2] = 253 := by decide
  have hc := recsum_G mk k lo [1, 2] H2.length 0 2 [] [] rfl (by simp; omega) (by simp) (H2 ++ [⟨[.int .u8 1, .int .u8 2], true⟩]) rfl (by simp [bV])
  rw [hs] at hc
  refine Ends.call hc ?_
  conv => enter [1]; whnf
  refine Ends.iteT (guardT (beq_iff_eq.2 he)) ?_
  conv => enter [1]; whnf
  refine Ends.iteT (guardT (beq_iff_eq.2 hn)) ?_
  conv => enter [1]; whnf
  refine Ends.iteT (guardT (beq_iff_eq.2 hkd)) ?_
  conv => enter [1]; whnf
  refine Ends.opt (get_at (Grown.at ⟨_, rfl⟩ hp2) _) ?_
  conv => enter [1]; whnf
  refine Ends.opt (bytes_sl (l := [1, 65]) rfl ho2) ?_
  conv => enter [1]; whnf
  refine Ends.some' ⟨rfl, ?_⟩
  exact (((Grown.one _ _).trans g1).trans g2).trans (Grown.one _ _)
theorem awake18_F (mk : Mk) (k lo : Nat) (hk : 40 ≤ k) (H : List Blk) (hlo : lo ≤ H.length) : Ends (FF mk k lo 9 [] H) fun r => r.1 = .bool true ∧ Grown H r.2 := by
  have hr := rec_ok 128 [1, 65] (by decide) []
  rw [List.append_nil] at hr
  have hm := rec_back 128 [1, 65] (by decide) []
  rw [List.append_nil] at hm
  exact awake18_R mk k lo hk H hlo _ rfl (by rw [recB_len]; rfl) hr.1 hr.2 rfl hm
end Go.Proofs.Ytaigfmejihimgaa.VM
