/- Check sums and records' bytes by the plain machine. -/
import Derived.Test.YtaigfmejihimgaaREa
namespace Go.Proofs.Ytaigfmejihimgaa.VM
open Go Go.RowKit
set_option linter.unusedVariables false
set_option linter.unusedSimpArgs false
set_option maxRecDepth 40000
set_option maxHeartbeats 1600000
theorem w64s (x : Int) (h0 : 0 ≤ x) (h1 : x < 9223372036854775808) : IntKind.i64.wrap x = x := by rw [w64]; omega
theorem recsum_sl (mk : Mk) (k lo : Nat) (l : List UInt8) (b off : Nat) (pre post : List Val) (hk : l.length + 2 ≤ k) (hl : l.length ≤ 1000000) (H : List Blk) (ho : off = pre.length) (hg : H[b]? = some ⟨pre ++ (bV l ++ post), true⟩) :
    FF mk k lo 10 [.sl (.hp b) off l.length 1] H = some (.int .u8 (chkN l), H) := by
  obtain ⟨k, rfl⟩ : ∃ m, k = m + 1 := ⟨k - 1, by omega⟩
  refine eq_of_ends ?_
  conv => enter [1]; whnf
  refine Ends.loop (fun m T M => ∃ j : Nat, j ≤ l.length ∧ l.length - j < m ∧ T = [.undef, .undef, .undef, .int .u8 ((totB (l.take j) % 256 : Nat) : Int), .undef, .undef, .sl (.hp b) off l.length 1, .int .i64 l.length, .int .i64 j, .undef, .undef, .undef, .undef, .undef, .undef, .undef, .undef, .undef] ∧ M = ⟨[], H⟩) (fun T M ⟨j, _, h, _⟩ => by omega) ?_ _ _ ⟨0, by omega, by omega, by rw [List.take_zero]; rfl, rfl⟩
  rintro m T M L ⟨j, j1, j2, rfl, rfl⟩ hL
  conv => enter [1]; whnf
  refine Ends.ite (fun h => ?_) (fun h => ?_) <;> (conv => enter [1]; whnf)
  · have h1 : j < l.length := by have := of_decide_eq_true h; omega
    refine Ends.iteT (decide_eq_true (by omega)) ?_
    conv => enter [1]; whnf
    refine Ends.opt (get_at hg _) ?_
    conv => enter [1]; whnf
    refine Ends.opt (part_b j h1 (by omega)) ?_
    conv => enter [1]; whnf
    refine hL _ ⟨j + 1, by omega, by omega, ?_, rfl⟩
    have e1 : IntKind.u8.wrap (((totB (l.take j) % 256 : Nat) : Int) + (l[j].toNat : Int)) = ((totB (l.take (j + 1)) % 256 : Nat) : Int) := by
      rw [totB_take l h1, wu8]; omega
    have e2 : IntKind.i64.wrap ((j : Int) + 1) = ((j + 1 : Nat) : Int) := by rw [w64]; omega
    rw [← e1, ← e2]
    rfl
  · have h1 : j = l.length := by have := of_decide_eq_false h; omega
    subst h1
    refine Ends.some' ?_
    rw [List.take_length]
    have e : IntKind.u8.wrap (0 - ((totB l % 256 : Nat) : Int)) = (chkN l : Int) := by
      unfold chkN; rw [wu8]; omega
    rw [← e]
theorem recsum_F (mk : Mk) (k lo : Nat) (l : List UInt8) (v : Val) (hk : l.length + 2 ≤ k) (hl : l.length ≤ 1000000) (H : List Blk) (hv : Bs H v l) :
    FF mk k lo 10 [v] H = some (.int .u8 (chkN l), H) := by
  rcases hv with ⟨rfl, rfl⟩ | ⟨b, off, pre, post, rfl, h2, h3⟩
  · obtain ⟨k, rfl⟩ : ∃ m, k = m + 2 := ⟨k - 2, by simp at hk; omega⟩
    kernel_rfl
  · exact recsum_sl mk k lo l b off pre post hk hl H h2 h3
theorem refsum_F (mk : Mk) (k lo : Nat) (l : List UInt8) (hk : l.length + 2 ≤ k) (hl : l.length ≤ 1000000) (H : List Blk) :
    FF mk k lo 11 [.str (sB l)] H = some (.int .u8 (chkN l), H) := by
  obtain ⟨k, rfl⟩ : ∃ m, k = m + 1 := ⟨k - 1, by omega⟩
  have hz : (sB l).size = l.length := sB_size l
  have hd : (sB l).data.toList = l := rfl
  generalize sB l = s at *
  refine eq_of_ends ?_
  conv => enter [1]; whnf
  refine Ends.loop (fun m T M => ∃ j : Nat, j ≤ l.length ∧ l.length - j < m ∧ T = [.str s, .undef, .undef, .int .i64 (totB (l.take j) : Int), .int .i64 j, .undef, .undef, .undef, .undef, .undef, .undef, .undef, .undef, .undef, .undef, .undef, .undef, .undef, .undef, .undef, .undef, .undef] ∧ M = ⟨[], H⟩) (fun T M ⟨j, _, h, _⟩ => by omega) ?_ _ _ ⟨0, by omega, by omega, by rw [List.take_zero]; rfl, rfl⟩
  rintro m T M L ⟨j, j1, j2, rfl, rfl⟩ hL
  conv => enter [1]; whnf
  refine Ends.ite (fun h => ?_) (fun h => ?_) <;> (conv => enter [1]; whnf)
  · have h1 : j < l.length := by have := of_decide_eq_true h; omega
    refine Ends.iteT (decide_eq_true (by omega)) ?_
    conv => enter [1]; whnf
    refine hL _ ⟨j + 1, by omega, by omega, ?_, rfl⟩
    have e0 : (s.data.toList.getD (j : Int).toNat 0).toNat = l[j].toNat := by rw [hd]; simp [List.getD_eq_getElem?_getD, h1]
    have hb := totB_le (l.take j)
    have hb2 : (l.take j).length = j := by rw [List.length_take]; omega
    have hb3 := l[j].toNat_lt
    have e1 : IntKind.i64.wrap ((totB (l.take j) : Int) + IntKind.i64.wrap ((s.data.toList.getD (j : Int).toNat 0).toNat : Int)) = ((totB (l.take (j + 1)) : Nat) : Int) := by
      have e3 : IntKind.i64.wrap ((l[j].toNat : Nat) : Int) = ((l[j].toNat : Nat) : Int) := w64s _ (by omega) (by omega)
      rw [e0, e3, totB_take l h1, w64s _ (by omega) (by omega)]; omega
    have e2 : IntKind.i64.wrap ((j : Int) + 1) = ((j + 1 : Nat) : Int) := by rw [w64]; omega
    rw [← e1, ← e2]
    rfl
  · have h1 : j = l.length := by have := of_decide_eq_false h; omega
    subst h1
    have hb := totB_le l
    repeat' (first
      | refine Ends.some' ?_
      | (refine Ends.iteT (by first | (simp [*]; done) | (apply decide_eq_true; omega) | fail "open") ?_; conv => enter [1]; whnf))
    rw [List.take_length]
    have e : IntKind.u8.wrap ((IntKind.i64.wrap (256 - ((totB l : Int)).tmod 256)).tmod 256) = (chkN l : Int) := by
      have h1 : ((totB l : Int)).tmod 256 = (totB l : Int) % 256 := Int.tmod_eq_emod_of_nonneg (by omega)
      rw [h1, w64s _ (by omega) (by omega), Int.tmod_eq_emod_of_nonneg (by omega), wu8]; unfold chkN; omega
    rw [← e]
theorem refbytes2_F (mk : Mk) (k lo : Nat) (hk : 4 ≤ k) (n : Nat) (hn : n < 65536) (H : List Blk) :
    FF mk k lo 14 [.int .u64 n, .int .i64 2] H = some (.str (sB [(n % 256).toUInt8, (n / 256).toUInt8]), H) := by
  obtain ⟨k, rfl⟩ : ∃ m, k = m + 4 := ⟨k - 4, by omega⟩
  refine eq_of_ends ?_
  conv => enter [1]; whnf
  repeat' (first
    | refine Ends.some' ?_
    | (refine Ends.force ?_; conv => enter [1]; whnf)
    | (refine Ends.forceN ?_; conv => enter [1]; whnf)
    | (refine Ends.forceLs ?_; conv => enter [1]; whnf)
    | (refine Ends.iteT (by first | with_reducible assumption | (simp [*]; done) | (apply decide_eq_true; omega) | fail "open") ?_; conv => enter [1]; whnf)
    | (refine Ends.iteF (by first | with_reducible assumption | (simp [*]; done) | (apply decide_eq_false; omega) | fail "open") ?_; conv => enter [1]; whnf)
    | (refine Ends.ite (fun h => ?_) (fun h => ?_) <;> (conv => enter [1]; whnf)))
  have e1 : IntKind.u8.wrap ((n : Int).tmod 256) = ((n % 256 : Nat) : Int) := by
    rw [Int.tmod_eq_emod_of_nonneg (by omega), wu8]; omega
  have e2 : IntKind.u8.wrap ((IntKind.u64.wrap ((n : Int).tdiv 256)).tmod 256) = ((n / 256 : Nat) : Int) := by
    have h1 : (n : Int).tdiv 256 = ((n / 256 : Nat) : Int) := by rw [Int.tdiv_eq_ediv_of_nonneg (by omega)]; omega
    rw [h1, wu64, Int.emod_eq_of_lt (by omega) (by omega), Int.tmod_eq_emod_of_nonneg (by omega), wu8]; omega
  rw [e1, e2]
  show (Val.str ((sB [] ++ sB [UInt8.ofNat (n % 256)]) ++ sB [UInt8.ofNat (n / 256)]), H) = _
  rw [sB_append, sB_append]
  rfl
theorem refbytes2_G (mk : Mk) (k lo : Nat) (hk : 4 ≤ k) (z : Int) (n : Nat) (hn : n < 65536) (hz : z = n) (H : List Blk) :
    FF mk k lo 14 [.int .u64 z, .int .i64 2] H = some (.str (sB [(n % 256).toUInt8, (n / 256).toUInt8]), H) := by
  subst hz; exact refbytes2_F mk k lo hk n hn H
theorem refsum_G (mk : Mk) (k lo : Nat) (s : ByteArray) (l : List UInt8) (hs : s = sB l) (hk : l.length + 2 ≤ k) (hl : l.length ≤ 1000000) (H : List Blk) :
    FF mk k lo 11 [.str s] H = some (.int .u8 (chkN l), H) := by
  subst hs; exact refsum_F mk k lo l hk hl H
/-- A record's bytes. -/
def recH (kind : UInt8) (l : List UInt8) : List UInt8 := kind :: ((l.length + 1) % 256).toUInt8 :: ((l.length + 1) / 256).toUInt8 :: l
def recB (kind : UInt8) (l : List UInt8) : List UInt8 := recH kind l ++ [chkB (recH kind l)]
theorem recH_len (kind : UInt8) (l : List UInt8) : (recH kind l).length = l.length + 3 := by simp [recH]
theorem recB_len (kind : UInt8) (l : List UInt8) : (recB kind l).length = l.length + 4 := by simp [recB, recH_len]
theorem record_F (mk : Mk) (k lo : Nat) (kind : UInt8) (l : List UInt8) (hk : l.length + 8 ≤ k) (hl : l.length ≤ 5000) (H : List Blk) :
    FF mk k lo 6 [.int .u8 kind.toNat, .str (sB l)] H = some (.str (sB (recB kind l)), H) := by
  obtain ⟨k, rfl⟩ : ∃ m, k = m + 1 := ⟨k - 1, by omega⟩
  have hz : (sB l).size = l.length := sB_size l
  refine eq_of_ends ?_
  conv => enter [1]; whnf
  have hkk : (⟨((fun x => UInt8.ofNat ((kind.toNat : Nat) : Int).toNat :: x) []).toArray⟩ : ByteArray) = sB [kind] := by
    show sB [UInt8.ofNat kind.toNat] = _
    rw [UInt8.ofNat_toNat]
  have hz2 : IntKind.u64.wrap (IntKind.i64.wrap (((sB l).size : Int) + 1)) = ((l.length + 1 : Nat) : Int) := by
    rw [hz, w64s _ (by omega) (by omega), wu64, Int.emod_eq_of_lt (by omega) (by omega)]; omega
  refine Ends.call (refbytes2_G mk _ _ (by omega) _ (l.length + 1) (by omega) hz2 _) ?_
  conv => enter [1]; whnf
  refine Ends.iteT (decide_eq_true (by rw [hkk, sB_size, sB_append, sB_size]; simp; omega)) ?_
  conv => enter [1]; whnf
  have hs : (⟨((fun x => UInt8.ofNat ((kind.toNat : Nat) : Int).toNat :: x) []).toArray⟩ : ByteArray) ++ sB [((l.length + 1) % 256).toUInt8, ((l.length + 1) / 256).toUInt8] ++ sB l = sB (recH kind l) := by
    rw [hkk, sB_append, sB_append]; rfl
  refine Ends.call (refsum_G mk k _ _ (recH kind l) hs (by rw [recH_len]; omega) (by rw [recH_len]; omega) _) ?_
  conv => enter [1]; whnf
  refine Ends.iteT (decide_eq_true (by rw [hs, sB_size, recH_len]; show _ + 1 ≤ _; omega)) ?_
  conv => enter [1]; whnf
  refine Ends.some' ?_
  rw [hs]
  show (Val.str (sB (recH kind l) ++ sB [UInt8.ofNat (chkN (recH kind l))]), H) = _
  rw [sB_append]
  rfl
theorem record_G (mk : Mk) (k lo : Nat) (kind : UInt8) (s : ByteArray) (l : List UInt8) (hs : s = sB l) (hk : l.length + 8 ≤ k) (hl : l.length ≤ 5000) (H : List Blk) :
    FF mk k lo 6 [.int .u8 kind.toNat, .str s] H = some (.str (sB (recB kind l)), H) := by
  subst hs; exact record_F mk k lo kind l hk hl H
end Go.Proofs.Ytaigfmejihimgaa.VM
