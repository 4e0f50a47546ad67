/- RecSums by the plain machine: the walk. -/
import Derived.Test.YtaigfmejihimgaaREh
namespace Go.Proofs.Ytaigfmejihimgaa.VM
open Go Go.RowKit
set_option linter.unusedVariables false
set_option linter.unusedSimpArgs false
set_option maxRecDepth 40000
set_option maxHeartbeats 3200000
theorem recSums_sl (mk : Mk) (K lo : Nat) (hK : K = 300) (kind : UInt8) (l : List UInt8) (n0 : Nat) (post : List Val) (x y : Int) (hll : l.length ≤ 100) (hlb : l.length ≤ n0)
    (hm1 : (if (100 : Int) < ((n0 : Nat) : Int) then (100 : Int) else ((n0 : Nat) : Int)) = ((l.length : Nat) : Int)) (H : List Blk) (hlo : lo ≤ H.length) (hH1 : 1 ≤ H.length) (hH : H[0]? = some ⟨[] ++ (bV l ++ post), true⟩) :
    Ends (FF mk (K + 1) lo 4 [.int .u8 kind.toNat, .sl (.hp 0) 0 n0 1, .agg [.int .i64 x, .int .i64 y]] H) (fun r => r.1 = .bool true) := by
  conv => enter [1]; whnf
  rw [hm1]
  refine Ends.iteT (decide_eq_true (by omega)) ?_
  have hl0 : (((l.length : Nat) : Int) - 0).toNat = l.length := by omega
  rw [hl0]
  conv => enter [1]; whnf
  refine Ends.opt (get_at hH _) ?_
  conv => enter [1]; whnf
  refine Ends.opt (bytes_sl (l := l) (pre := []) (post := post) rfl rfl) ?_
  conv => enter [1]; whnf
  have hrec := fun s (hs : s = sB l) => record_G mk K lo kind s l hs (by omega) (by omega) H
  have hrl : (recB kind l).length = l.length + 4 := recB_len kind l
  have hS0 := set_last kind l 0 rfl
  have hG0 := sum_got kind l (by omega) 0
  have hBad := @sum_bad kind l (by omega)
  have hset : ∀ (i : Nat) (x : UInt8), ((recB kind l).set i x).length = l.length + 4 := fun i x => by rw [List.length_set, hrl]
  generalize hRR : recB kind l = R at *
  refine Ends.call (hrec _ rfl) ?_
  conv => enter [1]; whnf
  rw [sB_size, hrl]
  refine Ends.force ?_
  conv => enter [1]; whnf
  refine Ends.opt (sc_sl (l := R) (pre := []) (post := []) hrl.symm rfl (Grown.at ⟨_, rfl⟩ (by simp [bytesV_sB])) _) ?_
  conv => enter [1]; whnf
  refine Ends.iteT (decide_eq_true (by rw [bV_len, hrl]; omega)) ?_
  conv => enter [1]; whnf
  refine Ends.iteT (bV_shared R) ?_
  conv => enter [1]; whnf
  refine Ends.iteT (may_hp (by simp; omega)) ?_
  conv => enter [1]; whnf
  refine Ends.iteT (decide_eq_true (by omega)) ?_
  conv => enter [1]; whnf
  refine Ends.opt (get_top _ _ _) ?_
  conv => enter [1]; whnf
  refine Ends.force ?_
  conv => enter [1]; whnf
  rw [Nat.zero_add]
  have fS : ((H ++ [(⟨bytesV (sB R), true⟩ : Blk)] ++ [(⟨[], true⟩ : Blk)]).set (H ++ [(⟨bytesV (sB R), true⟩ : Blk)]).length ⟨[], false⟩ ++ [(⟨dropN 0 [] ++ bV R, true⟩ : Blk)])[H.length]? = some ⟨[] ++ (bV R ++ []), true⟩ := by simp [bytesV_sB]
  have fN : ((H ++ [(⟨bytesV (sB R), true⟩ : Blk)] ++ [(⟨[], true⟩ : Blk)]).set (H ++ [(⟨bytesV (sB R), true⟩ : Blk)]).length ⟨[], false⟩ ++ [(⟨dropN 0 [] ++ bV R, true⟩ : Blk)])[(H ++ [(⟨bytesV (sB R), true⟩ : Blk)] ++ [(⟨[], true⟩ : Blk)]).length]? = some ⟨bV R, true⟩ := by simp [dropN]
  have fG : Grown H ((H ++ [(⟨bytesV (sB R), true⟩ : Blk)] ++ [(⟨[], true⟩ : Blk)]).set (H ++ [(⟨bytesV (sB R), true⟩ : Blk)]).length ⟨[], false⟩ ++ [(⟨dropN 0 [] ++ bV R, true⟩ : Blk)]) := (((Grown.one _ _).trans (Grown.one _ _)).set (by simp) _).trans (Grown.one _ _)
  have fq : (H ++ [(⟨bytesV (sB R), true⟩ : Blk)] ++ [(⟨[], true⟩ : Blk)]).length = H.length + 2 := by simp
  have fX : ((H ++ [(⟨bytesV (sB R), true⟩ : Blk)] ++ [(⟨[], true⟩ : Blk)]).set (H ++ [(⟨bytesV (sB R), true⟩ : Blk)]).length ⟨[], false⟩ ++ [(⟨dropN 0 [] ++ bV R, true⟩ : Blk)]).length = H.length + 3 := by simp
  generalize ((H ++ [(⟨bytesV (sB R), true⟩ : Blk)] ++ [(⟨[], true⟩ : Blk)]).set (H ++ [(⟨bytesV (sB R), true⟩ : Blk)]).length ⟨[], false⟩ ++ [(⟨dropN 0 [] ++ bV R, true⟩ : Blk)]) = X at *
  generalize (H ++ [(⟨bytesV (sB R), true⟩ : Blk)] ++ [(⟨[], true⟩ : Blk)]).length = q at *
  have hi3 : IntKind.i64.wrap (((l.length + 4 : Nat) : Int) - 1) = ((l.length + 3 : Nat) : Int) := by
    rw [w64s _ (by omega) (by omega)]; omega
  rw [hi3]
  refine Ends.iteT (decide_eq_true (by omega)) ?_
  conv => enter [1]; whnf
  refine Ends.iteT (may_hp (by omega)) ?_
  conv => enter [1]; whnf
  refine Ends.opt (get_at fN _) ?_
  conv => enter [1]; whnf
  have hp0 : ∀ off, off = l.length + 3 → putAt off [.int .u8 0] (bV R) = some (bV (R.set (l.length + 3) 0)) := fun off ho => put_b (by omega) 0 ho
  refine Ends.opt (hp0 _ (by omega)) ?_
  conv => enter [1]; whnf
  refine Ends.force ?_
  have fS2 : (X.set q ⟨bV (R.set (l.length + 3) 0), true⟩)[H.length]? = some ⟨[] ++ (bV R ++ []), true⟩ := by rw [List.getElem?_set_ne (by omega)]; exact fS
  have fN2 : (X.set q ⟨bV (R.set (l.length + 3) 0), true⟩)[q]? = some ⟨[] ++ (bV (R.set (l.length + 3) 0) ++ []), true⟩ := by rw [List.getElem?_set_self (by omega)]; simp
  have fG2 : Grown H (X.set q ⟨bV (R.set (l.length + 3) 0), true⟩) := fG.set (by omega) _
  have fX2 : (X.set q ⟨bV (R.set (l.length + 3) 0), true⟩).length = H.length + 3 := by rw [List.length_set, fX]
  generalize X.set q ⟨bV (R.set (l.length + 3) 0), true⟩ = X2 at *
  conv => enter [1]; whnf
  have hg := get_sl mk K lo (R.set (l.length + 3) 0) q 0 [] [] (by rw [hset]; omega) (by rw [hset]; omega) X2 (by omega) rfl fN2
  have hE0 : getE (R.set (l.length + 3) 0) = 0 := by rw [hS0, hG0.1, if_neg (by simp)]
  rw [hset] at hg
  refine Ends.callE hg (fun v X3 hv => ?_)
  obtain ⟨g3, kd, vb, n, hv, hz, _⟩ := hv
  obtain ⟨_, _, b2⟩ := hz hE0
  rw [hE0] at hv
  rw [hS0, hG0.2.2] at b2
  replace hv : v = .tup [.agg [.int .u8 kd, vb], .int .i64 n, .int .i64 0] := hv
  subst hv
  replace g3 : Grown X2 X3 := g3
  replace b2 : Bs X3 vb l := b2
  have L3 := g3.len
  obtain ⟨j, hj, j3, jn⟩ := wait_place x (l.length + 4) (by omega) (by omega)
  obtain ⟨wb, hwb, hw0⟩ := wait_byte y
  have hr0 : IntKind.i64.wrap (((l.length + 4 : Nat) : Int) - 3) ≠ 0 := by rw [w64s _ (by omega) (by omega)]; omega
  obtain ⟨z, hxz, hzx⟩ := xor_byte (R.getD j 0) wb hw0
  have hBad2 := @hBad j j3 (by omega) z hzx
  conv => enter [1]; whnf
  rcases b2 with ⟨rfl, hl0⟩ | ⟨p2, o2, pre2, post2, rfl, ho2, hp2⟩
  · conv => enter [1]; whnf
    refine Ends.iteT (decide_eq_true hr0) ?_
    conv => enter [1]; whnf
    rw [hj]
    refine Ends.opt (sc_sl (l := R) (pre := []) (post := []) hrl.symm rfl (Grown.at ⟨_, rfl⟩ (g3.at fS2)) _) ?_
    conv => enter [1]; whnf
    refine Ends.iteT (decide_eq_true (by rw [bV_len, hrl]; omega)) ?_
    conv => enter [1]; whnf
    refine Ends.iteT (bV_shared R) ?_
    conv => enter [1]; whnf
    refine Ends.iteT (may_hp (by omega)) ?_
    conv => enter [1]; whnf
    refine Ends.iteT (decide_eq_true (by omega)) ?_
    conv => enter [1]; whnf
    refine Ends.opt (get_top _ _ _) ?_
    conv => enter [1]; whnf
    refine Ends.force ?_
    have fY : ((X3 ++ [(⟨[], true⟩ : Blk)]).set X3.length ⟨[], false⟩ ++ [(⟨dropN 0 [] ++ bV R, true⟩ : Blk)])[(X3 ++ [(⟨[], true⟩ : Blk)]).length]? = some ⟨bV R, true⟩ := by simp [dropN]
    have fYG : Grown X3 ((X3 ++ [(⟨[], true⟩ : Blk)]).set X3.length ⟨[], false⟩ ++ [(⟨dropN 0 [] ++ bV R, true⟩ : Blk)]) := ((Grown.one _ _).set (Nat.le_refl _) _).trans (Grown.one _ _)
    have fq2 : (X3 ++ [(⟨[], true⟩ : Blk)]).length = X3.length + 1 := by simp
    have fYL : ((X3 ++ [(⟨[], true⟩ : Blk)]).set X3.length ⟨[], false⟩ ++ [(⟨dropN 0 [] ++ bV R, true⟩ : Blk)]).length = X3.length + 2 := by simp
    generalize ((X3 ++ [(⟨[], true⟩ : Blk)]).set X3.length ⟨[], false⟩ ++ [(⟨dropN 0 [] ++ bV R, true⟩ : Blk)]) = Y at *
    generalize (X3 ++ [(⟨[], true⟩ : Blk)]).length = q2 at *
    conv => enter [1]; whnf
    rw [hwb, Nat.zero_add]
    refine Ends.iteT (decide_eq_true (by omega)) ?_
    conv => enter [1]; whnf
    refine Ends.opt (get_at fY _) ?_
    conv => enter [1]; whnf
    refine Ends.opt (part_g j (by omega) (by omega)) ?_
    conv => enter [1]; whnf
    rw [hxz]
    refine Ends.iteT (decide_eq_true (by omega)) ?_
    conv => enter [1]; whnf
    refine Ends.iteT (may_hp (by omega)) ?_
    conv => enter [1]; whnf
    refine Ends.opt (get_at fY _) ?_
    conv => enter [1]; whnf
    refine Ends.opt (put_b (i := j) (by omega) z (by omega)) ?_
    conv => enter [1]; whnf
    refine Ends.force ?_
    have fY2 : (Y.set q2 ⟨bV (R.set j z), true⟩)[q2]? = some ⟨[] ++ (bV (R.set j z) ++ []), true⟩ := by rw [List.getElem?_set_self (by omega)]; simp
    have fYG2 : Grown X3 (Y.set q2 ⟨bV (R.set j z), true⟩) := fYG.set (by omega) _
    have fYL2 : (Y.set q2 ⟨bV (R.set j z), true⟩).length = X3.length + 2 := by rw [List.length_set, fYL]
    generalize Y.set q2 ⟨bV (R.set j z), true⟩ = Y2 at *
    conv => enter [1]; whnf
    have hg2 := get_sl mk K lo (R.set j z) q2 0 [] [] (by rw [hset]; omega) (by rw [hset]; omega) Y2 (by omega) rfl fY2
    have hlast : ∀ (Z : List Blk), Grown Y2 Z → Z[q2]? = some ⟨[] ++ (bV (R.set j z) ++ []), true⟩ := fun Z gz => gz.at fY2
    have hsl := hset j z
    rw [hset] at hg2
    generalize R.set j z = L1 at *
    refine Ends.callE hg2 (fun v Y3 hv => ?_)
    obtain ⟨g4, kd2, vb2, n2, hv, hz1, hz2⟩ := hv
    replace hv : v = .tup [.agg [.int .u8 kd2, vb2], .int .i64 n2, .int .i64 ((getE L1 : Nat) : Int)] := hv
    replace g4 : Grown Y2 Y3 := g4
    have L4 := g4.len
    by_cases cz : (L1.getD (l.length + 3) 0).toNat = 0
    · rw [if_pos cz] at hBad2
      obtain ⟨_, _, b3⟩ := hz1 hBad2
      rw [hBad2] at hv
      replace hv : v = .tup [.agg [.int .u8 kd2, vb2], .int .i64 n2, .int .i64 0] := hv
      subst hv
      replace b3 : Bs Y3 vb2 _ := b3
      generalize (L1.drop 3).take (mOf L1 - 1) = lz at *
      rcases b3 with ⟨rfl, hlz⟩ | ⟨p3, o3, pre3, post3, rfl, ho3, hp3⟩
      · conv => enter [1]; whnf
        conv => enter [1]; whnf
        rw [hi3]
        refine Ends.iteT (decide_eq_true (by omega)) ?_
        conv => enter [1]; whnf
        refine Ends.opt (get_at (hlast Y3 g4) _) ?_
        conv => enter [1]; whnf
        refine Ends.opt (part_d (pre := []) (post := []) (l.length + 3) (by omega) (by rw [List.length_nil]; omega)) ?_
        conv => enter [1]; whnf
        refine Ends.iteT (beq_iff_eq.2 (by omega)) ?_
        conv => enter [1]; whnf
        refine Ends.callE (awake18_F mk K lo (by omega) Y3 (by omega)) (fun v Y4 hv => ?_)
        obtain ⟨hv, g5⟩ := hv
        replace hv : v = .bool true := hv
        subst hv
        replace g5 : Grown Y3 Y4 := g5
        have G3 : Grown X3 Y4 := (fYG2.trans g4).trans g5
        have G0 : Grown H Y4 := (fG2.trans g3).trans G3
        conv => enter [1]; whnf
        refine Ends.opt (get_at (G0.at hH) _) ?_
        conv => enter [1]; whnf
        refine Ends.opt (bytes_sl (l := l) (pre := []) (post := post) rfl rfl) ?_
        conv => enter [1]; whnf
        refine Ends.iteT (guardT (eqStr_of (by rw [hl0]; rfl))) ?_
        conv => enter [1]; whnf
        refine Ends.some' ?_
        rfl
      · conv => enter [1]; whnf
        conv => enter [1]; whnf
        rw [hi3]
        refine Ends.iteT (decide_eq_true (by omega)) ?_
        conv => enter [1]; whnf
        refine Ends.opt (get_at (hlast Y3 g4) _) ?_
        conv => enter [1]; whnf
        refine Ends.opt (part_d (pre := []) (post := []) (l.length + 3) (by omega) (by rw [List.length_nil]; omega)) ?_
        conv => enter [1]; whnf
        refine Ends.iteT (beq_iff_eq.2 (by omega)) ?_
        conv => enter [1]; whnf
        refine Ends.callE (awake18_F mk K lo (by omega) Y3 (by omega)) (fun v Y4 hv => ?_)
        obtain ⟨hv, g5⟩ := hv
        replace hv : v = .bool true := hv
        subst hv
        replace g5 : Grown Y3 Y4 := g5
        have G3 : Grown X3 Y4 := (fYG2.trans g4).trans g5
        have G0 : Grown H Y4 := (fG2.trans g3).trans G3
        conv => enter [1]; whnf
        refine Ends.opt (get_at (G0.at hH) _) ?_
        conv => enter [1]; whnf
        refine Ends.opt (bytes_sl (l := l) (pre := []) (post := post) rfl rfl) ?_
        conv => enter [1]; whnf
        refine Ends.iteT (guardT (eqStr_of (by rw [hl0]; rfl))) ?_
        conv => enter [1]; whnf
        refine Ends.some' ?_
        rfl
    · rw [if_neg cz] at hBad2
      obtain ⟨rfl, rfl, rfl⟩ := hz2 (by rw [hBad2]; decide)
      rw [hBad2] at hv
      replace hv : v = .tup [.agg [.int .u8 0, .nils], .int .i64 0, .int .i64 4] := hv
      subst hv
      conv => enter [1]; whnf
      conv => enter [1]; whnf
      rw [hi3]
      refine Ends.iteT (decide_eq_true (by omega)) ?_
      conv => enter [1]; whnf
      refine Ends.opt (get_at (hlast Y3 g4) _) ?_
      conv => enter [1]; whnf
      refine Ends.opt (part_d (pre := []) (post := []) (l.length + 3) (by omega) (by rw [List.length_nil]; omega)) ?_
      conv => enter [1]; whnf
      refine Ends.iteF (beq_eq_false_iff_ne.2 (by omega)) ?_
      conv => enter [1]; whnf
      refine Ends.callE (awake18_F mk K lo (by omega) Y3 (by omega)) (fun v Y4 hv => ?_)
      obtain ⟨hv, g5⟩ := hv
      replace hv : v = .bool true := hv
      subst hv
      replace g5 : Grown Y3 Y4 := g5
      have G3 : Grown X3 Y4 := (fYG2.trans g4).trans g5
      have G0 : Grown H Y4 := (fG2.trans g3).trans G3
      conv => enter [1]; whnf
      refine Ends.opt (get_at (G0.at hH) _) ?_
      conv => enter [1]; whnf
      refine Ends.opt (bytes_sl (l := l) (pre := []) (post := post) rfl rfl) ?_
      conv => enter [1]; whnf
      refine Ends.iteT (guardT (eqStr_of (by rw [hl0]; rfl))) ?_
      conv => enter [1]; whnf
      refine Ends.some' ?_
      rfl
  · conv => enter [1]; whnf
    refine Ends.iteT (decide_eq_true hr0) ?_
    conv => enter [1]; whnf
    rw [hj]
    refine Ends.opt (sc_sl (l := R) (pre := []) (post := []) hrl.symm rfl (Grown.at ⟨_, rfl⟩ (g3.at fS2)) _) ?_
    conv => enter [1]; whnf
    refine Ends.iteT (decide_eq_true (by rw [bV_len, hrl]; omega)) ?_
    conv => enter [1]; whnf
    refine Ends.iteT (bV_shared R) ?_
    conv => enter [1]; whnf
    refine Ends.iteT (may_hp (by omega)) ?_
    conv => enter [1]; whnf
    refine Ends.iteT (decide_eq_true (by omega)) ?_
    conv => enter [1]; whnf
    refine Ends.opt (get_top _ _ _) ?_
    conv => enter [1]; whnf
    refine Ends.force ?_
    have fY : ((X3 ++ [(⟨[], true⟩ : Blk)]).set X3.length ⟨[], false⟩ ++ [(⟨dropN 0 [] ++ bV R, true⟩ : Blk)])[(X3 ++ [(⟨[], true⟩ : Blk)]).length]? = some ⟨bV R, true⟩ := by simp [dropN]
    have fYG : Grown X3 ((X3 ++ [(⟨[], true⟩ : Blk)]).set X3.length ⟨[], false⟩ ++ [(⟨dropN 0 [] ++ bV R, true⟩ : Blk)]) := ((Grown.one _ _).set (Nat.le_refl _) _).trans (Grown.one _ _)
    have fq2 : (X3 ++ [(⟨[], true⟩ : Blk)]).length = X3.length + 1 := by simp
    have fYL : ((X3 ++ [(⟨[], true⟩ : Blk)]).set X3.length ⟨[], false⟩ ++ [(⟨dropN 0 [] ++ bV R, true⟩ : Blk)]).length = X3.length + 2 := by simp
    generalize ((X3 ++ [(⟨[], true⟩ : Blk)]).set X3.length ⟨[], false⟩ ++ [(⟨dropN 0 [] ++ bV R, true⟩ : Blk)]) = Y at *
    generalize (X3 ++ [(⟨[], true⟩ : Blk)]).length = q2 at *
    conv => enter [1]; whnf
    rw [hwb, Nat.zero_add]
    refine Ends.iteT (decide_eq_true (by omega)) ?_
    conv => enter [1]; whnf
    refine Ends.opt (get_at fY _) ?_
    conv => enter [1]; whnf
    refine Ends.opt (part_g j (by omega) (by omega)) ?_
    conv => enter [1]; whnf
    rw [hxz]
    refine Ends.iteT (decide_eq_true (by omega)) ?_
    conv => enter [1]; whnf
    refine Ends.iteT (may_hp (by omega)) ?_
    conv => enter [1]; whnf
    refine Ends.opt (get_at fY _) ?_
    conv => enter [1]; whnf
    refine Ends.opt (put_b (i := j) (by omega) z (by omega)) ?_
    conv => enter [1]; whnf
    refine Ends.force ?_
    have fY2 : (Y.set q2 ⟨bV (R.set j z), true⟩)[q2]? = some ⟨[] ++ (bV (R.set j z) ++ []), true⟩ := by rw [List.getElem?_set_self (by omega)]; simp
    have fYG2 : Grown X3 (Y.set q2 ⟨bV (R.set j z), true⟩) := fYG.set (by omega) _
    have fYL2 : (Y.set q2 ⟨bV (R.set j z), true⟩).length = X3.length + 2 := by rw [List.length_set, fYL]
    generalize Y.set q2 ⟨bV (R.set j z), true⟩ = Y2 at *
    conv => enter [1]; whnf
    have hg2 := get_sl mk K lo (R.set j z) q2 0 [] [] (by rw [hset]; omega) (by rw [hset]; omega) Y2 (by omega) rfl fY2
    have hlast : ∀ (Z : List Blk), Grown Y2 Z → Z[q2]? = some ⟨[] ++ (bV (R.set j z) ++ []), true⟩ := fun Z gz => gz.at fY2
    have hsl := hset j z
    rw [hset] at hg2
    generalize R.set j z = L1 at *
    refine Ends.callE hg2 (fun v Y3 hv => ?_)
    obtain ⟨g4, kd2, vb2, n2, hv, hz1, hz2⟩ := hv
    replace hv : v = .tup [.agg [.int .u8 kd2, vb2], .int .i64 n2, .int .i64 ((getE L1 : Nat) : Int)] := hv
    replace g4 : Grown Y2 Y3 := g4
    have L4 := g4.len
    by_cases cz : (L1.getD (l.length + 3) 0).toNat = 0
    · rw [if_pos cz] at hBad2
      obtain ⟨_, _, b3⟩ := hz1 hBad2
      rw [hBad2] at hv
      replace hv : v = .tup [.agg [.int .u8 kd2, vb2], .int .i64 n2, .int .i64 0] := hv
      subst hv
      replace b3 : Bs Y3 vb2 _ := b3
      generalize (L1.drop 3).take (mOf L1 - 1) = lz at *
      rcases b3 with ⟨rfl, hlz⟩ | ⟨p3, o3, pre3, post3, rfl, ho3, hp3⟩
      · conv => enter [1]; whnf
        conv => enter [1]; whnf
        rw [hi3]
        refine Ends.iteT (decide_eq_true (by omega)) ?_
        conv => enter [1]; whnf
        refine Ends.opt (get_at (hlast Y3 g4) _) ?_
        conv => enter [1]; whnf
        refine Ends.opt (part_d (pre := []) (post := []) (l.length + 3) (by omega) (by rw [List.length_nil]; omega)) ?_
        conv => enter [1]; whnf
        refine Ends.iteT (beq_iff_eq.2 (by omega)) ?_
        conv => enter [1]; whnf
        refine Ends.callE (awake18_F mk K lo (by omega) Y3 (by omega)) (fun v Y4 hv => ?_)
        obtain ⟨hv, g5⟩ := hv
        replace hv : v = .bool true := hv
        subst hv
        replace g5 : Grown Y3 Y4 := g5
        have G3 : Grown X3 Y4 := (fYG2.trans g4).trans g5
        have G0 : Grown H Y4 := (fG2.trans g3).trans G3
        conv => enter [1]; whnf
        refine Ends.opt (get_at (G3.at hp2) _) ?_
        conv => enter [1]; whnf
        refine Ends.opt (bytes_sl (l := l) rfl ho2) ?_
        conv => enter [1]; whnf
        refine Ends.opt (get_at (G0.at hH) _) ?_
        conv => enter [1]; whnf
        refine Ends.opt (bytes_sl (l := l) (pre := []) (post := post) rfl rfl) ?_
        conv => enter [1]; whnf
        refine Ends.iteT (guardT (eqStr_of rfl)) ?_
        conv => enter [1]; whnf
        refine Ends.some' ?_
        rfl
      · conv => enter [1]; whnf
        conv => enter [1]; whnf
        rw [hi3]
        refine Ends.iteT (decide_eq_true (by omega)) ?_
        conv => enter [1]; whnf
        refine Ends.opt (get_at (hlast Y3 g4) _) ?_
        conv => enter [1]; whnf
        refine Ends.opt (part_d (pre := []) (post := []) (l.length + 3) (by omega) (by rw [List.length_nil]; omega)) ?_
        conv => enter [1]; whnf
        refine Ends.iteT (beq_iff_eq.2 (by omega)) ?_
        conv => enter [1]; whnf
        refine Ends.callE (awake18_F mk K lo (by omega) Y3 (by omega)) (fun v Y4 hv => ?_)
        obtain ⟨hv, g5⟩ := hv
        replace hv : v = .bool true := hv
        subst hv
        replace g5 : Grown Y3 Y4 := g5
        have G3 : Grown X3 Y4 := (fYG2.trans g4).trans g5
        have G0 : Grown H Y4 := (fG2.trans g3).trans G3
        conv => enter [1]; whnf
        refine Ends.opt (get_at (G3.at hp2) _) ?_
        conv => enter [1]; whnf
        refine Ends.opt (bytes_sl (l := l) rfl ho2) ?_
        conv => enter [1]; whnf
        refine Ends.opt (get_at (G0.at hH) _) ?_
        conv => enter [1]; whnf
        refine Ends.opt (bytes_sl (l := l) (pre := []) (post := post) rfl rfl) ?_
        conv => enter [1]; whnf
        refine Ends.iteT (guardT (eqStr_of rfl)) ?_
        conv => enter [1]; whnf
        refine Ends.some' ?_
        rfl
    · rw [if_neg cz] at hBad2
      obtain ⟨rfl, rfl, rfl⟩ := hz2 (by rw [hBad2]; decide)
      rw [hBad2] at hv
      replace hv : v = .tup [.agg [.int .u8 0, .nils], .int .i64 0, .int .i64 4] := hv
      subst hv
      conv => enter [1]; whnf
      conv => enter [1]; whnf
      rw [hi3]
      refine Ends.iteT (decide_eq_true (by omega)) ?_
      conv => enter [1]; whnf
      refine Ends.opt (get_at (hlast Y3 g4) _) ?_
      conv => enter [1]; whnf
      refine Ends.opt (part_d (pre := []) (post := []) (l.length + 3) (by omega) (by rw [List.length_nil]; omega)) ?_
      conv => enter [1]; whnf
      refine Ends.iteF (beq_eq_false_iff_ne.2 (by omega)) ?_
      conv => enter [1]; whnf
      refine Ends.callE (awake18_F mk K lo (by omega) Y3 (by omega)) (fun v Y4 hv => ?_)
      obtain ⟨hv, g5⟩ := hv
      replace hv : v = .bool true := hv
      subst hv
      replace g5 : Grown Y3 Y4 := g5
      have G3 : Grown X3 Y4 := (fYG2.trans g4).trans g5
      have G0 : Grown H Y4 := (fG2.trans g3).trans G3
      conv => enter [1]; whnf
      refine Ends.opt (get_at (G3.at hp2) _) ?_
      conv => enter [1]; whnf
      refine Ends.opt (bytes_sl (l := l) rfl ho2) ?_
      conv => enter [1]; whnf
      refine Ends.opt (get_at (G0.at hH) _) ?_
      conv => enter [1]; whnf
      refine Ends.opt (bytes_sl (l := l) (pre := []) (post := post) rfl rfl) ?_
      conv => enter [1]; whnf
      refine Ends.iteT (guardT (eqStr_of rfl)) ?_
      conv => enter [1]; whnf
      refine Ends.some' ?_
      rfl
theorem recSums_n (mk : Mk) (K lo : Nat) (hK : K = 300) (kind : UInt8) (l : List UInt8) (hl0 : l = []) (x y : Int) (hll : l.length ≤ 100) (H : List Blk) (hlo : lo ≤ H.length) :
    Ends (FF mk (K + 1) lo 4 [.int .u8 kind.toNat, .nils, .agg [.int .i64 x, .int .i64 y]] H) (fun r => r.1 = .bool true) := by
  conv => enter [1]; whnf
  have hrec := fun s (hs : s = sB l) => record_G mk K lo kind s l hs (by omega) (by omega) H
  have hrl : (recB kind l).length = l.length + 4 := recB_len kind l
  have hS0 := set_last kind l 0 rfl
  have hG0 := sum_got kind l (by omega) 0
  have hBad := @sum_bad kind l (by omega)
  have hset : ∀ (i : Nat) (x : UInt8), ((recB kind l).set i x).length = l.length + 4 := fun i x => by rw [List.length_set, hrl]
  generalize hRR : recB kind l = R at *
  refine Ends.call (hrec _ (by rw [hl0]; rfl)) ?_
  conv => enter [1]; whnf
  rw [sB_size, hrl]
  refine Ends.force ?_
  conv => enter [1]; whnf
  refine Ends.opt (sc_sl (l := R) (pre := []) (post := []) hrl.symm rfl (Grown.at ⟨_, rfl⟩ (by simp [bytesV_sB])) _) ?_
  conv => enter [1]; whnf
  refine Ends.iteT (decide_eq_true (by rw [bV_len, hrl]; omega)) ?_
  conv => enter [1]; whnf
  refine Ends.iteT (bV_shared R) ?_
  conv => enter [1]; whnf
  refine Ends.iteT (may_hp (by simp; omega)) ?_
  conv => enter [1]; whnf
  refine Ends.iteT (decide_eq_true (by omega)) ?_
  conv => enter [1]; whnf
  refine Ends.opt (get_top _ _ _) ?_
  conv => enter [1]; whnf
  refine Ends.force ?_
  conv => enter [1]; whnf
  rw [Nat.zero_add]
  have fS : ((H ++ [(⟨bytesV (sB R), true⟩ : Blk)] ++ [(⟨[], true⟩ : Blk)]).set (H ++ [(⟨bytesV (sB R), true⟩ : Blk)]).length ⟨[], false⟩ ++ [(⟨dropN 0 [] ++ bV R, true⟩ : Blk)])[H.length]? = some ⟨[] ++ (bV R ++ []), true⟩ := by simp [bytesV_sB]
  have fN : ((H ++ [(⟨bytesV (sB R), true⟩ : Blk)] ++ [(⟨[], true⟩ : Blk)]).set (H ++ [(⟨bytesV (sB R), true⟩ : Blk)]).length ⟨[], false⟩ ++ [(⟨dropN 0 [] ++ bV R, true⟩ : Blk)])[(H ++ [(⟨bytesV (sB R), true⟩ : Blk)] ++ [(⟨[], true⟩ : Blk)]).length]? = some ⟨bV R, true⟩ := by simp [dropN]
  have fG : Grown H ((H ++ [(⟨bytesV (sB R), true⟩ : Blk)] ++ [(⟨[], true⟩ : Blk)]).set (H ++ [(⟨bytesV (sB R), true⟩ : Blk)]).length ⟨[], false⟩ ++ [(⟨dropN 0 [] ++ bV R, true⟩ : Blk)]) := (((Grown.one _ _).trans (Grown.one _ _)).set (by simp) _).trans (Grown.one _ _)
  have fq : (H ++ [(⟨bytesV (sB R), true⟩ : Blk)] ++ [(⟨[], true⟩ : Blk)]).length = H.length + 2 := by simp
  have fX : ((H ++ [(⟨bytesV (sB R), true⟩ : Blk)] ++ [(⟨[], true⟩ : Blk)]).set (H ++ [(⟨bytesV (sB R), true⟩ : Blk)]).length ⟨[], false⟩ ++ [(⟨dropN 0 [] ++ bV R, true⟩ : Blk)]).length = H.length + 3 := by simp
  generalize ((H ++ [(⟨bytesV (sB R), true⟩ : Blk)] ++ [(⟨[], true⟩ : Blk)]).set (H ++ [(⟨bytesV (sB R), true⟩ : Blk)]).length ⟨[], false⟩ ++ [(⟨dropN 0 [] ++ bV R, true⟩ : Blk)]) = X at *
  generalize (H ++ [(⟨bytesV (sB R), true⟩ : Blk)] ++ [(⟨[], true⟩ : Blk)]).length = q at *
  have hi3 : IntKind.i64.wrap (((l.length + 4 : Nat) : Int) - 1) = ((l.length + 3 : Nat) : Int) := by
    rw [w64s _ (by omega) (by omega)]; omega
  rw [hi3]
  refine Ends.iteT (decide_eq_true (by omega)) ?_
  conv => enter [1]; whnf
  refine Ends.iteT (may_hp (by omega)) ?_
  conv => enter [1]; whnf
  refine Ends.opt (get_at fN _) ?_
  conv => enter [1]; whnf
  have hp0 : ∀ off, off = l.length + 3 → putAt off [.int .u8 0] (bV R) = some (bV (R.set (l.length + 3) 0)) := fun off ho => put_b (by omega) 0 ho
  refine Ends.opt (hp0 _ (by omega)) ?_
  conv => enter [1]; whnf
  refine Ends.force ?_
  have fS2 : (X.set q ⟨bV (R.set (l.length + 3) 0), true⟩)[H.length]? = some ⟨[] ++ (bV R ++ []), true⟩ := by rw [List.getElem?_set_ne (by omega)]; exact fS
  have fN2 : (X.set q ⟨bV (R.set (l.length + 3) 0), true⟩)[q]? = some ⟨[] ++ (bV (R.set (l.length + 3) 0) ++ []), true⟩ := by rw [List.getElem?_set_self (by omega)]; simp
  have fG2 : Grown H (X.set q ⟨bV (R.set (l.length + 3) 0), true⟩) := fG.set (by omega) _
  have fX2 : (X.set q ⟨bV (R.set (l.length + 3) 0), true⟩).length = H.length + 3 := by rw [List.length_set, fX]
  generalize X.set q ⟨bV (R.set (l.length + 3) 0), true⟩ = X2 at *
  conv => enter [1]; whnf
  have hg := get_sl mk K lo (R.set (l.length + 3) 0) q 0 [] [] (by rw [hset]; omega) (by rw [hset]; omega) X2 (by omega) rfl fN2
  have hE0 : getE (R.set (l.length + 3) 0) = 0 := by rw [hS0, hG0.1, if_neg (by simp)]
  rw [hset] at hg
  refine Ends.callE hg (fun v X3 hv => ?_)
  obtain ⟨g3, kd, vb, n, hv, hz, _⟩ := hv
  obtain ⟨_, _, b2⟩ := hz hE0
  rw [hE0] at hv
  rw [hS0, hG0.2.2] at b2
  replace hv : v = .tup [.agg [.int .u8 kd, vb], .int .i64 n, .int .i64 0] := hv
  subst hv
  replace g3 : Grown X2 X3 := g3
  replace b2 : Bs X3 vb l := b2
  have L3 := g3.len
  obtain ⟨j, hj, j3, jn⟩ := wait_place x (l.length + 4) (by omega) (by omega)
  obtain ⟨wb, hwb, hw0⟩ := wait_byte y
  have hr0 : IntKind.i64.wrap (((l.length + 4 : Nat) : Int) - 3) ≠ 0 := by rw [w64s _ (by omega) (by omega)]; omega
  obtain ⟨z, hxz, hzx⟩ := xor_byte (R.getD j 0) wb hw0
  have hBad2 := @hBad j j3 (by omega) z hzx
  conv => enter [1]; whnf
  rcases b2 with ⟨rfl, hl0⟩ | ⟨p2, o2, pre2, post2, rfl, ho2, hp2⟩
  · conv => enter [1]; whnf
    refine Ends.iteT (decide_eq_true hr0) ?_
    conv => enter [1]; whnf
    rw [hj]
    refine Ends.opt (sc_sl (l := R) (pre := []) (post := []) hrl.symm rfl (Grown.at ⟨_, rfl⟩ (g3.at fS2)) _) ?_
    conv => enter [1]; whnf
    refine Ends.iteT (decide_eq_true (by rw [bV_len, hrl]; omega)) ?_
    conv => enter [1]; whnf
    refine Ends.iteT (bV_shared R) ?_
    conv => enter [1]; whnf
    refine Ends.iteT (may_hp (by omega)) ?_
    conv => enter [1]; whnf
    refine Ends.iteT (decide_eq_true (by omega)) ?_
    conv => enter [1]; whnf
    refine Ends.opt (get_top _ _ _) ?_
    conv => enter [1]; whnf
    refine Ends.force ?_
    have fY : ((X3 ++ [(⟨[], true⟩ : Blk)]).set X3.length ⟨[], false⟩ ++ [(⟨dropN 0 [] ++ bV R, true⟩ : Blk)])[(X3 ++ [(⟨[], true⟩ : Blk)]).length]? = some ⟨bV R, true⟩ := by simp [dropN]
    have fYG : Grown X3 ((X3 ++ [(⟨[], true⟩ : Blk)]).set X3.length ⟨[], false⟩ ++ [(⟨dropN 0 [] ++ bV R, true⟩ : Blk)]) := ((Grown.one _ _).set (Nat.le_refl _) _).trans (Grown.one _ _)
    have fq2 : (X3 ++ [(⟨[], true⟩ : Blk)]).length = X3.length + 1 := by simp
    have fYL : ((X3 ++ [(⟨[], true⟩ : Blk)]).set X3.length ⟨[], false⟩ ++ [(⟨dropN 0 [] ++ bV R, true⟩ : Blk)]).length = X3.length + 2 := by simp
    generalize ((X3 ++ [(⟨[], true⟩ : Blk)]).set X3.length ⟨[], false⟩ ++ [(⟨dropN 0 [] ++ bV R, true⟩ : Blk)]) = Y at *
    generalize (X3 ++ [(⟨[], true⟩ : Blk)]).length = q2 at *
    conv => enter [1]; whnf
    rw [hwb, Nat.zero_add]
    refine Ends.iteT (decide_eq_true (by omega)) ?_
    conv => enter [1]; whnf
    refine Ends.opt (get_at fY _) ?_
    conv => enter [1]; whnf
    refine Ends.opt (part_g j (by omega) (by omega)) ?_
    conv => enter [1]; whnf
    rw [hxz]
    refine Ends.iteT (decide_eq_true (by omega)) ?_
    conv => enter [1]; whnf
    refine Ends.iteT (may_hp (by omega)) ?_
    conv => enter [1]; whnf
    refine Ends.opt (get_at fY _) ?_
    conv => enter [1]; whnf
    refine Ends.opt (put_b (i := j) (by omega) z (by omega)) ?_
    conv => enter [1]; whnf
    refine Ends.force ?_
    have fY2 : (Y.set q2 ⟨bV (R.set j z), true⟩)[q2]? = some ⟨[] ++ (bV (R.set j z) ++ []), true⟩ := by rw [List.getElem?_set_self (by omega)]; simp
    have fYG2 : Grown X3 (Y.set q2 ⟨bV (R.set j z), true⟩) := fYG.set (by omega) _
    have fYL2 : (Y.set q2 ⟨bV (R.set j z), true⟩).length = X3.length + 2 := by rw [List.length_set, fYL]
    generalize Y.set q2 ⟨bV (R.set j z), true⟩ = Y2 at *
    conv => enter [1]; whnf
    have hg2 := get_sl mk K lo (R.set j z) q2 0 [] [] (by rw [hset]; omega) (by rw [hset]; omega) Y2 (by omega) rfl fY2
    have hlast : ∀ (Z : List Blk), Grown Y2 Z → Z[q2]? = some ⟨[] ++ (bV (R.set j z) ++ []), true⟩ := fun Z gz => gz.at fY2
    have hsl := hset j z
    rw [hset] at hg2
    generalize R.set j z = L1 at *
    refine Ends.callE hg2 (fun v Y3 hv => ?_)
    obtain ⟨g4, kd2, vb2, n2, hv, hz1, hz2⟩ := hv
    replace hv : v = .tup [.agg [.int .u8 kd2, vb2], .int .i64 n2, .int .i64 ((getE L1 : Nat) : Int)] := hv
    replace g4 : Grown Y2 Y3 := g4
    have L4 := g4.len
    by_cases cz : (L1.getD (l.length + 3) 0).toNat = 0
    · rw [if_pos cz] at hBad2
      obtain ⟨_, _, b3⟩ := hz1 hBad2
      rw [hBad2] at hv
      replace hv : v = .tup [.agg [.int .u8 kd2, vb2], .int .i64 n2, .int .i64 0] := hv
      subst hv
      replace b3 : Bs Y3 vb2 _ := b3
      generalize (L1.drop 3).take (mOf L1 - 1) = lz at *
      rcases b3 with ⟨rfl, hlz⟩ | ⟨p3, o3, pre3, post3, rfl, ho3, hp3⟩
      · conv => enter [1]; whnf
        conv => enter [1]; whnf
        rw [hi3]
        refine Ends.iteT (decide_eq_true (by omega)) ?_
        conv => enter [1]; whnf
        refine Ends.opt (get_at (hlast Y3 g4) _) ?_
        conv => enter [1]; whnf
        refine Ends.opt (part_d (pre := []) (post := []) (l.length + 3) (by omega) (by rw [List.length_nil]; omega)) ?_
        conv => enter [1]; whnf
        refine Ends.iteT (beq_iff_eq.2 (by omega)) ?_
        conv => enter [1]; whnf
        refine Ends.callE (awake18_F mk K lo (by omega) Y3 (by omega)) (fun v Y4 hv => ?_)
        obtain ⟨hv, g5⟩ := hv
        replace hv : v = .bool true := hv
        subst hv
        replace g5 : Grown Y3 Y4 := g5
        have G3 : Grown X3 Y4 := (fYG2.trans g4).trans g5
        have G0 : Grown H Y4 := (fG2.trans g3).trans G3
        conv => enter [1]; whnf
        refine Ends.some' ?_
        rfl
      · conv => enter [1]; whnf
        conv => enter [1]; whnf
        rw [hi3]
        refine Ends.iteT (decide_eq_true (by omega)) ?_
        conv => enter [1]; whnf
        refine Ends.opt (get_at (hlast Y3 g4) _) ?_
        conv => enter [1]; whnf
        refine Ends.opt (part_d (pre := []) (post := []) (l.length + 3) (by omega) (by rw [List.length_nil]; omega)) ?_
        conv => enter [1]; whnf
        refine Ends.iteT (beq_iff_eq.2 (by omega)) ?_
        conv => enter [1]; whnf
        refine Ends.callE (awake18_F mk K lo (by omega) Y3 (by omega)) (fun v Y4 hv => ?_)
        obtain ⟨hv, g5⟩ := hv
        replace hv : v = .bool true := hv
        subst hv
        replace g5 : Grown Y3 Y4 := g5
        have G3 : Grown X3 Y4 := (fYG2.trans g4).trans g5
        have G0 : Grown H Y4 := (fG2.trans g3).trans G3
        conv => enter [1]; whnf
        refine Ends.some' ?_
        rfl
    · rw [if_neg cz] at hBad2
      obtain ⟨rfl, rfl, rfl⟩ := hz2 (by rw [hBad2]; decide)
      rw [hBad2] at hv
      replace hv : v = .tup [.agg [.int .u8 0, .nils], .int .i64 0, .int .i64 4] := hv
      subst hv
      conv => enter [1]; whnf
      conv => enter [1]; whnf
      rw [hi3]
      refine Ends.iteT (decide_eq_true (by omega)) ?_
      conv => enter [1]; whnf
      refine Ends.opt (get_at (hlast Y3 g4) _) ?_
      conv => enter [1]; whnf
      refine Ends.opt (part_d (pre := []) (post := []) (l.length + 3) (by omega) (by rw [List.length_nil]; omega)) ?_
      conv => enter [1]; whnf
      refine Ends.iteF (beq_eq_false_iff_ne.2 (by omega)) ?_
      conv => enter [1]; whnf
      refine Ends.callE (awake18_F mk K lo (by omega) Y3 (by omega)) (fun v Y4 hv => ?_)
      obtain ⟨hv, g5⟩ := hv
      replace hv : v = .bool true := hv
      subst hv
      replace g5 : Grown Y3 Y4 := g5
      have G3 : Grown X3 Y4 := (fYG2.trans g4).trans g5
      have G0 : Grown H Y4 := (fG2.trans g3).trans G3
      conv => enter [1]; whnf
      refine Ends.some' ?_
      rfl
  · conv => enter [1]; whnf
    refine Ends.iteT (decide_eq_true hr0) ?_
    conv => enter [1]; whnf
    rw [hj]
    refine Ends.opt (sc_sl (l := R) (pre := []) (post := []) hrl.symm rfl (Grown.at ⟨_, rfl⟩ (g3.at fS2)) _) ?_
    conv => enter [1]; whnf
    refine Ends.iteT (decide_eq_true (by rw [bV_len, hrl]; omega)) ?_
    conv => enter [1]; whnf
    refine Ends.iteT (bV_shared R) ?_
    conv => enter [1]; whnf
    refine Ends.iteT (may_hp (by omega)) ?_
    conv => enter [1]; whnf
    refine Ends.iteT (decide_eq_true (by omega)) ?_
    conv => enter [1]; whnf
    refine Ends.opt (get_top _ _ _) ?_
    conv => enter [1]; whnf
    refine Ends.force ?_
    have fY : ((X3 ++ [(⟨[], true⟩ : Blk)]).set X3.length ⟨[], false⟩ ++ [(⟨dropN 0 [] ++ bV R, true⟩ : Blk)])[(X3 ++ [(⟨[], true⟩ : Blk)]).length]? = some ⟨bV R, true⟩ := by simp [dropN]
    have fYG : Grown X3 ((X3 ++ [(⟨[], true⟩ : Blk)]).set X3.length ⟨[], false⟩ ++ [(⟨dropN 0 [] ++ bV R, true⟩ : Blk)]) := ((Grown.one _ _).set (Nat.le_refl _) _).trans (Grown.one _ _)
    have fq2 : (X3 ++ [(⟨[], true⟩ : Blk)]).length = X3.length + 1 := by simp
    have fYL : ((X3 ++ [(⟨[], true⟩ : Blk)]).set X3.length ⟨[], false⟩ ++ [(⟨dropN 0 [] ++ bV R, true⟩ : Blk)]).length = X3.length + 2 := by simp
    generalize ((X3 ++ [(⟨[], true⟩ : Blk)]).set X3.length ⟨[], false⟩ ++ [(⟨dropN 0 [] ++ bV R, true⟩ : Blk)]) = Y at *
    generalize (X3 ++ [(⟨[], true⟩ : Blk)]).length = q2 at *
    conv => enter [1]; whnf
    rw [hwb, Nat.zero_add]
    refine Ends.iteT (decide_eq_true (by omega)) ?_
    conv => enter [1]; whnf
    refine Ends.opt (get_at fY _) ?_
    conv => enter [1]; whnf
    refine Ends.opt (part_g j (by omega) (by omega)) ?_
    conv => enter [1]; whnf
    rw [hxz]
    refine Ends.iteT (decide_eq_true (by omega)) ?_
    conv => enter [1]; whnf
    refine Ends.iteT (may_hp (by omega)) ?_
    conv => enter [1]; whnf
    refine Ends.opt (get_at fY _) ?_
    conv => enter [1]; whnf
    refine Ends.opt (put_b (i := j) (by omega) z (by omega)) ?_
    conv => enter [1]; whnf
    refine Ends.force ?_
    have fY2 : (Y.set q2 ⟨bV (R.set j z), true⟩)[q2]? = some ⟨[] ++ (bV (R.set j z) ++ []), true⟩ := by rw [List.getElem?_set_self (by omega)]; simp
    have fYG2 : Grown X3 (Y.set q2 ⟨bV (R.set j z), true⟩) := fYG.set (by omega) _
    have fYL2 : (Y.set q2 ⟨bV (R.set j z), true⟩).length = X3.length + 2 := by rw [List.length_set, fYL]
    generalize Y.set q2 ⟨bV (R.set j z), true⟩ = Y2 at *
    conv => enter [1]; whnf
    have hg2 := get_sl mk K lo (R.set j z) q2 0 [] [] (by rw [hset]; omega) (by rw [hset]; omega) Y2 (by omega) rfl fY2
    have hlast : ∀ (Z : List Blk), Grown Y2 Z → Z[q2]? = some ⟨[] ++ (bV (R.set j z) ++ []), true⟩ := fun Z gz => gz.at fY2
    have hsl := hset j z
    rw [hset] at hg2
    generalize R.set j z = L1 at *
    refine Ends.callE hg2 (fun v Y3 hv => ?_)
    obtain ⟨g4, kd2, vb2, n2, hv, hz1, hz2⟩ := hv
    replace hv : v = .tup [.agg [.int .u8 kd2, vb2], .int .i64 n2, .int .i64 ((getE L1 : Nat) : Int)] := hv
    replace g4 : Grown Y2 Y3 := g4
    have L4 := g4.len
    by_cases cz : (L1.getD (l.length + 3) 0).toNat = 0
    · rw [if_pos cz] at hBad2
      obtain ⟨_, _, b3⟩ := hz1 hBad2
      rw [hBad2] at hv
      replace hv : v = .tup [.agg [.int .u8 kd2, vb2], .int .i64 n2, .int .i64 0] := hv
      subst hv
      replace b3 : Bs Y3 vb2 _ := b3
      generalize (L1.drop 3).take (mOf L1 - 1) = lz at *
      rcases b3 with ⟨rfl, hlz⟩ | ⟨p3, o3, pre3, post3, rfl, ho3, hp3⟩
      · conv => enter [1]; whnf
        conv => enter [1]; whnf
        rw [hi3]
        refine Ends.iteT (decide_eq_true (by omega)) ?_
        conv => enter [1]; whnf
        refine Ends.opt (get_at (hlast Y3 g4) _) ?_
        conv => enter [1]; whnf
        refine Ends.opt (part_d (pre := []) (post := []) (l.length + 3) (by omega) (by rw [List.length_nil]; omega)) ?_
        conv => enter [1]; whnf
        refine Ends.iteT (beq_iff_eq.2 (by omega)) ?_
        conv => enter [1]; whnf
        refine Ends.callE (awake18_F mk K lo (by omega) Y3 (by omega)) (fun v Y4 hv => ?_)
        obtain ⟨hv, g5⟩ := hv
        replace hv : v = .bool true := hv
        subst hv
        replace g5 : Grown Y3 Y4 := g5
        have G3 : Grown X3 Y4 := (fYG2.trans g4).trans g5
        have G0 : Grown H Y4 := (fG2.trans g3).trans G3
        conv => enter [1]; whnf
        refine Ends.opt (get_at (G3.at hp2) _) ?_
        conv => enter [1]; whnf
        refine Ends.opt (bytes_sl (l := l) rfl ho2) ?_
        conv => enter [1]; whnf
        refine Ends.iteT (guardT (eqStr_of (by rw [hl0]; rfl))) ?_
        conv => enter [1]; whnf
        refine Ends.some' ?_
        rfl
      · conv => enter [1]; whnf
        conv => enter [1]; whnf
        rw [hi3]
        refine Ends.iteT (decide_eq_true (by omega)) ?_
        conv => enter [1]; whnf
        refine Ends.opt (get_at (hlast Y3 g4) _) ?_
        conv => enter [1]; whnf
        refine Ends.opt (part_d (pre := []) (post := []) (l.length + 3) (by omega) (by rw [List.length_nil]; omega)) ?_
        conv => enter [1]; whnf
        refine Ends.iteT (beq_iff_eq.2 (by omega)) ?_
        conv => enter [1]; whnf
        refine Ends.callE (awake18_F mk K lo (by omega) Y3 (by omega)) (fun v Y4 hv => ?_)
        obtain ⟨hv, g5⟩ := hv
        replace hv : v = .bool true := hv
        subst hv
        replace g5 : Grown Y3 Y4 := g5
        have G3 : Grown X3 Y4 := (fYG2.trans g4).trans g5
        have G0 : Grown H Y4 := (fG2.trans g3).trans G3
        conv => enter [1]; whnf
        refine Ends.opt (get_at (G3.at hp2) _) ?_
        conv => enter [1]; whnf
        refine Ends.opt (bytes_sl (l := l) rfl ho2) ?_
        conv => enter [1]; whnf
        refine Ends.iteT (guardT (eqStr_of (by rw [hl0]; rfl))) ?_
        conv => enter [1]; whnf
        refine Ends.some' ?_
        rfl
    · rw [if_neg cz] at hBad2
      obtain ⟨rfl, rfl, rfl⟩ := hz2 (by rw [hBad2]; decide)
      rw [hBad2] at hv
      replace hv : v = .tup [.agg [.int .u8 0, .nils], .int .i64 0, .int .i64 4] := hv
      subst hv
      conv => enter [1]; whnf
      conv => enter [1]; whnf
      rw [hi3]
      refine Ends.iteT (decide_eq_true (by omega)) ?_
      conv => enter [1]; whnf
      refine Ends.opt (get_at (hlast Y3 g4) _) ?_
      conv => enter [1]; whnf
      refine Ends.opt (part_d (pre := []) (post := []) (l.length + 3) (by omega) (by rw [List.length_nil]; omega)) ?_
      conv => enter [1]; whnf
      refine Ends.iteF (beq_eq_false_iff_ne.2 (by omega)) ?_
      conv => enter [1]; whnf
      refine Ends.callE (awake18_F mk K lo (by omega) Y3 (by omega)) (fun v Y4 hv => ?_)
      obtain ⟨hv, g5⟩ := hv
      replace hv : v = .bool true := hv
      subst hv
      replace g5 : Grown Y3 Y4 := g5
      have G3 : Grown X3 Y4 := (fYG2.trans g4).trans g5
      have G0 : Grown H Y4 := (fG2.trans g3).trans G3
      conv => enter [1]; whnf
      refine Ends.opt (get_at (G3.at hp2) _) ?_
      conv => enter [1]; whnf
      refine Ends.opt (bytes_sl (l := l) rfl ho2) ?_
      conv => enter [1]; whnf
      refine Ends.iteT (guardT (eqStr_of (by rw [hl0]; rfl))) ?_
      conv => enter [1]; whnf
      refine Ends.some' ?_
      rfl
end Go.Proofs.Ytaigfmejihimgaa.VM
