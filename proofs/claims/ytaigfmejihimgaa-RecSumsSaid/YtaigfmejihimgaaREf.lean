/- RecPuts by the plain machine: the walk. -/
import Derived.Test.YtaigfmejihimgaaREe
namespace Go.Proofs.Ytaigfmejihimgaa.VM
open Go Go.RowKit
set_option linter.unusedVariables false
set_option linter.unusedSimpArgs false
set_option maxRecDepth 40000
set_option maxHeartbeats 3200000
theorem recPuts_sl (mk : Mk) (K lo : Nat) (hK : K = 500) (kind : UInt8) (l : List UInt8) (n0 : Nat) (post : List Val) (more : List UInt8) (hll : l.length ≤ 300) (hlb : l.length ≤ n0)
    (hm1 : (if (300 : Int) < ((n0 : Nat) : Int) then (300 : Int) else ((n0 : Nat) : Int)) = ((l.length : Nat) : Int)) (H : List Blk) (hlo : lo ≤ H.length) (hH1 : 1 ≤ H.length) (hH : H[0]? = some ⟨[] ++ (bV l ++ post), true⟩) :
    Ends (FF mk (K + 1) lo 3 [.int .u8 kind.toNat, .sl (.hp 0) 0 n0 1, .str (sB more)] H) (fun r => r.1 = .bool true) := by
  conv => enter [1]; whnf
  rw [hm1]
  refine Ends.iteT (decide_eq_true (by omega)) ?_
  have hl0 : (((l.length : Nat) : Int) - 0).toNat = l.length := by omega
  rw [hl0]
  conv => enter [1]; whnf
  refine Ends.opt (get_at hH _) ?_
  conv => enter [1]; whnf
  refine Ends.opt (bytes_sl (l := l) (pre := []) (post := post) rfl rfl) ?_
  conv => enter [1]; whnf
  refine Ends.call (record_F mk _ _ kind l (by omega) (by omega) _) ?_
  conv => enter [1]; whnf
  refine Ends.callE (put_sl mk K _ kind l 0 _ [] post (by omega) (by omega) H (by omega) rfl hH) (fun v H1 hv => ?_)
  obtain ⟨g1, b1⟩ := hv
  obtain ⟨p1, o1, pre1, post1, rfl, ho1, hp1⟩ := b1.ne (by simp [recB, recH])
  replace hp1 : H1[p1]? = _ := hp1
  replace g1 : Grown H H1 := g1
  have hrl : (recB kind l).length = l.length + 4 := recB_len kind l
  have hR := rec_ok kind l (by omega)
  have hRl := rec_back kind l (by omega)
  have hS := rec_short kind l (by omega)
  have hR3 : (recB kind l).take (l.length + 3) = recH kind l := by
    unfold recB
    rw [List.take_append_of_le_length (by rw [recH_len]; omega), List.take_of_length_le (by rw [recH_len]; omega)]
  have hR0 : ∀ m, ((recB kind l ++ m).getD 0 0) = kind := fun m => rfl
  generalize hRR : recB kind l = R at *
  conv => enter [1]; whnf
  obtain ⟨mm, hmm⟩ : ∃ mm, mm = more.take 9 := ⟨_, rfl⟩
  have hml : mm.length ≤ 9 := by rw [hmm, List.length_take]; omega
  have hm9 : (if (9 : Int) < (((sB more).size : Nat) : Int) then (9 : Int) else (((sB more).size : Nat) : Int)) = ((mm.length : Nat) : Int) := by rw [sB_size, hmm, List.length_take]; split <;> omega
  have hml2 : mm.length ≤ (sB more).size := by rw [sB_size, hmm, List.length_take]; omega
  have hx : (sB more).extract (0 : Int).toNat ((mm.length : Nat) : Int).toNat = sB mm := by
    rw [sB_extract, hmm]
    simp only [Int.toNat_natCast, List.length_take]
    show sB ((more.take (min 9 more.length)).drop 0) = _
    rw [List.drop_zero]
    by_cases h9 : 9 ≤ more.length
    · rw [Nat.min_eq_left h9]
    · rw [Nat.min_eq_right (by omega), List.take_length, List.take_of_length_le (by omega)]
  rw [hm9]
  refine Ends.iteT (decide_eq_true (by omega)) ?_
  conv => enter [1]; whnf
  rw [hx]
  refine Ends.iteT (decide_eq_true (by rw [sB_size, sB_size]; omega)) ?_
  conv => enter [1]; whnf
  rw [sB_append]
  refine Ends.force ?_
  conv => enter [1]; whnf
  have L1 := g1.len
  have hg := get_sl mk K lo (R ++ mm) H1.length 0 [] [] (by rw [List.length_append]; omega) (by rw [List.length_append]; omega) (H1 ++ [⟨bV (R ++ mm), true⟩]) (by rw [List.length_append]; omega) rfl (by simp)
  rw [← sB_size] at hg
  refine Ends.callE hg (fun v H2 hv => ?_)
  obtain ⟨g2, kd, vb, n, hv, hz, _⟩ := hv
  obtain ⟨hkd, hn, b2⟩ := hz (hR mm).1
  rw [(hR mm).2] at b2
  rw [(hR mm).1] at hv
  rw [hR0] at hkd
  rw [hRl] at hn
  replace hv : v = .tup [.agg [.int .u8 kd, vb], .int .i64 n, .int .i64 0] := hv
  subst hv
  replace g2 : Grown (H1 ++ [⟨bV (R ++ mm), true⟩]) H2 := g2
  replace b2 : Bs H2 vb l := b2
  have L2 := g2.len
  rw [List.length_append] at L2
  conv => enter [1]; whnf
  rcases b2 with ⟨rfl, hl0⟩ | ⟨p2, o2, pre2, post2, rfl, ho2, hp2⟩
  · conv => enter [1]; whnf
    have hs1 : IntKind.i64.wrap ((((sB R).size : Nat) : Int) - 1) = ((l.length + 3 : Nat) : Int) := by
      rw [sB_size, w64s _ (by omega) (by omega)]; omega
    rw [hs1]
    refine Ends.iteT (decide_eq_true (by rw [sB_size]; omega)) ?_
    have hx2 : (sB R).extract (0 : Int).toNat ((l.length + 3 : Nat) : Int).toNat = sB (recH kind l) := by
      rw [sB_extract, Int.toNat_natCast, hR3]; rfl
    rw [hx2]
    conv => enter [1]; whnf
    refine Ends.force ?_
    conv => enter [1]; whnf
    have hg2 := get_sl mk K lo (recH kind l) H2.length 0 [] [] (by rw [recH_len]; omega) (by rw [recH_len]; omega) (H2 ++ [⟨bV (recH kind l), true⟩]) (by rw [List.length_append]; omega) rfl (by simp)
    rw [← sB_size] at hg2
    refine Ends.callE hg2 (fun v H3 hv => ?_)
    obtain ⟨g3, kd3, vb3, n3, hv, _, hz⟩ := hv
    obtain ⟨rfl, rfl, rfl⟩ := hz (by rw [hS]; decide)
    rw [hS] at hv
    replace hv : v = .tup [.agg [.int .u8 0, .nils], .int .i64 0, .int .i64 2] := hv
    subst hv
    replace g3 : Grown (H2 ++ [⟨bV (recH kind l), true⟩]) H3 := g3
    conv => enter [1]; whnf
    refine Ends.callE (awake18_F mk K H3.length (by omega) H3 (Nat.le_refl _)) (fun v H4 hv => ?_)
    obtain ⟨hv, g4⟩ := hv
    replace hv : v = .bool true := hv
    subst hv
    replace g4 : Grown H3 H4 := g4
    have G24 : Grown H2 H4 := ((Grown.one _ _).trans g3).trans g4
    have G14 : Grown H1 H4 := ((Grown.one _ _).trans g2).trans G24
    have G04 : Grown H H4 := g1.trans G14
    have hL4 := G24.len
    conv => enter [1]; whnf
    refine Ends.opt (get_at (G14.at hp1) _) ?_
    conv => enter [1]; whnf
    refine Ends.opt (bytes_sl (l := R) rfl ho1) ?_
    conv => enter [1]; whnf
    refine Ends.iteT (guardT (eqStr_of rfl)) ?_
    conv => enter [1]; whnf
    refine Ends.iteT (guardT (beq_iff_eq.2 (by rw [hn, sB_size]; omega))) ?_
    conv => enter [1]; whnf
    refine Ends.iteT (guardT (beq_iff_eq.2 hkd)) ?_
    conv => enter [1]; whnf
    refine Ends.opt (get_at (G04.at hH) _) ?_
    conv => enter [1]; whnf
    refine Ends.opt (bytes_sl (l := l) (pre := []) (post := post) rfl rfl) ?_
    conv => enter [1]; whnf
    refine Ends.iteT (guardT (eqStr_of (by rw [hl0]; rfl))) ?_
    conv => enter [1]; whnf
    refine Ends.call (recsum_G mk K _ l 0 _ _ [] post rfl (by omega) (by omega) _ rfl (G04.at hH)) ?_
    conv => enter [1]; whnf
    refine Ends.opt (get_at (G04.at hH) _) ?_
    conv => enter [1]; whnf
    refine Ends.opt (bytes_sl (l := l) (pre := []) (post := post) rfl rfl) ?_
    conv => enter [1]; whnf
    refine Ends.call (refsum_G mk K _ _ l rfl (by omega) (by omega) _) ?_
    conv => enter [1]; whnf
    refine Ends.iteT ?_ ?_
    · have h0 : outOf H4.length H4.length (.hp 0) = true := by simp [outOf, Nat.blt_eq]; omega
      refine freeB_pairs [40, 39, 37, 28, 25, 19, 3, 0] [(37, 39), (25, 28)] rfl (by kernel_rfl) (by decide) ⟨?_, rfl, trivial⟩
      show (([Base.hp 0].all (outOf H4.length H4.length)) && true) = true
      simp [h0]
    conv => enter [1]; whnf
    refine Ends.some' ?_
    simp
  · conv => enter [1]; whnf
    have hs1 : IntKind.i64.wrap ((((sB R).size : Nat) : Int) - 1) = ((l.length + 3 : Nat) : Int) := by
      rw [sB_size, w64s _ (by omega) (by omega)]; omega
    rw [hs1]
    refine Ends.iteT (decide_eq_true (by rw [sB_size]; omega)) ?_
    have hx2 : (sB R).extract (0 : Int).toNat ((l.length + 3 : Nat) : Int).toNat = sB (recH kind l) := by
      rw [sB_extract, Int.toNat_natCast, hR3]; rfl
    rw [hx2]
    conv => enter [1]; whnf
    refine Ends.force ?_
    conv => enter [1]; whnf
    have hg2 := get_sl mk K lo (recH kind l) H2.length 0 [] [] (by rw [recH_len]; omega) (by rw [recH_len]; omega) (H2 ++ [⟨bV (recH kind l), true⟩]) (by rw [List.length_append]; omega) rfl (by simp)
    rw [← sB_size] at hg2
    refine Ends.callE hg2 (fun v H3 hv => ?_)
    obtain ⟨g3, kd3, vb3, n3, hv, _, hz⟩ := hv
    obtain ⟨rfl, rfl, rfl⟩ := hz (by rw [hS]; decide)
    rw [hS] at hv
    replace hv : v = .tup [.agg [.int .u8 0, .nils], .int .i64 0, .int .i64 2] := hv
    subst hv
    replace g3 : Grown (H2 ++ [⟨bV (recH kind l), true⟩]) H3 := g3
    conv => enter [1]; whnf
    refine Ends.callE (awake18_F mk K H3.length (by omega) H3 (Nat.le_refl _)) (fun v H4 hv => ?_)
    obtain ⟨hv, g4⟩ := hv
    replace hv : v = .bool true := hv
    subst hv
    replace g4 : Grown H3 H4 := g4
    have G24 : Grown H2 H4 := ((Grown.one _ _).trans g3).trans g4
    have G14 : Grown H1 H4 := ((Grown.one _ _).trans g2).trans G24
    have G04 : Grown H H4 := g1.trans G14
    have hL4 := G24.len
    conv => enter [1]; whnf
    refine Ends.opt (get_at (G14.at hp1) _) ?_
    conv => enter [1]; whnf
    refine Ends.opt (bytes_sl (l := R) rfl ho1) ?_
    conv => enter [1]; whnf
    refine Ends.iteT (guardT (eqStr_of rfl)) ?_
    conv => enter [1]; whnf
    refine Ends.iteT (guardT (beq_iff_eq.2 (by rw [hn, sB_size]; omega))) ?_
    conv => enter [1]; whnf
    refine Ends.iteT (guardT (beq_iff_eq.2 hkd)) ?_
    conv => enter [1]; whnf
    refine Ends.opt (get_at (G24.at hp2) _) ?_
    conv => enter [1]; whnf
    refine Ends.opt (bytes_sl (l := l) rfl ho2) ?_
    conv => enter [1]; whnf
    refine Ends.opt (get_at (G04.at hH) _) ?_
    conv => enter [1]; whnf
    refine Ends.opt (bytes_sl (l := l) (pre := []) (post := post) rfl rfl) ?_
    conv => enter [1]; whnf
    refine Ends.iteT (guardT (eqStr_of rfl)) ?_
    conv => enter [1]; whnf
    refine Ends.call (recsum_G mk K _ l 0 _ _ [] post rfl (by omega) (by omega) _ rfl (G04.at hH)) ?_
    conv => enter [1]; whnf
    refine Ends.opt (get_at (G04.at hH) _) ?_
    conv => enter [1]; whnf
    refine Ends.opt (bytes_sl (l := l) (pre := []) (post := post) rfl rfl) ?_
    conv => enter [1]; whnf
    refine Ends.call (refsum_G mk K _ _ l rfl (by omega) (by omega) _) ?_
    conv => enter [1]; whnf
    refine Ends.iteT ?_ ?_
    · have h0 : outOf H4.length H4.length (.hp 0) = true := by simp [outOf, Nat.blt_eq]; omega
      refine freeB_pairs [40, 39, 37, 28, 26, 25, 19, 3, 0] [(37, 39), (26, 28), (25, 28)] rfl (by kernel_rfl) (by decide) ⟨?_, rfl, rfl, trivial⟩
      show (([Base.hp 0].all (outOf H4.length H4.length)) && true) = true
      simp [h0]
    conv => enter [1]; whnf
    refine Ends.some' ?_
    simp
theorem recPuts_n (mk : Mk) (K lo : Nat) (hK : K = 500) (kind : UInt8) (l : List UInt8) (hl0 : l = []) (more : List UInt8) (hll : l.length ≤ 300) (H : List Blk) (hlo : lo ≤ H.length) :
    Ends (FF mk (K + 1) lo 3 [.int .u8 kind.toNat, .nils, .str (sB more)] H) (fun r => r.1 = .bool true) := by
  conv => enter [1]; whnf
  refine Ends.call (record_G mk K lo kind _ l (by rw [hl0]; rfl) (by omega) (by omega) _) ?_
  conv => enter [1]; whnf
  refine Ends.callE (put_F mk K _ kind l .nils (by omega) (by omega) H (by omega) (.inl ⟨rfl, hl0⟩)) (fun v H1 hv => ?_)
  obtain ⟨g1, b1⟩ := hv
  obtain ⟨p1, o1, pre1, post1, rfl, ho1, hp1⟩ := b1.ne (by simp [recB, recH])
  replace hp1 : H1[p1]? = _ := hp1
  replace g1 : Grown H H1 := g1
  have hrl : (recB kind l).length = l.length + 4 := recB_len kind l
  have hR := rec_ok kind l (by omega)
  have hRl := rec_back kind l (by omega)
  have hS := rec_short kind l (by omega)
  have hR3 : (recB kind l).take (l.length + 3) = recH kind l := by
    unfold recB
    rw [List.take_append_of_le_length (by rw [recH_len]; omega), List.take_of_length_le (by rw [recH_len]; omega)]
  have hR0 : ∀ m, ((recB kind l ++ m).getD 0 0) = kind := fun m => rfl
  generalize hRR : recB kind l = R at *
  conv => enter [1]; whnf
  obtain ⟨mm, hmm⟩ : ∃ mm, mm = more.take 9 := ⟨_, rfl⟩
  have hml : mm.length ≤ 9 := by rw [hmm, List.length_take]; omega
  have hm9 : (if (9 : Int) < (((sB more).size : Nat) : Int) then (9 : Int) else (((sB more).size : Nat) : Int)) = ((mm.length : Nat) : Int) := by rw [sB_size, hmm, List.length_take]; split <;> omega
  have hml2 : mm.length ≤ (sB more).size := by rw [sB_size, hmm, List.length_take]; omega
  have hx : (sB more).extract (0 : Int).toNat ((mm.length : Nat) : Int).toNat = sB mm := by
    rw [sB_extract, hmm]
    simp only [Int.toNat_natCast, List.length_take]
    show sB ((more.take (min 9 more.length)).drop 0) = _
    rw [List.drop_zero]
    by_cases h9 : 9 ≤ more.length
    · rw [Nat.min_eq_left h9]
    · rw [Nat.min_eq_right (by omega), List.take_length, List.take_of_length_le (by omega)]
  rw [hm9]
  refine Ends.iteT (decide_eq_true (by omega)) ?_
  conv => enter [1]; whnf
  rw [hx]
  refine Ends.iteT (decide_eq_true (by rw [sB_size, sB_size]; omega)) ?_
  conv => enter [1]; whnf
  rw [sB_append]
  refine Ends.force ?_
  conv => enter [1]; whnf
  have L1 := g1.len
  have hg := get_sl mk K lo (R ++ mm) H1.length 0 [] [] (by rw [List.length_append]; omega) (by rw [List.length_append]; omega) (H1 ++ [⟨bV (R ++ mm), true⟩]) (by rw [List.length_append]; omega) rfl (by simp)
  rw [← sB_size] at hg
  refine Ends.callE hg (fun v H2 hv => ?_)
  obtain ⟨g2, kd, vb, n, hv, hz, _⟩ := hv
  obtain ⟨hkd, hn, b2⟩ := hz (hR mm).1
  rw [(hR mm).2] at b2
  rw [(hR mm).1] at hv
  rw [hR0] at hkd
  rw [hRl] at hn
  replace hv : v = .tup [.agg [.int .u8 kd, vb], .int .i64 n, .int .i64 0] := hv
  subst hv
  replace g2 : Grown (H1 ++ [⟨bV (R ++ mm), true⟩]) H2 := g2
  replace b2 : Bs H2 vb l := b2
  have L2 := g2.len
  rw [List.length_append] at L2
  conv => enter [1]; whnf
  rcases b2 with ⟨rfl, hl0⟩ | ⟨p2, o2, pre2, post2, rfl, ho2, hp2⟩
  · conv => enter [1]; whnf
    have hs1 : IntKind.i64.wrap ((((sB R).size : Nat) : Int) - 1) = ((l.length + 3 : Nat) : Int) := by
      rw [sB_size, w64s _ (by omega) (by omega)]; omega
    rw [hs1]
    refine Ends.iteT (decide_eq_true (by rw [sB_size]; omega)) ?_
    have hx2 : (sB R).extract (0 : Int).toNat ((l.length + 3 : Nat) : Int).toNat = sB (recH kind l) := by
      rw [sB_extract, Int.toNat_natCast, hR3]; rfl
    rw [hx2]
    conv => enter [1]; whnf
    refine Ends.force ?_
    conv => enter [1]; whnf
    have hg2 := get_sl mk K lo (recH kind l) H2.length 0 [] [] (by rw [recH_len]; omega) (by rw [recH_len]; omega) (H2 ++ [⟨bV (recH kind l), true⟩]) (by rw [List.length_append]; omega) rfl (by simp)
    rw [← sB_size] at hg2
    refine Ends.callE hg2 (fun v H3 hv => ?_)
    obtain ⟨g3, kd3, vb3, n3, hv, _, hz⟩ := hv
    obtain ⟨rfl, rfl, rfl⟩ := hz (by rw [hS]; decide)
    rw [hS] at hv
    replace hv : v = .tup [.agg [.int .u8 0, .nils], .int .i64 0, .int .i64 2] := hv
    subst hv
    replace g3 : Grown (H2 ++ [⟨bV (recH kind l), true⟩]) H3 := g3
    conv => enter [1]; whnf
    refine Ends.callE (awake18_F mk K H3.length (by omega) H3 (Nat.le_refl _)) (fun v H4 hv => ?_)
    obtain ⟨hv, g4⟩ := hv
    replace hv : v = .bool true := hv
    subst hv
    replace g4 : Grown H3 H4 := g4
    have G24 : Grown H2 H4 := ((Grown.one _ _).trans g3).trans g4
    have G14 : Grown H1 H4 := ((Grown.one _ _).trans g2).trans G24
    have G04 : Grown H H4 := g1.trans G14
    have hL4 := G24.len
    conv => enter [1]; whnf
    refine Ends.opt (get_at (G14.at hp1) _) ?_
    conv => enter [1]; whnf
    refine Ends.opt (bytes_sl (l := R) rfl ho1) ?_
    conv => enter [1]; whnf
    refine Ends.iteT (guardT (eqStr_of rfl)) ?_
    conv => enter [1]; whnf
    refine Ends.iteT (guardT (beq_iff_eq.2 (by rw [hn, sB_size]; omega))) ?_
    conv => enter [1]; whnf
    refine Ends.iteT (guardT (beq_iff_eq.2 hkd)) ?_
    conv => enter [1]; whnf
    refine Ends.call (recsum_F mk K _ l .nils (by omega) (by omega) _ (.inl ⟨rfl, hl0⟩)) ?_
    conv => enter [1]; whnf
    refine Ends.call (refsum_G mk K _ _ l (by rw [hl0]; rfl) (by omega) (by omega) _) ?_
    conv => enter [1]; whnf
    refine Ends.some' ?_
    simp
  · conv => enter [1]; whnf
    have hs1 : IntKind.i64.wrap ((((sB R).size : Nat) : Int) - 1) = ((l.length + 3 : Nat) : Int) := by
      rw [sB_size, w64s _ (by omega) (by omega)]; omega
    rw [hs1]
    refine Ends.iteT (decide_eq_true (by rw [sB_size]; omega)) ?_
    have hx2 : (sB R).extract (0 : Int).toNat ((l.length + 3 : Nat) : Int).toNat = sB (recH kind l) := by
      rw [sB_extract, Int.toNat_natCast, hR3]; rfl
    rw [hx2]
    conv => enter [1]; whnf
    refine Ends.force ?_
    conv => enter [1]; whnf
    have hg2 := get_sl mk K lo (recH kind l) H2.length 0 [] [] (by rw [recH_len]; omega) (by rw [recH_len]; omega) (H2 ++ [⟨bV (recH kind l), true⟩]) (by rw [List.length_append]; omega) rfl (by simp)
    rw [← sB_size] at hg2
    refine Ends.callE hg2 (fun v H3 hv => ?_)
    obtain ⟨g3, kd3, vb3, n3, hv, _, hz⟩ := hv
    obtain ⟨rfl, rfl, rfl⟩ := hz (by rw [hS]; decide)
    rw [hS] at hv
    replace hv : v = .tup [.agg [.int .u8 0, .nils], .int .i64 0, .int .i64 2] := hv
    subst hv
    replace g3 : Grown (H2 ++ [⟨bV (recH kind l), true⟩]) H3 := g3
    conv => enter [1]; whnf
    refine Ends.callE (awake18_F mk K H3.length (by omega) H3 (Nat.le_refl _)) (fun v H4 hv => ?_)
    obtain ⟨hv, g4⟩ := hv
    replace hv : v = .bool true := hv
    subst hv
    replace g4 : Grown H3 H4 := g4
    have G24 : Grown H2 H4 := ((Grown.one _ _).trans g3).trans g4
    have G14 : Grown H1 H4 := ((Grown.one _ _).trans g2).trans G24
    have G04 : Grown H H4 := g1.trans G14
    have hL4 := G24.len
    conv => enter [1]; whnf
    refine Ends.opt (get_at (G14.at hp1) _) ?_
    conv => enter [1]; whnf
    refine Ends.opt (bytes_sl (l := R) rfl ho1) ?_
    conv => enter [1]; whnf
    refine Ends.iteT (guardT (eqStr_of rfl)) ?_
    conv => enter [1]; whnf
    refine Ends.iteT (guardT (beq_iff_eq.2 (by rw [hn, sB_size]; omega))) ?_
    conv => enter [1]; whnf
    refine Ends.iteT (guardT (beq_iff_eq.2 hkd)) ?_
    conv => enter [1]; whnf
    refine Ends.opt (get_at (G24.at hp2) _) ?_
    conv => enter [1]; whnf
    refine Ends.opt (bytes_sl (l := l) rfl ho2) ?_
    conv => enter [1]; whnf
    refine Ends.iteT (guardT (eqStr_of (by rw [hl0]; rfl))) ?_
    conv => enter [1]; whnf
    refine Ends.call (recsum_F mk K _ l .nils (by omega) (by omega) _ (.inl ⟨rfl, hl0⟩)) ?_
    conv => enter [1]; whnf
    refine Ends.call (refsum_G mk K _ _ l (by rw [hl0]; rfl) (by omega) (by omega) _) ?_
    conv => enter [1]; whnf
    refine Ends.some' ?_
    simp
end Go.Proofs.Ytaigfmejihimgaa.VM
