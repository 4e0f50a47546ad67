/- MemBytes by the plain machine: the walk. -/
import Derived.Test.YtfflejhodmcoeaaMJ
namespace Go.Proofs.Ytfflejhodmcoeaa.VM
open Go Go.RowKit
set_option linter.unusedVariables false
set_option linter.unusedSimpArgs false
set_option maxRecDepth 40000
set_option maxHeartbeats 3200000
/-- So many bytes are asked for. -/
theorem asked (n : Int) : ∃ m : Nat, (if (100 : Int) < (if 0 > n then 0 else n) then (100 : Int) else (if 0 > n then 0 else n)) = ((m : Nat) : Int) ∧ m ≤ 100 := by
  refine ⟨(if (100 : Int) < (if 0 > n then 0 else n) then (100 : Int) else (if 0 > n then 0 else n)).toNat, ?_, ?_⟩ <;> (split <;> split <;> omega)
theorem ldF_at {a i : Nat} {l : List UInt8} (h : a + i < 1048576) : ldF (fun _ => 0) a l (min l.length (1048576 - a)) (a + i) = ((l.getD i 0).toNat : Int) := by
  unfold ldF
  by_cases c : i < l.length
  · rw [if_pos (by omega), show a + i - a = i by omega]
  · rw [if_neg (by omega)]
    rw [List.getD_eq_getElem?_getD, List.getElem?_eq_none (by omega)]
    rfl
theorem memBytes_sl (mk : Mk) (K lo : Nat) (hK : K = 200) {N : Nat} (hN : N = 1048576) (at0 n : Int) (h0 : 0 ≤ at0) (h0' : at0 < 4294967296) (l : List UInt8) (n0 : Nat) (post : List Val) (hll : l.length ≤ 50) (hlb : l.length ≤ n0)
    (hm1 : (if (50 : Int) < ((n0 : Nat) : Int) then (50 : Int) else ((n0 : Nat) : Int)) = ((l.length : Nat) : Int)) (H : List Blk) (hlo : lo ≤ H.length) (hH1 : 1 ≤ H.length) (hH : H[0]? = some ⟨[] ++ (bV l ++ post), true⟩) :
    Ends (FF mk (K + 1) lo 4 [.int .u32 at0, .sl (.hp 0) 0 n0 1, .int .i64 n] H) (fun r => r.1 = .bool true) := by
  conv => enter [1]; whnf
  rw [hm1]
  refine Ends.iteT (decide_eq_true (by omega)) ?_
  have hl0 : (((l.length : Nat) : Int) - 0).toNat = l.length := by omega
  rw [hl0]
  conv => enter [1]; whnf
  have hm : at0.tmod 1048576 = at0 % 1048576 := Int.tmod_eq_emod_of_nonneg h0
  obtain ⟨a, ha⟩ : ∃ a : Nat, (a : Int) = at0 % 1048576 := ⟨(at0 % 1048576).toNat, by omega⟩
  have han : a < 1048576 := by omega
  obtain ⟨m, hmn, hm100⟩ := asked n
  refine Ends.callE (mnew_E mk K lo (by omega) hN H) (fun v H1 hv => ?_)
  obtain ⟨hv, g1, l1, h1⟩ := hv
  replace hv : v = .ptr (.hp (H.length + 2)) 0 := hv
  subst hv
  replace g1 : Grown H H1 := g1
  replace l1 : H1.length = H.length + 3 := l1
  replace h1 : HasMem N H1 (H.length + 2) H.length (H.length + 1) (fun _ => 0) (fun _ => 0) := h1
  conv => enter [1]; whnf
  have hgl := mload_sl mk K lo h1 (by omega) (by omega) at0 h0 h0' l 0 0 [] post (by omega) (by omega) rfl (g1.at hH) (by omega) (by omega) a ha
  have h2 : ∃ G, HasMem N (putMem N H1 H.length (H.length + 1) (ldF (fun _ => 0) a l (min l.length (1048576 - a))) (ldG (fun _ => 0) a (min l.length (1048576 - a)))) (H.length + 2) H.length (H.length + 1) (ldF (fun _ => 0) a l (min l.length (1048576 - a))) G := ⟨_, h1.put _ _⟩
  have G2 : Grown H (putMem N H1 H.length (H.length + 1) (ldF (fun _ => 0) a l (min l.length (1048576 - a))) (ldG (fun _ => 0) a (min l.length (1048576 - a)))) := putMem_grown g1 (Nat.le_refl _) (by omega) _ _
  have hFa := fun i => @ldF_at a i l
  have L2 := putMem_len N H1 H.length (H.length + 1) (ldF (fun _ => 0) a l (min l.length (1048576 - a))) (ldG (fun _ => 0) a (min l.length (1048576 - a)))
  generalize putMem N H1 H.length (H.length + 1) (ldF (fun _ => 0) a l (min l.length (1048576 - a))) (ldG (fun _ => 0) a (min l.length (1048576 - a))) = H2 at *
  generalize ldF (fun _ => 0) a l (min l.length (1048576 - a)) = F at *
  refine Ends.call hgl ?_
  clear g1
  have g1 := G2
  obtain ⟨G, h2⟩ := h2
  conv => enter [1]; whnf
  rw [hmn]
  have e0 : IntKind.i64.wrap (at0.tmod 1048576) = (a : Int) := by rw [hm, ← ha, w64s _ (by omega) (by omega)]
  rw [e0]
  obtain ⟨c, hc⟩ : ∃ c, c = min m (1048576 - a) := ⟨_, rfl⟩
  have hc2 : (if IntKind.i64.wrap (1048576 - (a : Int)) < ((m : Nat) : Int) then IntKind.i64.wrap (1048576 - (a : Int)) else ((m : Nat) : Int)) = ((c : Nat) : Int) := by
    rw [w64s _ (by omega) (by omega)]; split <;> omega
  refine Ends.callE (mbytes_F mk K lo (by omega) h2 at0 ((m : Nat) : Int) h0 h0' (by omega) (by omega) a c ha (by omega)) (fun v H3 hv => ?_)
  rcases hv with ⟨hc0, hv⟩ | ⟨hc0, hv⟩
  · replace hv := Prod.mk.inj hv
    obtain ⟨hv1, hv2⟩ := hv
    subst hv1
    obtain rfl : H2 = H3 := hv2.symm
    have h3 := h2
    have G3 := g1
    conv => enter [1]; whnf
    rw [hc2]
    refine Ends.iteF (by rw [hc0]; rfl) ?_
    conv => enter [1]; whnf
    refine Ends.loop (fun m' T M => ∃ j : Nat, j ≤ c ∧ c - j < m' ∧ T = [.int .u32 at0, .undef, .undef, .undef, .undef, .undef, .undef, .sl (.hp 0) (0 + Int.toNat 0 * 1) l.length 1, .ptr (.hp (H.length + 2)) 0, .int .i64 (a : Int), .int .i64 ((m : Nat) : Int), .nils, .int .i64 j, .undef, .undef, .undef, .undef, .undef, .undef, .undef, .undef, .undef, .undef, .undef, .undef, .undef, .undef, .undef, .undef, .undef, .undef, .undef, .undef, .undef, .undef, .undef, .undef, .undef, .undef, .undef, .undef, .undef, .undef, .undef, .undef, .undef, .undef, .undef, .undef, .undef, .undef, .undef, .undef, .undef, .undef, .undef, .undef, .undef, .undef, .undef, .undef, .undef, .undef, .undef, .undef, .undef, .undef, .undef, .undef, .undef, .undef, .undef, .undef, .undef, .undef, .undef, .undef, .undef, .undef, .undef, .undef, .undef, .undef, .undef, .undef, .undef, .undef, .undef, .undef, .undef, .undef, .undef, .undef, .undef, .undef, .undef, .undef, .undef, .undef, .undef, .undef, .undef, .undef, .undef, .undef, .undef, .undef, .undef, .undef, .undef, .undef, .undef, .undef, .undef, .undef, .undef, .undef, .undef, .undef, .undef, .undef, .undef, .undef] ∧ M = ⟨[], H2⟩) (fun T M ⟨j, _, h, _⟩ => by omega) ?_ _ _ ⟨0, by omega, by omega, rfl, rfl⟩
    rintro m' T M L ⟨j, j1, j2, rfl, rfl⟩ hL
    conv => enter [1]; whnf
    refine Ends.call (mset_N mk _ _ (by omega) _ _ _) ?_
    conv => enter [1]; whnf
    refine Ends.call (mload_N mk K lo at0 h0 h0' l 0 _ [] post (by omega) (by omega) (by simp) (G3.at hH)) ?_
    conv => enter [1]; whnf
    refine Ends.call (msetw_N mk _ _ (by omega) _) ?_
    conv => enter [1]; whnf
    refine Ends.call (mword_N mk _ _ (by omega) _) ?_
    conv => enter [1]; whnf
    refine Ends.callE (awake02_F mk K lo (by omega) H2 (by have := G3.len; omega)) (fun v H4 hv => ?_)
    obtain ⟨hv, g4⟩ := hv
    replace hv : v = .bool true := hv
    subst hv
    conv => enter [1]; whnf
    refine Ends.call (mat_N mk _ _ (by omega) _ _) ?_
    conv => enter [1]; whnf
    refine Ends.call (mplain_N mk _ _ (by omega) _ _) ?_
    conv => enter [1]; whnf
    refine Ends.call (mbytes_N mk _ _ (by omega) _ _ _) ?_
    conv => enter [1]; whnf
    refine Ends.iteF (by with_reducible exact eqBadVal mk) ?_
    conv => enter [1]; whnf
    exact Ends.some' rfl
  · replace hv := Prod.mk.inj hv
    obtain ⟨hv1, hv2⟩ := hv
    subst hv1
    have h3 : HasMem N H3 (H.length + 2) H.length (H.length + 1) F G := by rw [hv2]; exact h2.grow ⟨_, rfl⟩
    have G3 : Grown H H3 := by rw [hv2]; exact g1.trans (Grown.one _ _)
    have hrow : H3[H2.length]? = some ⟨rowF F a c, true⟩ := by rw [hv2]; simp
    clear hv2
    conv => enter [1]; whnf
    rw [hc2]
    refine Ends.iteF (by simp) ?_
    conv => enter [1]; whnf
    refine Ends.loop (fun m' T M => ∃ j : Nat, j ≤ c ∧ c - j < m' ∧ T = [.int .u32 at0, .undef, .undef, .undef, .undef, .undef, .undef, .sl (.hp 0) (0 + Int.toNat 0 * 1) l.length 1, .ptr (.hp (H.length + 2)) 0, .int .i64 (a : Int), .int .i64 ((m : Nat) : Int), .sl (.hp H2.length) 0 c 1, .int .i64 j, .undef, .undef, .undef, .undef, .undef, .undef, .undef, .undef, .undef, .undef, .undef, .undef, .undef, .undef, .undef, .undef, .undef, .undef, .undef, .undef, .undef, .undef, .undef, .undef, .undef, .undef, .undef, .undef, .undef, .undef, .undef, .undef, .undef, .undef, .undef, .undef, .undef, .undef, .undef, .undef, .undef, .undef, .undef, .undef, .undef, .undef, .undef, .undef, .undef, .undef, .undef, .undef, .undef, .undef, .undef, .undef, .undef, .undef, .undef, .undef, .undef, .undef, .undef, .undef, .undef, .undef, .undef, .undef, .undef, .undef, .undef, .undef, .undef, .undef, .undef, .undef, .undef, .undef, .undef, .undef, .undef, .undef, .undef, .undef, .undef, .undef, .undef, .undef, .undef, .undef, .undef, .undef, .undef, .undef, .undef, .undef, .undef, .undef, .undef, .undef, .undef, .undef, .undef, .undef, .undef, .undef, .undef, .undef, .undef, .undef] ∧ M = ⟨[], H3⟩) (fun T M ⟨j, _, h, _⟩ => by omega) ?_ _ _ ⟨0, by omega, by omega, rfl, rfl⟩
    rintro m' T M L ⟨j, j1, j2, rfl, rfl⟩ hL
    conv => enter [1]; whnf
    refine Ends.ite (fun hcc => ?_) (fun hcc => ?_) <;> (conv => enter [1]; whnf)
    · have c1 : j < c := by have := of_decide_eq_true hcc; omega
      have hat : FF mk K lo 16 [.ptr (.hp (H.length + 2)) 0, .int .u32 (IntKind.u32.wrap (at0 + IntKind.u32.wrap (j : Int)))] H3 = some (.int .u8 ((l.getD j 0).toNat : Int), H3) := by
        have := mat_F mk K lo (by omega) h3 (IntKind.u32.wrap (at0 + IntKind.u32.wrap (j : Int))) (by rw [wu32]; omega)
        have e5 : (IntKind.u32.wrap (at0 + IntKind.u32.wrap (j : Int)) % 1048576).toNat = a + j := by
          rw [wu32 (j : Int), Int.emod_eq_of_lt (a := (j : Int)) (b := 4294967296) (by omega) (by omega), wu32]; omega
        rw [e5, hFa j (by omega)] at this
        exact this
      have hrw : F (a + j) = ((l.getD j 0).toNat : Int) := hFa j (by omega)
      by_cases cl : j < l.length
      · refine Ends.iteT (decide_eq_true (by omega)) ?_
        conv => enter [1]; whnf
        refine Ends.iteT (decide_eq_true (by omega)) ?_
        conv => enter [1]; whnf
        refine Ends.opt (get_at (G3.at hH) _) ?_
        conv => enter [1]; whnf
        refine Ends.opt (part_d (pre := []) (post := post) j (by omega) (by rw [List.length_nil]; omega)) ?_
        conv => enter [1]; whnf
        refine Ends.iteT (decide_eq_true (by omega)) ?_
        conv => enter [1]; whnf
        refine Ends.opt (get_at hrow _) ?_
        conv => enter [1]; whnf
        refine Ends.opt (rowF_part F a c j c1 (by omega)) ?_
        conv => enter [1]; whnf
        rw [hrw]
        have hne : ((((l.getD j 0).toNat : Nat) : Int) != ((l.getD j 0).toNat : Int)) = false := by simp
        rw [hne]
        conv => enter [1]; whnf
        refine Ends.call hat ?_
        conv => enter [1]; whnf
        rw [hne]
        conv => enter [1]; whnf
        refine hL _ ⟨j + 1, by omega, by omega, ?_, rfl⟩
        have e3 : IntKind.i64.wrap ((j : Int) + 1) = ((j + 1 : Nat) : Int) := by rw [w64]; omega
        rw [← e3]
        rfl
      · have hz : ((l.getD j 0).toNat : Int) = 0 := by rw [List.getD_eq_getElem?_getD, List.getElem?_eq_none (by omega)]; rfl
        refine Ends.iteF (decide_eq_false (by omega)) ?_
        conv => enter [1]; whnf
        refine Ends.iteT (decide_eq_true (by omega)) ?_
        conv => enter [1]; whnf
        refine Ends.opt (get_at hrow _) ?_
        conv => enter [1]; whnf
        refine Ends.opt (rowF_part F a c j c1 (by omega)) ?_
        conv => enter [1]; whnf
        rw [hrw]
        have hne : ((((l.getD j 0).toNat : Nat) : Int) != 0) = false := by rw [hz]; rfl
        rw [hne]
        conv => enter [1]; whnf
        refine Ends.call hat ?_
        conv => enter [1]; whnf
        rw [hne]
        conv => enter [1]; whnf
        refine hL _ ⟨j + 1, by omega, by omega, ?_, rfl⟩
        have e3 : IntKind.i64.wrap ((j : Int) + 1) = ((j + 1 : Nat) : Int) := by rw [w64]; omega
        rw [← e3]
        rfl
    · refine Ends.call (mset_N mk _ _ (by omega) _ _ _) ?_
      conv => enter [1]; whnf
      refine Ends.call (mload_N mk K lo at0 h0 h0' l 0 _ [] post (by omega) (by omega) (by simp) (G3.at hH)) ?_
      conv => enter [1]; whnf
      refine Ends.call (msetw_N mk _ _ (by omega) _) ?_
      conv => enter [1]; whnf
      refine Ends.call (mword_N mk _ _ (by omega) _) ?_
      conv => enter [1]; whnf
      refine Ends.callE (awake02_F mk K lo (by omega) H3 (by have := G3.len; omega)) (fun v H4 hv => ?_)
      obtain ⟨hv, g4⟩ := hv
      replace hv : v = .bool true := hv
      subst hv
      conv => enter [1]; whnf
      refine Ends.call (mat_N mk _ _ (by omega) _ _) ?_
      conv => enter [1]; whnf
      refine Ends.call (mplain_N mk _ _ (by omega) _ _) ?_
      conv => enter [1]; whnf
      refine Ends.call (mbytes_N mk _ _ (by omega) _ _ _) ?_
      conv => enter [1]; whnf
      refine Ends.iteF (by with_reducible exact eqBadVal mk) ?_
      conv => enter [1]; whnf
      exact Ends.some' rfl
theorem memBytes_n (mk : Mk) (K lo : Nat) (hK : K = 200) {N : Nat} (hN : N = 1048576) (at0 n : Int) (h0 : 0 ≤ at0) (h0' : at0 < 4294967296) (l : List UInt8) (hl0 : l = []) (H : List Blk) (hlo : lo ≤ H.length) :
    Ends (FF mk (K + 1) lo 4 [.int .u32 at0, .nils, .int .i64 n] H) (fun r => r.1 = .bool true) := by
  conv => enter [1]; whnf
  have hm : at0.tmod 1048576 = at0 % 1048576 := Int.tmod_eq_emod_of_nonneg h0
  obtain ⟨a, ha⟩ : ∃ a : Nat, (a : Int) = at0 % 1048576 := ⟨(at0 % 1048576).toNat, by omega⟩
  have han : a < 1048576 := by omega
  obtain ⟨m, hmn, hm100⟩ := asked n
  refine Ends.callE (mnew_E mk K lo (by omega) hN H) (fun v H1 hv => ?_)
  obtain ⟨hv, g1, l1, h1⟩ := hv
  replace hv : v = .ptr (.hp (H.length + 2)) 0 := hv
  subst hv
  replace g1 : Grown H H1 := g1
  replace l1 : H1.length = H.length + 3 := l1
  replace h1 : HasMem N H1 (H.length + 2) H.length (H.length + 1) (fun _ => 0) (fun _ => 0) := h1
  conv => enter [1]; whnf
  refine Ends.call (mload_nil mk K lo (by omega) H1 _ _) ?_
  obtain ⟨F, hF⟩ : ∃ F : Nat → Int, F = fun _ => 0 := ⟨_, rfl⟩
  obtain ⟨G, hG⟩ : ∃ G : Nat → Int, G = fun _ => 0 := ⟨_, rfl⟩
  rw [← hF] at h1
  have h2 : ∃ G, HasMem N H1 (H.length + 2) H.length (H.length + 1) F G := ⟨_, h1⟩
  have hFa : ∀ i, a + i < 1048576 → F (a + i) = ((l.getD i 0).toNat : Int) := fun i _ => by rw [hF, hl0]; rfl
  obtain ⟨H2, hH2⟩ : ∃ H2, H2 = H1 := ⟨_, rfl⟩
  rw [← hH2] at h2 g1 l1 ⊢
  obtain ⟨G, h2⟩ := h2
  conv => enter [1]; whnf
  rw [hmn]
  have e0 : IntKind.i64.wrap (at0.tmod 1048576) = (a : Int) := by rw [hm, ← ha, w64s _ (by omega) (by omega)]
  rw [e0]
  obtain ⟨c, hc⟩ : ∃ c, c = min m (1048576 - a) := ⟨_, rfl⟩
  have hc2 : (if IntKind.i64.wrap (1048576 - (a : Int)) < ((m : Nat) : Int) then IntKind.i64.wrap (1048576 - (a : Int)) else ((m : Nat) : Int)) = ((c : Nat) : Int) := by
    rw [w64s _ (by omega) (by omega)]; split <;> omega
  refine Ends.callE (mbytes_F mk K lo (by omega) h2 at0 ((m : Nat) : Int) h0 h0' (by omega) (by omega) a c ha (by omega)) (fun v H3 hv => ?_)
  rcases hv with ⟨hc0, hv⟩ | ⟨hc0, hv⟩
  · replace hv := Prod.mk.inj hv
    obtain ⟨hv1, hv2⟩ := hv
    subst hv1
    obtain rfl : H2 = H3 := hv2.symm
    have h3 := h2
    have G3 := g1
    conv => enter [1]; whnf
    rw [hc2]
    refine Ends.iteF (by rw [hc0]; rfl) ?_
    conv => enter [1]; whnf
    refine Ends.loop (fun m' T M => ∃ j : Nat, j ≤ c ∧ c - j < m' ∧ T = [.int .u32 at0, .undef, .undef, .undef, .undef, .undef, .undef, .nils, .ptr (.hp (H.length + 2)) 0, .int .i64 (a : Int), .int .i64 ((m : Nat) : Int), .nils, .int .i64 j, .undef, .undef, .undef, .undef, .undef, .undef, .undef, .undef, .undef, .undef, .undef, .undef, .undef, .undef, .undef, .undef, .undef, .undef, .undef, .undef, .undef, .undef, .undef, .undef, .undef, .undef, .undef, .undef, .undef, .undef, .undef, .undef, .undef, .undef, .undef, .undef, .undef, .undef, .undef, .undef, .undef, .undef, .undef, .undef, .undef, .undef, .undef, .undef, .undef, .undef, .undef, .undef, .undef, .undef, .undef, .undef, .undef, .undef, .undef, .undef, .undef, .undef, .undef, .undef, .undef, .undef, .undef, .undef, .undef, .undef, .undef, .undef, .undef, .undef, .undef, .undef, .undef, .undef, .undef, .undef, .undef, .undef, .undef, .undef, .undef, .undef, .undef, .undef, .undef, .undef, .undef, .undef, .undef, .undef, .undef, .undef, .undef, .undef, .undef, .undef, .undef, .undef, .undef, .undef, .undef, .undef, .undef, .undef, .undef, .undef] ∧ M = ⟨[], H2⟩) (fun T M ⟨j, _, h, _⟩ => by omega) ?_ _ _ ⟨0, by omega, by omega, rfl, rfl⟩
    rintro m' T M L ⟨j, j1, j2, rfl, rfl⟩ hL
    conv => enter [1]; whnf
    refine Ends.call (mset_N mk _ _ (by omega) _ _ _) ?_
    conv => enter [1]; whnf
    refine Ends.call (mload_nil mk K lo (by omega) _ _ _) ?_
    conv => enter [1]; whnf
    refine Ends.call (msetw_N mk _ _ (by omega) _) ?_
    conv => enter [1]; whnf
    refine Ends.call (mword_N mk _ _ (by omega) _) ?_
    conv => enter [1]; whnf
    refine Ends.callE (awake02_F mk K lo (by omega) H2 (by have := G3.len; omega)) (fun v H4 hv => ?_)
    obtain ⟨hv, g4⟩ := hv
    replace hv : v = .bool true := hv
    subst hv
    conv => enter [1]; whnf
    refine Ends.call (mat_N mk _ _ (by omega) _ _) ?_
    conv => enter [1]; whnf
    refine Ends.call (mplain_N mk _ _ (by omega) _ _) ?_
    conv => enter [1]; whnf
    refine Ends.call (mbytes_N mk _ _ (by omega) _ _ _) ?_
    conv => enter [1]; whnf
    refine Ends.iteF (by with_reducible exact eqBadVal mk) ?_
    conv => enter [1]; whnf
    exact Ends.some' rfl
  · replace hv := Prod.mk.inj hv
    obtain ⟨hv1, hv2⟩ := hv
    subst hv1
    have h3 : HasMem N H3 (H.length + 2) H.length (H.length + 1) F G := by rw [hv2]; exact h2.grow ⟨_, rfl⟩
    have G3 : Grown H H3 := by rw [hv2]; exact g1.trans (Grown.one _ _)
    have hrow : H3[H2.length]? = some ⟨rowF F a c, true⟩ := by rw [hv2]; simp
    clear hv2
    conv => enter [1]; whnf
    rw [hc2]
    refine Ends.iteF (by simp) ?_
    conv => enter [1]; whnf
    refine Ends.loop (fun m' T M => ∃ j : Nat, j ≤ c ∧ c - j < m' ∧ T = [.int .u32 at0, .undef, .undef, .undef, .undef, .undef, .undef, .nils, .ptr (.hp (H.length + 2)) 0, .int .i64 (a : Int), .int .i64 ((m : Nat) : Int), .sl (.hp H2.length) 0 c 1, .int .i64 j, .undef, .undef, .undef, .undef, .undef, .undef, .undef, .undef, .undef, .undef, .undef, .undef, .undef, .undef, .undef, .undef, .undef, .undef, .undef, .undef, .undef, .undef, .undef, .undef, .undef, .undef, .undef, .undef, .undef, .undef, .undef, .undef, .undef, .undef, .undef, .undef, .undef, .undef, .undef, .undef, .undef, .undef, .undef, .undef, .undef, .undef, .undef, .undef, .undef, .undef, .undef, .undef, .undef, .undef, .undef, .undef, .undef, .undef, .undef, .undef, .undef, .undef, .undef, .undef, .undef, .undef, .undef, .undef, .undef, .undef, .undef, .undef, .undef, .undef, .undef, .undef, .undef, .undef, .undef, .undef, .undef, .undef, .undef, .undef, .undef, .undef, .undef, .undef, .undef, .undef, .undef, .undef, .undef, .undef, .undef, .undef, .undef, .undef, .undef, .undef, .undef, .undef, .undef, .undef, .undef, .undef, .undef, .undef, .undef, .undef] ∧ M = ⟨[], H3⟩) (fun T M ⟨j, _, h, _⟩ => by omega) ?_ _ _ ⟨0, by omega, by omega, rfl, rfl⟩
    rintro m' T M L ⟨j, j1, j2, rfl, rfl⟩ hL
    conv => enter [1]; whnf
    refine Ends.ite (fun hcc => ?_) (fun hcc => ?_) <;> (conv => enter [1]; whnf)
    · have c1 : j < c := by have := of_decide_eq_true hcc; omega
      have hat : FF mk K lo 16 [.ptr (.hp (H.length + 2)) 0, .int .u32 (IntKind.u32.wrap (at0 + IntKind.u32.wrap (j : Int)))] H3 = some (.int .u8 ((l.getD j 0).toNat : Int), H3) := by
        have := mat_F mk K lo (by omega) h3 (IntKind.u32.wrap (at0 + IntKind.u32.wrap (j : Int))) (by rw [wu32]; omega)
        have e5 : (IntKind.u32.wrap (at0 + IntKind.u32.wrap (j : Int)) % 1048576).toNat = a + j := by
          rw [wu32 (j : Int), Int.emod_eq_of_lt (a := (j : Int)) (b := 4294967296) (by omega) (by omega), wu32]; omega
        rw [e5, hFa j (by omega)] at this
        exact this
      have hrw : F (a + j) = ((l.getD j 0).toNat : Int) := hFa j (by omega)
      have hz : ((l.getD j 0).toNat : Int) = 0 := by rw [hl0]; rfl
      refine Ends.iteT (decide_eq_true (by omega)) ?_
      conv => enter [1]; whnf
      refine Ends.opt (get_at hrow _) ?_
      conv => enter [1]; whnf
      refine Ends.opt (rowF_part F a c j c1 (by omega)) ?_
      conv => enter [1]; whnf
      rw [hrw]
      have hne : ((((l.getD j 0).toNat : Nat) : Int) != 0) = false := by rw [hz]; rfl
      rw [hne]
      conv => enter [1]; whnf
      refine Ends.call hat ?_
      conv => enter [1]; whnf
      rw [hne]
      conv => enter [1]; whnf
      refine hL _ ⟨j + 1, by omega, by omega, ?_, rfl⟩
      have e3 : IntKind.i64.wrap ((j : Int) + 1) = ((j + 1 : Nat) : Int) := by rw [w64]; omega
      rw [← e3]
      rfl
    · refine Ends.call (mset_N mk _ _ (by omega) _ _ _) ?_
      conv => enter [1]; whnf
      refine Ends.call (mload_nil mk K lo (by omega) _ _ _) ?_
      conv => enter [1]; whnf
      refine Ends.call (msetw_N mk _ _ (by omega) _) ?_
      conv => enter [1]; whnf
      refine Ends.call (mword_N mk _ _ (by omega) _) ?_
      conv => enter [1]; whnf
      refine Ends.callE (awake02_F mk K lo (by omega) H3 (by have := G3.len; omega)) (fun v H4 hv => ?_)
      obtain ⟨hv, g4⟩ := hv
      replace hv : v = .bool true := hv
      subst hv
      conv => enter [1]; whnf
      refine Ends.call (mat_N mk _ _ (by omega) _ _) ?_
      conv => enter [1]; whnf
      refine Ends.call (mplain_N mk _ _ (by omega) _ _) ?_
      conv => enter [1]; whnf
      refine Ends.call (mbytes_N mk _ _ (by omega) _ _ _) ?_
      conv => enter [1]; whnf
      refine Ends.iteF (by with_reducible exact eqBadVal mk) ?_
      conv => enter [1]; whnf
      exact Ends.some' rfl
end Go.Proofs.Ytfflejhodmcoeaa.VM
