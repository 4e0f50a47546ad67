/- AssumePicks by the plain machine. -/
import Derived.Test.YtbkniomfegbdaaaASd
namespace Go.Proofs.Ytbkniomfegbdaaa.VM
open Go Go.RowKit
set_option linter.unusedVariables false
set_option linter.unusedSimpArgs false
set_option maxRecDepth 40000
set_option maxHeartbeats 3200000
/-- Groups that came in: at most three of them are looked at. -/
structure InG (H : List Blk) (n : Nat) (ivs : List Val) (Y : List (List Int)) : Prop where
  h0 : H[0]? = some ⟨ivs, true⟩
  len : Y.length = ivs.length
  m : ivs.length = min n 3
  row : ∀ i (h : i < Y.length), (ivs[i]? = some .nils ∧ Y[i] = []) ∨ ∃ q, ivs[i]? = some (.sl (.hp q) 0 Y[i].length 1) ∧ H[q]? = some ⟨iV Y[i], true⟩
/-- Groups that are made. -/
structure BG (H : List Blk) (b : Nat) (G : List (List Int)) : Prop where
  get : ∃ ivs, H[b]? = some ⟨ivs, true⟩ ∧ ivs.length = G.length ∧ ∀ i (h : i < G.length), ∃ q, q ≠ b ∧ ivs[i]? = some (.sl (.hp q) 0 G[i].length 1) ∧ H[q]? = some ⟨iV G[i], true⟩
theorem BG.has {H : List Blk} {b : Nat} {G : List (List Int)} (h : BG H b G) : HasG H b G := by
  obtain ⟨ivs, h1, h2, h3⟩ := h.get
  exact ⟨ivs, h1, h2, fun i hi => by obtain ⟨q, _, h4, h5⟩ := h3 i hi; exact ⟨q, h4, h5⟩⟩
theorem BG.push {H2 H3 : List Blk} {b : Nat} {G : List (List Int)} (h : BG H2 b G) (g : Grown H2 H3) {q2 : Nat} (hq : H2.length ≤ q2) {y : List Int} (hr : H3[q2]? = some ⟨iV y, true⟩) {ivb : List Val} (hb : H2[b]? = some ⟨ivb, true⟩) :
    BG (H3.set b ⟨[], false⟩ ++ [⟨dropN 0 ivb ++ [.sl (.hp q2) 0 y.length 1], true⟩]) H3.length (G ++ [y]) := by
  obtain ⟨ivs, h1, h2, h3⟩ := h.get
  rw [hb] at h1
  cases h1
  have hbl := at_lt hb
  have hgl := g.len
  have hql := at_lt hr
  refine ⟨_, snoc_top (by rw [List.length_set]), by rw [drop0, List.length_append, List.length_append, h2]; rfl, fun i hi => ?_⟩
  rw [drop0]
  by_cases c : i < G.length
  · obtain ⟨q, q1, q2', q3⟩ := h3 i c
    have := at_lt q3
    refine ⟨q, by omega, by rw [List.getElem?_append_left (by omega), q2']; simp [c], ?_⟩
    rw [List.getElem?_append_left (by rw [List.length_set]; omega), List.getElem?_set_ne (Ne.symm q1), g.at q3]
    simp [c]
  · have hi2 : i = G.length := by rw [List.length_append, List.length_cons, List.length_nil] at hi; omega
    subst hi2
    have hy : (G ++ [y])[G.length] = y := by simp
    rw [hy]
    refine ⟨q2, by omega, by rw [List.getElem?_append_right (by omega), show G.length - ivb.length = 0 by omega]; rfl, ?_⟩
    rw [List.getElem?_append_left (by rw [List.length_set]; omega), List.getElem?_set_ne (by omega), hr]
def cut3 (y : List Int) : List Int := (y.take 3).map (· % 4)
theorem loc3_get {a b c x y z cs : List Val} {loc : List (List Val)} {H : List Blk} : Mem.get ⟨a :: b :: c :: loc.append [cs], H⟩ (.lo (x :: y :: z :: loc).length) = some cs := by
  show (a :: b :: c :: (loc ++ [cs]))[(x :: y :: z :: loc).length]? = some cs
  simp
theorem loc3_get' {a b c x y z cs : List Val} {loc : List (List Val)} {H : List Blk} : Mem.get ⟨a :: b :: c :: (loc ++ [cs]), H⟩ (.lo (x :: y :: z :: loc).length) = some cs := loc3_get
theorem loc3_set {a b c x y z cs ds : List Val} {loc : List (List Val)} : (a :: b :: c :: loc.append [cs]).set (x :: y :: z :: loc).length ds = a :: b :: c :: (loc ++ [ds]) := by
  show (a :: b :: c :: (loc ++ [cs])).set _ ds = _
  simp
theorem partInt' {cs : List Val} {j off : Nat} {v : Val} (h : getAt j cs = some v) (ho : off = j) : partV Try.prog 3 cs off = some v := partInt (ho ▸ h)
def pkO : List Nat := [3, 2, 0, 1]
theorem pkO_lt (r : Nat) : pkO.getD r 0 < 4 := by
  match r with
  | 0 | 1 | 2 | 3 => decide
  | n + 4 => exact (by decide : (0 : Nat) < 4)
def pkS (a : Nat → Int × Int) (u : Nat) (f w : Int) (G : List (List Int)) : Nat → Nat × Bool
  | 0 => (u, false)
  | r + 1 => if (pkS a u f w G r).2 = true then pkS a u f w G r else if hasB a (pkO.getD r 0) f w G = true then (pkO.getD r 0, true) else pkS a u f w G r
theorem pkS_lt {a : Nat → Int × Int} {u : Nat} {f w : Int} {G : List (List Int)} (hu : u < 4) : ∀ r, (pkS a u f w G r).1 < 4
  | 0 => hu
  | r + 1 => by
    unfold pkS
    split
    · exact pkS_lt hu r
    · split
      · exact pkO_lt r
      · exact pkS_lt hu r
theorem pkS_4 {a : Nat → Int × Int} {u : Nat} {f w : Int} {G : List (List Int)} (h0 : ¬ f = 0) (h3 : ¬ f = 3) (hu : hasB a u f w G = false) : pickP a u f w G = pkS a u f w G 4 := by
  unfold pickP
  simp only [pkS, pkO, List.getD_cons_zero, List.getD_cons_succ, hu, h0, h3, false_or, Bool.false_eq_true, if_false]
  cases hasB a 3 f w G <;> cases hasB a 2 f w G <;> cases hasB a 0 f w G <;> cases hasB a 1 f w G <;> rfl
theorem partAs0 {a : Nat → Int × Int} {n off : Nat} (hn : n < 4) (ho : off = 2 * n) : partV Try.prog 3 (asL a) off = some (.int .i64 (a n).1) := by
  subst ho
  refine partInt ?_
  rcases (show n = 0 ∨ n = 1 ∨ n = 2 ∨ n = 3 by omega) with rfl | rfl | rfl | rfl <;> rfl
theorem partAs1 {a : Nat → Int × Int} {n off : Nat} (hn : n < 4) (ho : off = 2 * n + 1) : partV Try.prog 3 (asL a) off = some (.int .i64 (a n).2) := by
  subst ho
  refine partInt ?_
  rcases (show n = 0 ∨ n = 1 ∨ n = 2 ∨ n = 3 by omega) with rfl | rfl | rfl | rfl <;> rfl
theorem assumePicks_l (mk : Mk) (K lo : Nat) (hK : K = 100) (l : Nat → Int) (v : VL) (n : Nat) (hn : n < 9223372036854775808) (ivs : List Val) (Y : List (List Int)) (H : List Blk) (hlo : lo ≤ H.length) (hlo1 : 1 ≤ lo) (hI : InG H n ivs Y) (hY : ∀ y ∈ Y, y.length < 9223372036854775808) :
    Ends (FF mk (K + 1) lo 3 [.agg (lL l), .agg (vL v), .sl (.hp 0) 0 n 1] H) (fun r => r.1 = .bool true) := by
  have hY3 : Y.length ≤ 3 := by rw [hI.len, hI.m]; omega
  have hYn : Y.length ≤ n := by rw [hI.len, hI.m]; omega
  conv => enter [1]; whnf
  rw [and64_3, and64_3]
  conv => enter [1]; whnf
  refine Ends.loopK (fun m T M => ∃ (i b : Nat) (H2 : List Blk) (loc : List (List Val)), i ≤ Y.length ∧ Y.length - i < m ∧ Grown H H2 ∧ H.length ≤ b ∧ BG H2 b ((Y.map cut3).take i) ∧ T = [.undef, .undef, .sl (.hp 0) 0 n 1, .ptr (.lo 0) 0, .ptr (.lo 1) 0, .undef, .undef, .ptr (.lo 2) 0, .sl (.hp b) 0 i 1, .int .i64 (i : Int), .undef, .undef, .undef, .undef, .undef, .undef, .undef, .undef, .undef, .undef, .undef, .undef, .undef, .undef, .undef, .undef, .undef, .undef, .undef, .undef, .undef, .undef, .undef, .undef, .undef, .undef, .undef, .undef, .undef, .undef, .undef, .undef, .undef, .undef, .undef, .undef, .undef, .undef, .undef, .undef, .undef, .undef, .undef, .undef, .undef, .undef, .undef, .undef, .undef, .undef, .undef, .undef, .undef, .undef, .undef, .undef, .undef, .undef, .undef, .undef, .undef, .undef, .undef, .undef, .undef, .undef, .undef, .undef, .undef, .undef, .undef, .undef, .undef, .undef, .undef, .undef, .undef, .undef, .undef, .undef, .undef, .undef, .undef, .undef, .undef, .undef, .undef, .undef, .undef, .undef, .undef, .undef, .undef, .undef, .undef, .undef, .undef, .undef, .undef, .undef, .undef, .undef, .undef, .undef, .undef, .undef, .undef, .undef, .undef, .undef, .undef, .undef, .undef, .undef, .undef, .undef, .undef, .undef, .undef, .undef, .undef, .undef, .undef, .undef, .undef, .undef, .undef, .undef, .undef, .undef, .undef, .undef, .undef, .undef, .undef, .undef, .undef, .undef, .undef, .undef, .undef, .undef, .undef, .undef, .undef, .undef, .undef, .undef, .undef, .undef, .undef, .undef, .undef, .undef, .undef, .undef, .undef, .undef, .undef, .undef, .undef, .undef, .undef, .undef, .undef, .undef, .undef, .undef, .undef, .undef, .undef, .undef, .undef] ∧ M = ⟨lL l :: vL v :: vL ⟨v.n, v.f % 4, v.w % 4, v.t, v.z, v.kn⟩ :: loc, H2⟩) (fun T M ⟨i, _, _, _, _, h, _⟩ => by omega) ?_ _ _ ⟨0, H.length, _, [], by omega, by omega, ⟨_, rfl⟩, by omega, ⟨[], snoc_top rfl, rfl, fun i h => by simp at h⟩, rfl, rfl⟩
  rintro m T M L KK hKK ⟨i, b, H2, loc, i1, i2, g2, hb, hB, rfl, rfl⟩ hL
  conv => enter [1]; whnf
  by_cases ci : i < Y.length
  · have c1 : (i : Int) < (n : Int) := by omega
    have c2 : (i : Int) < 3 := by omega
    have hiv := hI.row i ci
    have hH0 := g2.at hI.h0
    repeat (first
      | (refine Ends.force ?_; conv => enter [1]; whnf)
      | (refine Ends.forceN ?_; conv => enter [1]; whnf)
      | (refine Ends.forceLs ?_; conv => enter [1]; whnf)
      | (refine Ends.iteT (by first | with_reducible assumption | (simp [*]; done) | (apply decide_eq_true; omega) | fail "open") ?_; conv => enter [1]; whnf)
      | (refine Ends.iteF (by first | with_reducible assumption | (simp [*]; done) | (apply decide_eq_false; omega) | fail "open") ?_; conv => enter [1]; whnf))
    rcases hiv with ⟨hiv, hy0⟩ | ⟨q, hiv, hq⟩
    · obtain ⟨LL, hLL⟩ : ∃ LL, LL = lL l :: vL v :: vL ⟨v.n, v.f % 4, v.w % 4, v.t, v.z, v.kn⟩ :: loc := ⟨_, rfl⟩
      rw [← hLL]
      refine Ends.loopK (fun m T M => 0 < m ∧ T = [.undef, .undef, .sl (.hp 0) 0 n 1, .ptr (.lo 0) 0, .ptr (.lo 1) 0, .undef, .undef, .ptr (.lo 2) 0, .sl (.hp b) 0 i 1, .int .i64 (i : Int), .sl (.hp H2.length) 0 0 1, .int .i64 0, .undef, .undef, .undef, .undef, .undef, .undef, .undef, .undef, .undef, .undef, .undef, .undef, .undef, .undef, .undef, .undef, .undef, .undef, .undef, .undef, .undef, .undef, .undef, .undef, .undef, .undef, .undef, .undef, .undef, .undef, .undef, .undef, .undef, .undef, .undef, .undef, .undef, .undef, .undef, .undef, .undef, .undef, .undef, .undef, .undef, .undef, .undef, .undef, .undef, .undef, .undef, .undef, .undef, .undef, .undef, .undef, .undef, .undef, .undef, .undef, .undef, .undef, .undef, .undef, .undef, .undef, .undef, .undef, .undef, .undef, .undef, .undef, .undef, .undef, .undef, .undef, .undef, .undef, .undef, .undef, .undef, .undef, .undef, .undef, .undef, .undef, .undef, .undef, .undef, .undef, .undef, .undef, .undef, .undef, .undef, .undef, .undef, .undef, .undef, .undef, .undef, .undef, .undef, .undef, .undef, .undef, .undef, .undef, .undef, .undef, .undef, .undef, .undef, .undef, .undef, .undef, .undef, .undef, .undef, .undef, .undef, .undef, .undef, .undef, .undef, .undef, .undef, .undef, .undef, .undef, .undef, .undef, .undef, .undef, .undef, .undef, .undef, .undef, .undef, .undef, .undef, .undef, .undef, .undef, .undef, .undef, .undef, .undef, .undef, .undef, .undef, .undef, .undef, .undef, .undef, .undef, .undef, .undef, .undef, .undef, .undef, .undef, .undef, .undef, .undef, .undef, .undef, .undef, .undef, .undef, .undef] ∧ M = ⟨LL, H2 ++ [⟨[], true⟩]⟩) (fun T M ⟨h, _⟩ => by omega) ?_ _ _ ⟨by omega, rfl, rfl⟩
      rintro m2 T M L2 KK2 hKK2 ⟨_, rfl, rfl⟩ hL2
      obtain ⟨H3, hH3⟩ : ∃ H3, H3 = H2 ++ [(⟨[], true⟩ : Blk)] := ⟨_, rfl⟩
      obtain ⟨q2, hq2e⟩ : ∃ q, q = H2.length := ⟨_, rfl⟩
      obtain ⟨loc3, hloc3⟩ : ∃ x, x = loc := ⟨_, rfl⟩
      have g3 : Grown H2 H3 := ⟨_, hH3⟩
      have hr3 : H3[q2]? = some ⟨iV (cut3 Y[i]), true⟩ := by rw [hH3, hq2e, hy0]; exact snoc_top rfl
      have hq2 : H2.length ≤ q2 := by omega
      have hcl : (cut3 Y[i]).length = 0 := by rw [hy0]; rfl
      have hH03 := g3.at hH0
      obtain ⟨ivb, b1, b2, b3⟩ := hB.get
      have hbl : ivb.length = i := by rw [b2, List.length_take, List.length_map]; omega
      have hb3 := g3.at b1
      have hm3 : mayWrite lo (.hp b) = true := may_hp (Nat.le_trans hlo hb)
      rw [← hH3, ← hq2e]
      rw [← hloc3] at hLL
      conv => enter [1]; whnf
      repeat (first
        | (refine Ends.force ?_; conv => enter [1]; whnf)
        | (refine Ends.forceN ?_; conv => enter [1]; whnf)
        | (refine Ends.forceLs ?_; conv => enter [1]; whnf)
        | (refine Ends.iteT (by first | with_reducible assumption | (simp [*]; done) | (apply decide_eq_true; omega) | fail "open") ?_; conv => enter [1]; whnf)
        | (refine Ends.iteF (by first | with_reducible assumption | (simp [*]; done) | (apply decide_eq_false; omega) | fail "open") ?_; conv => enter [1]; whnf))
      refine Ends.opt (get_at hH03 _) ?_
      conv => enter [1]; whnf
      refine Ends.opt (partSlAt hiv (by omega)) ?_
      conv => enter [1]; whnf
      repeat (first
        | (refine Ends.force ?_; conv => enter [1]; whnf)
        | (refine Ends.forceN ?_; conv => enter [1]; whnf)
        | (refine Ends.forceLs ?_; conv => enter [1]; whnf)
        | (refine Ends.iteT (by first | with_reducible assumption | (simp [*]; done) | (apply decide_eq_true; omega) | fail "open") ?_; conv => enter [1]; whnf)
        | (refine Ends.iteF (by first | with_reducible assumption | (simp [*]; done) | (apply decide_eq_false; omega) | fail "open") ?_; conv => enter [1]; whnf))
      rw [hKK2]
      conv => enter [1]; whnf
      repeat (first
        | (refine Ends.force ?_; conv => enter [1]; whnf)
        | (refine Ends.forceN ?_; conv => enter [1]; whnf)
        | (refine Ends.forceLs ?_; conv => enter [1]; whnf)
        | (refine Ends.iteT (by first | with_reducible assumption | (simp [*]; done) | (apply decide_eq_true; omega) | fail "open") ?_; conv => enter [1]; whnf)
        | (refine Ends.iteF (by first | with_reducible assumption | (simp [*]; done) | (apply decide_eq_false; omega) | fail "open") ?_; conv => enter [1]; whnf))
      refine Ends.opt (sc_lo LL H3 _ 1 1 1 rfl rfl) ?_
      conv => enter [1]; whnf
      repeat (first
        | (refine Ends.force ?_; conv => enter [1]; whnf)
        | (refine Ends.forceN ?_; conv => enter [1]; whnf)
        | (refine Ends.forceLs ?_; conv => enter [1]; whnf)
        | (refine Ends.iteT (by first | with_reducible assumption | (simp [*]; done) | (apply decide_eq_true; omega) | fail "open") ?_; conv => enter [1]; whnf)
        | (refine Ends.iteF (by first | with_reducible assumption | (simp [*]; done) | (apply decide_eq_false; omega) | fail "open") ?_; conv => enter [1]; whnf))
      refine Ends.opt (get_at hb3 _) ?_
      conv => enter [1]; whnf
      refine Ends.iteT (decide_eq_true (by rw [hbl]; omega)) ?_
      conv => enter [1]; whnf
      repeat (first
        | (refine Ends.force ?_; conv => enter [1]; whnf)
        | (refine Ends.forceN ?_; conv => enter [1]; whnf)
        | (refine Ends.forceLs ?_; conv => enter [1]; whnf)
        | (refine Ends.iteT (by first | with_reducible assumption | (simp [*]; done) | (apply decide_eq_true; omega) | fail "open") ?_; conv => enter [1]; whnf)
        | (refine Ends.iteF (by first | with_reducible assumption | (simp [*]; done) | (apply decide_eq_false; omega) | fail "open") ?_; conv => enter [1]; whnf))
      refine hL _ ⟨i + 1, H3.length, H3.set b ⟨[], false⟩ ++ [⟨dropN 0 ivb ++ [.sl (.hp q2) 0 0 1], true⟩], loc3 ++ [[.sl (.hp q2) 0 0 1]], by omega, by omega, ((g2.trans g3).set hb _).trans (Grown.one _ _), by have := g2.len; have := g3.len; omega, ?_, ?_, ?_⟩
      · have hp := hB.push g3 hq2 hr3 b1
        rw [hcl] at hp
        rw [List.take_add_one, List.getElem?_map, List.getElem?_eq_getElem ci]
        exact hp
      · have e3 : IntKind.i64.wrap ((i : Int) + 1) = ((i + 1 : Nat) : Int) := by rw [w64]; omega
        rw [← e3]
        rfl
      · rw [hLL]; rfl
    · refine Ends.loopK (fun m T M => ∃ (j q2 : Nat) (H3 : List Blk) (loc3 : List (List Val)), j ≤ min Y[i].length 3 ∧ 3 - j < m ∧ Grown H2 H3 ∧ H2.length ≤ q2 ∧ H3[q2]? = some ⟨iV ((Y[i].take j).map (· % 4)), true⟩ ∧ T = [.undef, .undef, .sl (.hp 0) 0 n 1, .ptr (.lo 0) 0, .ptr (.lo 1) 0, .undef, .undef, .ptr (.lo 2) 0, .sl (.hp b) 0 i 1, .int .i64 (i : Int), .sl (.hp q2) 0 j 1, .int .i64 (j : Int), .undef, .undef, .undef, .undef, .undef, .undef, .undef, .undef, .undef, .undef, .undef, .undef, .undef, .undef, .undef, .undef, .undef, .undef, .undef, .undef, .undef, .undef, .undef, .undef, .undef, .undef, .undef, .undef, .undef, .undef, .undef, .undef, .undef, .undef, .undef, .undef, .undef, .undef, .undef, .undef, .undef, .undef, .undef, .undef, .undef, .undef, .undef, .undef, .undef, .undef, .undef, .undef, .undef, .undef, .undef, .undef, .undef, .undef, .undef, .undef, .undef, .undef, .undef, .undef, .undef, .undef, .undef, .undef, .undef, .undef, .undef, .undef, .undef, .undef, .undef, .undef, .undef, .undef, .undef, .undef, .undef, .undef, .undef, .undef, .undef, .undef, .undef, .undef, .undef, .undef, .undef, .undef, .undef, .undef, .undef, .undef, .undef, .undef, .undef, .undef, .undef, .undef, .undef, .undef, .undef, .undef, .undef, .undef, .undef, .undef, .undef, .undef, .undef, .undef, .undef, .undef, .undef, .undef, .undef, .undef, .undef, .undef, .undef, .undef, .undef, .undef, .undef, .undef, .undef, .undef, .undef, .undef, .undef, .undef, .undef, .undef, .undef, .undef, .undef, .undef, .undef, .undef, .undef, .undef, .undef, .undef, .undef, .undef, .undef, .undef, .undef, .undef, .undef, .undef, .undef, .undef, .undef, .undef, .undef, .undef, .undef, .undef, .undef, .undef, .undef, .undef, .undef, .undef, .undef, .undef, .undef] ∧ M = ⟨lL l :: vL v :: vL ⟨v.n, v.f % 4, v.w % 4, v.t, v.z, v.kn⟩ :: loc3, H3⟩) (fun T M ⟨j, _, _, _, _, h, _⟩ => by omega) ?_ _ _ ⟨0, H2.length, _, loc, by omega, by omega, ⟨_, rfl⟩, by omega, snoc_top rfl, rfl, rfl⟩
      rintro m2 T M L2 KK2 hKK2 ⟨j, q2, H3, loc3, j1, j2, g3, hq2, hr2, rfl, rfl⟩ hL2
      obtain ⟨LL, hLL⟩ : ∃ LL, LL = lL l :: vL v :: vL ⟨v.n, v.f % 4, v.w % 4, v.t, v.z, v.kn⟩ :: loc3 := ⟨_, rfl⟩
      rw [← hLL]
      have hH03 := g3.at hH0
      have hq3 := (g2.trans g3).at hq
      conv => enter [1]; whnf
      repeat (first
        | (refine Ends.force ?_; conv => enter [1]; whnf)
        | (refine Ends.forceN ?_; conv => enter [1]; whnf)
        | (refine Ends.forceLs ?_; conv => enter [1]; whnf)
        | (refine Ends.iteT (by first | with_reducible assumption | (simp [*]; done) | (apply decide_eq_true; omega) | fail "open") ?_; conv => enter [1]; whnf)
        | (refine Ends.iteF (by first | with_reducible assumption | (simp [*]; done) | (apply decide_eq_false; omega) | fail "open") ?_; conv => enter [1]; whnf))
      refine Ends.opt (get_at hH03 _) ?_
      conv => enter [1]; whnf
      refine Ends.opt (partSlAt hiv (by omega)) ?_
      conv => enter [1]; whnf
      by_cases cj : j < min Y[i].length 3
      · have c3 : (j : Int) < (Y[i].length : Int) := by omega
        have c4 : (j : Int) < 3 := by omega
        repeat (first
          | (refine Ends.force ?_; conv => enter [1]; whnf)
          | (refine Ends.forceN ?_; conv => enter [1]; whnf)
          | (refine Ends.forceLs ?_; conv => enter [1]; whnf)
          | (refine Ends.iteT (by first | with_reducible assumption | (simp [*]; done) | (apply decide_eq_true; omega) | fail "open") ?_; conv => enter [1]; whnf)
          | (refine Ends.iteF (by first | with_reducible assumption | (simp [*]; done) | (apply decide_eq_false; omega) | fail "open") ?_; conv => enter [1]; whnf))
        refine Ends.opt (get_at hH03 _) ?_
        conv => enter [1]; whnf
        refine Ends.opt (partSlAt hiv (by omega)) ?_
        conv => enter [1]; whnf
        refine Ends.iteT (decide_eq_true (by omega)) ?_
        conv => enter [1]; whnf
        refine Ends.opt (get_at hq3 _) ?_
        conv => enter [1]; whnf
        refine Ends.opt (partInt (getAt_iV' j (by omega) (by omega))) ?_
        conv => enter [1]; whnf
        rw [and64_3]
        have hm2 : mayWrite lo (.hp q2) = true := may_hp (by have := g2.len; omega)
        have hjl : (iV ((Y[i].take j).map (· % 4))).length = j := by rw [iV_len, List.length_map, List.length_take]; omega
        conv => enter [1]; whnf
        repeat (first
          | (refine Ends.force ?_; conv => enter [1]; whnf)
          | (refine Ends.forceN ?_; conv => enter [1]; whnf)
          | (refine Ends.forceLs ?_; conv => enter [1]; whnf)
          | (refine Ends.iteT (by first | with_reducible assumption | (simp [*]; done) | (apply decide_eq_true; omega) | fail "open") ?_; conv => enter [1]; whnf)
          | (refine Ends.iteF (by first | with_reducible assumption | (simp [*]; done) | (apply decide_eq_false; omega) | fail "open") ?_; conv => enter [1]; whnf))
        refine Ends.opt (sc_lo LL H3 _ 1 1 1 rfl rfl) ?_
        conv => enter [1]; whnf
        repeat (first
          | (refine Ends.force ?_; conv => enter [1]; whnf)
          | (refine Ends.forceN ?_; conv => enter [1]; whnf)
          | (refine Ends.forceLs ?_; conv => enter [1]; whnf)
          | (refine Ends.iteT (by first | with_reducible assumption | (simp [*]; done) | (apply decide_eq_true; omega) | fail "open") ?_; conv => enter [1]; whnf)
          | (refine Ends.iteF (by first | with_reducible assumption | (simp [*]; done) | (apply decide_eq_false; omega) | fail "open") ?_; conv => enter [1]; whnf))
        refine Ends.opt (get_at hr2 _) ?_
        conv => enter [1]; whnf
        refine Ends.iteT (decide_eq_true (by rw [hjl]; omega)) ?_
        conv => enter [1]; whnf
        repeat (first
          | (refine Ends.force ?_; conv => enter [1]; whnf)
          | (refine Ends.forceN ?_; conv => enter [1]; whnf)
          | (refine Ends.forceLs ?_; conv => enter [1]; whnf)
          | (refine Ends.iteT (by first | with_reducible assumption | (simp [*]; done) | (apply decide_eq_true; omega) | fail "open") ?_; conv => enter [1]; whnf)
          | (refine Ends.iteF (by first | with_reducible assumption | (simp [*]; done) | (apply decide_eq_false; omega) | fail "open") ?_; conv => enter [1]; whnf))
        have hstep : dropN 0 (iV ((Y[i].take j).map (· % 4))) ++ [Val.int .i64 (Y[i][j] % 4)] = iV ((Y[i].take (j + 1)).map (· % 4)) := by
          rw [drop0, List.take_add_one, List.getElem?_eq_getElem (show j < Y[i].length by omega), List.map_append, iV_append]
          rfl
        have hlt2 := at_lt hr2
        refine hL2 _ ⟨j + 1, H3.length, H3.set q2 ⟨[], false⟩ ++ [⟨dropN 0 (iV ((Y[i].take j).map (· % 4))) ++ [Val.int .i64 (Y[i][j] % 4)], true⟩], loc3 ++ [[Val.int .i64 (Y[i][j] % 4)]], by omega, by omega, (g3.set hq2 _).trans (Grown.one _ _), by have := g3.len; omega, ?_, ?_, ?_⟩
        · rw [hstep]; exact snoc_top (by rw [List.length_set])
        · have e3 : IntKind.i64.wrap ((j : Int) + 1) = ((j + 1 : Nat) : Int) := by rw [w64]; omega
          rw [← e3]
          rfl
        · rw [hLL]; rfl
      · have hjm : j = min Y[i].length 3 := by omega
        have hr3 : H3[q2]? = some ⟨iV (cut3 Y[i]), true⟩ := by
          rw [hr2, hjm]
          unfold cut3
          by_cases c : Y[i].length ≤ 3
          · rw [Nat.min_eq_left c, List.take_length, List.take_of_length_le c]
          · rw [Nat.min_eq_right (by omega)]
        have hcl : (cut3 Y[i]).length = j := by unfold cut3; rw [List.length_map, List.length_take]; omega
        obtain ⟨ivb, b1, b2, b3⟩ := hB.get
        have hbl : ivb.length = i := by rw [b2, List.length_take, List.length_map]; omega
        have hb3 := g3.at b1
        have hm3 : mayWrite lo (.hp b) = true := may_hp (Nat.le_trans hlo hb)
        by_cases cc : (j : Int) < (Y[i].length : Int)
        · have c4 : ¬ (j : Int) < 3 := by omega
          refine Ends.iteT (by rw [decide_eq_true cc]; rfl) ?_
          conv => enter [1]; whnf
          refine Ends.iteF (by rw [decide_eq_false c4]; rfl) ?_
          conv => enter [1]; whnf
          rw [hKK2]
          conv => enter [1]; whnf
          repeat (first
            | (refine Ends.force ?_; conv => enter [1]; whnf)
            | (refine Ends.forceN ?_; conv => enter [1]; whnf)
            | (refine Ends.forceLs ?_; conv => enter [1]; whnf)
            | (refine Ends.iteT (by first | with_reducible assumption | (simp [*]; done) | (apply decide_eq_true; omega) | fail "open") ?_; conv => enter [1]; whnf)
            | (refine Ends.iteF (by first | with_reducible assumption | (simp [*]; done) | (apply decide_eq_false; omega) | fail "open") ?_; conv => enter [1]; whnf))
          refine Ends.opt (sc_lo LL H3 _ 1 1 1 rfl rfl) ?_
          conv => enter [1]; whnf
          repeat (first
            | (refine Ends.force ?_; conv => enter [1]; whnf)
            | (refine Ends.forceN ?_; conv => enter [1]; whnf)
            | (refine Ends.forceLs ?_; conv => enter [1]; whnf)
            | (refine Ends.iteT (by first | with_reducible assumption | (simp [*]; done) | (apply decide_eq_true; omega) | fail "open") ?_; conv => enter [1]; whnf)
            | (refine Ends.iteF (by first | with_reducible assumption | (simp [*]; done) | (apply decide_eq_false; omega) | fail "open") ?_; conv => enter [1]; whnf))
          refine Ends.opt (get_at hb3 _) ?_
          conv => enter [1]; whnf
          refine Ends.iteT (decide_eq_true (by rw [hbl]; omega)) ?_
          conv => enter [1]; whnf
          repeat (first
            | (refine Ends.force ?_; conv => enter [1]; whnf)
            | (refine Ends.forceN ?_; conv => enter [1]; whnf)
            | (refine Ends.forceLs ?_; conv => enter [1]; whnf)
            | (refine Ends.iteT (by first | with_reducible assumption | (simp [*]; done) | (apply decide_eq_true; omega) | fail "open") ?_; conv => enter [1]; whnf)
            | (refine Ends.iteF (by first | with_reducible assumption | (simp [*]; done) | (apply decide_eq_false; omega) | fail "open") ?_; conv => enter [1]; whnf))
          refine hL _ ⟨i + 1, H3.length, H3.set b ⟨[], false⟩ ++ [⟨dropN 0 ivb ++ [.sl (.hp q2) 0 j 1], true⟩], loc3 ++ [[.sl (.hp q2) 0 j 1]], by omega, by omega, ((g2.trans g3).set hb _).trans (Grown.one _ _), by have := g2.len; have := g3.len; omega, ?_, ?_, ?_⟩
          · have hp := hB.push g3 hq2 hr3 b1
            rw [hcl] at hp
            rw [List.take_add_one, List.getElem?_map, List.getElem?_eq_getElem ci]
            exact hp
          · have e3 : IntKind.i64.wrap ((i : Int) + 1) = ((i + 1 : Nat) : Int) := by rw [w64]; omega
            rw [← e3]
            rfl
          · rw [hLL]; rfl
        · skip
          refine Ends.iteF (by rw [decide_eq_false cc]; rfl) ?_
          conv => enter [1]; whnf
          rw [hKK2]
          conv => enter [1]; whnf
          repeat (first
            | (refine Ends.force ?_; conv => enter [1]; whnf)
            | (refine Ends.forceN ?_; conv => enter [1]; whnf)
            | (refine Ends.forceLs ?_; conv => enter [1]; whnf)
            | (refine Ends.iteT (by first | with_reducible assumption | (simp [*]; done) | (apply decide_eq_true; omega) | fail "open") ?_; conv => enter [1]; whnf)
            | (refine Ends.iteF (by first | with_reducible assumption | (simp [*]; done) | (apply decide_eq_false; omega) | fail "open") ?_; conv => enter [1]; whnf))
          refine Ends.opt (sc_lo LL H3 _ 1 1 1 rfl rfl) ?_
          conv => enter [1]; whnf
          repeat (first
            | (refine Ends.force ?_; conv => enter [1]; whnf)
            | (refine Ends.forceN ?_; conv => enter [1]; whnf)
            | (refine Ends.forceLs ?_; conv => enter [1]; whnf)
            | (refine Ends.iteT (by first | with_reducible assumption | (simp [*]; done) | (apply decide_eq_true; omega) | fail "open") ?_; conv => enter [1]; whnf)
            | (refine Ends.iteF (by first | with_reducible assumption | (simp [*]; done) | (apply decide_eq_false; omega) | fail "open") ?_; conv => enter [1]; whnf))
          refine Ends.opt (get_at hb3 _) ?_
          conv => enter [1]; whnf
          refine Ends.iteT (decide_eq_true (by rw [hbl]; omega)) ?_
          conv => enter [1]; whnf
          repeat (first
            | (refine Ends.force ?_; conv => enter [1]; whnf)
            | (refine Ends.forceN ?_; conv => enter [1]; whnf)
            | (refine Ends.forceLs ?_; conv => enter [1]; whnf)
            | (refine Ends.iteT (by first | with_reducible assumption | (simp [*]; done) | (apply decide_eq_true; omega) | fail "open") ?_; conv => enter [1]; whnf)
            | (refine Ends.iteF (by first | with_reducible assumption | (simp [*]; done) | (apply decide_eq_false; omega) | fail "open") ?_; conv => enter [1]; whnf))
          refine hL _ ⟨i + 1, H3.length, H3.set b ⟨[], false⟩ ++ [⟨dropN 0 ivb ++ [.sl (.hp q2) 0 j 1], true⟩], loc3 ++ [[.sl (.hp q2) 0 j 1]], by omega, by omega, ((g2.trans g3).set hb _).trans (Grown.one _ _), by have := g2.len; have := g3.len; omega, ?_, ?_, ?_⟩
          · have hp := hB.push g3 hq2 hr3 b1
            rw [hcl] at hp
            rw [List.take_add_one, List.getElem?_map, List.getElem?_eq_getElem ci]
            exact hp
          · have e3 : IntKind.i64.wrap ((i : Int) + 1) = ((i + 1 : Nat) : Int) := by rw [w64]; omega
            rw [← e3]
            rfl
          · rw [hLL]; rfl
  · have hie : i = Y.length := by omega
    have hGe : (Y.map cut3).take i = Y.map cut3 := List.take_of_length_le (by rw [List.length_map]; omega)
    rw [hGe] at hB
    have hG := hB.has
    have hgl : H.length ≤ H2.length := g2.len
    have hg3 : ∀ y ∈ Y.map cut3, y.length ≤ 3 := by
      intro y hy
      obtain ⟨z, _, rfl⟩ := List.mem_map.1 hy
      unfold cut3
      rw [List.length_map, List.length_take]; omega
    have hlY : (Y.map cut3).length = Y.length := List.length_map _
    have ha : ∀ n, -9223372036854775808 < (nearA l n).2 := fun n => by unfold nearA; simp only; omega
    have c3 : (i : Int) < (n : Int) → ¬ (i : Int) < 3 := by have := hI.m; have := hI.len; omega
    by_cases cn : (i : Int) < (n : Int)
    all_goals
      obtain ⟨G, hGd⟩ : ∃ G, G = Y.map cut3 := ⟨_, rfl⟩
      have hiG : i = G.length := by rw [hGd, hlY]; exact hie
      have hGl : G.length ≤ 3 := by omega
      rw [← hGd] at hG hg3
      first
        | (refine Ends.iteT (by rw [decide_eq_true cn]; rfl) ?_; (conv => enter [1]; whnf); refine Ends.iteF (by rw [decide_eq_false (c3 cn)]; rfl) ?_)
        | (refine Ends.iteF (by rw [decide_eq_false cn]; rfl) ?_)
      conv => enter [1]; whnf
      rw [hKK]
      conv => enter [1]; whnf
      refine Ends.call (near33_F mk K lo (by omega) l H2) ?_
      conv => enter [1]; whnf
      repeat (first
        | (refine Ends.force ?_; conv => enter [1]; whnf)
        | (refine Ends.forceN ?_; conv => enter [1]; whnf)
        | (refine Ends.forceLs ?_; conv => enter [1]; whnf)
        | (refine Ends.iteT (by first | with_reducible assumption | (simp [*]; done) | (apply decide_eq_true; omega) | fail "open") ?_; conv => enter [1]; whnf)
        | (refine Ends.iteF (by first | with_reducible assumption | (simp [*]; done) | (apply decide_eq_false; omega) | fail "open") ?_; conv => enter [1]; whnf))
      refine Ends.opt (loc3_get) ?_
      conv => enter [1]; whnf
      repeat (first
        | (refine Ends.force ?_; conv => enter [1]; whnf)
        | (refine Ends.forceN ?_; conv => enter [1]; whnf)
        | (refine Ends.forceLs ?_; conv => enter [1]; whnf)
        | (refine Ends.iteT (by first | with_reducible assumption | (simp [*]; done) | (apply decide_eq_true; omega) | fail "open") ?_; conv => enter [1]; whnf)
        | (refine Ends.iteF (by first | with_reducible assumption | (simp [*]; done) | (apply decide_eq_false; omega) | fail "open") ?_; conv => enter [1]; whnf))
      refine Ends.loopK (fun m T M => ∃ j : Nat, j ≤ 4 ∧ 4 - j < m ∧ T = [.undef, .undef, .undef, .ptr (.lo 0) 0, .undef, .undef, .undef, .ptr (.lo 2) 0, .sl (.hp b) 0 G.length 1, .undef, .undef, .undef, .ptr (.lo (lL l :: vL v :: vL ⟨v.n, v.f % 4, v.w % 4, v.t, v.z, v.kn⟩ :: loc).length) 0, .int .i64 (v.t % 4), .int .i64 (j : Int), .undef, .undef, .undef, .undef, .undef, .undef, .undef, .undef, .undef, .undef, .undef, .undef, .undef, .undef, .undef, .undef, .undef, .undef, .undef, .undef, .undef, .undef, .undef, .undef, .undef, .undef, .undef, .undef, .undef, .undef, .undef, .undef, .undef, .undef, .undef, .undef, .undef, .undef, .undef, .undef, .undef, .undef, .undef, .undef, .undef, .undef, .undef, .undef, .undef, .undef, .undef, .undef, .undef, .undef, .undef, .undef, .undef, .undef, .undef, .undef, .undef, .undef, .undef, .undef, .undef, .undef, .undef, .undef, .undef, .undef, .undef, .undef, .undef, .undef, .undef, .undef, .undef, .undef, .undef, .undef, .undef, .undef, .undef, .undef, .undef, .undef, .undef, .undef, .undef, .undef, .undef, .undef, .undef, .undef, .undef, .undef, .undef, .undef, .undef, .undef, .undef, .undef, .undef, .undef, .undef, .undef, .undef, .undef, .undef, .undef, .undef, .undef, .undef, .undef, .undef, .undef, .undef, .undef, .undef, .undef, .undef, .undef, .undef, .undef, .undef, .undef, .undef, .undef, .undef, .undef, .undef, .undef, .undef, .undef, .undef, .undef, .undef, .undef, .undef, .undef, .undef, .undef, .undef, .undef, .undef, .undef, .undef, .undef, .undef, .undef, .undef, .undef, .undef, .undef, .undef, .undef, .undef, .undef, .undef, .undef, .undef, .undef, .undef, .undef, .undef, .undef, .undef, .undef] ∧ M = ⟨lL l :: vL v :: vL ⟨v.n, v.f % 4, v.w % 4, v.t, v.z, v.kn⟩ :: (loc ++ [asL (nearA l)]), H2⟩) (fun T M ⟨j, _, h, _⟩ => by omega) ?_ _ _ ⟨0, by omega, by omega, by rw [and64_3 v.t, ← hiG]; rfl, ?_⟩
      · rintro m2 T M L2 KK2 hKK2 ⟨j, j1, j2, rfl, rfl⟩ hL2
        conv => enter [1]; whnf
        refine Ends.ite (fun hcc => ?_) (fun hcc => ?_) <;> (conv => enter [1]; whnf)
        · have cj : j < 4 := by have := of_decide_eq_true hcc; omega
          repeat (first
            | (refine Ends.force ?_; conv => enter [1]; whnf)
            | (refine Ends.forceN ?_; conv => enter [1]; whnf)
            | (refine Ends.forceLs ?_; conv => enter [1]; whnf)
            | (refine Ends.iteT (by first | with_reducible assumption | (simp [*]; done) | (apply decide_eq_true; omega) | fail "open") ?_; conv => enter [1]; whnf)
            | (refine Ends.iteF (by first | with_reducible assumption | (simp [*]; done) | (apply decide_eq_false; omega) | fail "open") ?_; conv => enter [1]; whnf))
          refine Ends.opt (loc3_get') ?_
          conv => enter [1]; whnf
          repeat (first
            | (refine Ends.force ?_; conv => enter [1]; whnf)
            | (refine Ends.forceN ?_; conv => enter [1]; whnf)
            | (refine Ends.forceLs ?_; conv => enter [1]; whnf)
            | (refine Ends.iteT (by first | with_reducible assumption | (simp [*]; done) | (apply decide_eq_true; omega) | fail "open") ?_; conv => enter [1]; whnf)
            | (refine Ends.iteF (by first | with_reducible assumption | (simp [*]; done) | (apply decide_eq_false; omega) | fail "open") ?_; conv => enter [1]; whnf))
          refine Ends.call (ahas_F mk K lo (by omega) (nearA l) j cj (ha j) ⟨v.n, v.f % 4, v.w % 4, v.t, v.z, v.kn⟩ H2 b G hG hg3 hGl) ?_
          conv => enter [1]; whnf
          refine Ends.call (lhas_F mk K lo (by omega) l j cj ⟨v.n, v.f % 4, v.w % 4, v.t, v.z, v.kn⟩ H2 b G hG hg3 hGl) ?_
          conv => enter [1]; whnf
          repeat (first
            | (refine Ends.force ?_; conv => enter [1]; whnf)
            | (refine Ends.forceN ?_; conv => enter [1]; whnf)
            | (refine Ends.forceLs ?_; conv => enter [1]; whnf)
            | (refine Ends.iteT (by first | with_reducible assumption | (simp [*]; done) | (apply decide_eq_true; omega) | fail "open") ?_; conv => enter [1]; whnf)
            | (refine Ends.iteF (by first | with_reducible assumption | (simp [*]; done) | (apply decide_eq_false; omega) | fail "open") ?_; conv => enter [1]; whnf))
          refine hL2 _ ⟨j + 1, by omega, by omega, ?_, rfl⟩
          have e3 : IntKind.i64.wrap ((j : Int) + 1) = ((j + 1 : Nat) : Int) := by rw [w64]; omega
          rw [← e3]
          rfl
        · rw [hKK2]
          obtain ⟨u, hu⟩ : ∃ u : Nat, v.t % 4 = (u : Int) := ⟨(v.t % 4).toNat, by omega⟩
          have hu4 : u < 4 := by omega
          obtain ⟨f, hf⟩ : ∃ f, f = v.f % 4 := ⟨_, rfl⟩
          obtain ⟨w, hw⟩ : ∃ w, w = v.w % 4 := ⟨_, rfl⟩
          rw [hu, ← hf, ← hw]
          obtain ⟨LL, hLL⟩ : ∃ LL, LL = lL l :: vL v :: vL ⟨v.n, f, w, v.t, v.z, v.kn⟩ :: (loc ++ [asL (nearA l)]) := ⟨_, rfl⟩
          obtain ⟨N, hN⟩ : ∃ N, N = (lL l :: vL v :: vL ⟨v.n, f, w, v.t, v.z, v.kn⟩ :: loc).length := ⟨_, rfl⟩
          have l0 : ∀ X, Mem.get ⟨LL ++ X, H2⟩ (.lo 0) = some (lL l) := fun X => by rw [hLL]; rfl
          have l2 : ∀ X, Mem.get ⟨LL ++ X, H2⟩ (.lo 2) = some (vL ⟨v.n, f, w, v.t, v.z, v.kn⟩) := fun X => by rw [hLL]; rfl
          have lN : ∀ X, Mem.get ⟨LL ++ X, H2⟩ (.lo N) = some (asL (nearA l)) := fun X => by rw [hLL, hN]; simp [Mem.get]
          have lN1 : LL.length = N + 1 := by rw [hLL, hN]; simp
          have l0' := l0 []; have l2' := l2 []; have lN' := lN []
          rw [List.append_nil] at l0' l2' lN'
          rw [← hN, ← hLL]
          have fb : 0 ≤ f ∧ f < 4 := by omega
          clear hLL hN hf hw hu
          have hpF := pick_F mk K lo (by omega) (nearA l) u hu4 ha ⟨v.n, f, w, v.t, v.z, v.kn⟩ H2 b G hG hg3 hGl
          replace hpF : _ = some (Val.tup [.int .i64 ((pickP (nearA l) u f w G).1 : Nat), .bool (pickP (nearA l) u f w G).2], H2) := hpF
          by_cases cf : f = 1 ∨ f = 2
          · have hlu := lhas_F mk K lo (by omega) l u hu4 ⟨v.n, f, w, v.t, v.z, v.kn⟩ H2 b G hG hg3 hGl
            replace hlu : _ = some (Val.bool (hasB (nearA l) u f w G), H2) := hlu
            rcases cf with cf | cf
            · skip
              have fN0 : ¬ f = 0 := by omega
              have fN3 : ¬ f = 3 := by omega
              have q1 : f = 1 := cf
              clear cf fb
              cases eu : hasB (nearA l) u f w G <;> rw [eu] at hlu
              · have hpk := pkS_4 (a := nearA l) (u := u) (f := f) (w := w) (G := G) fN0 fN3 eu
                conv => enter [1]; whnf
                refine Ends.opt ((by first | exact l2' | exact l2 _)) ?_
                conv => enter [1]; whnf
                repeat (first
                  | (refine Ends.force ?_; conv => enter [1]; whnf)
                  | (refine Ends.forceN ?_; conv => enter [1]; whnf)
                  | (refine Ends.forceLs ?_; conv => enter [1]; whnf)
                  | (refine Ends.iteT (by first | with_reducible assumption | (simp [*]; done) | (apply decide_eq_true; omega) | fail "open") ?_; conv => enter [1]; whnf)
                  | (refine Ends.iteF (by first | with_reducible assumption | (simp [*]; done) | (apply decide_eq_false; omega) | fail "open") ?_; conv => enter [1]; whnf))
                refine Ends.opt ((by first | exact l0' | exact l0 _)) ?_
                conv => enter [1]; whnf
                repeat (first
                  | (refine Ends.force ?_; conv => enter [1]; whnf)
                  | (refine Ends.forceN ?_; conv => enter [1]; whnf)
                  | (refine Ends.forceLs ?_; conv => enter [1]; whnf)
                  | (refine Ends.iteT (by first | with_reducible assumption | (simp [*]; done) | (apply decide_eq_true; omega) | fail "open") ?_; conv => enter [1]; whnf)
                  | (refine Ends.iteF (by first | with_reducible assumption | (simp [*]; done) | (apply decide_eq_false; omega) | fail "open") ?_; conv => enter [1]; whnf))
                refine Ends.opt ((by first | exact l2' | exact l2 _)) ?_
                conv => enter [1]; whnf
                repeat (first
                  | (refine Ends.force ?_; conv => enter [1]; whnf)
                  | (refine Ends.forceN ?_; conv => enter [1]; whnf)
                  | (refine Ends.forceLs ?_; conv => enter [1]; whnf)
                  | (refine Ends.iteT (by first | with_reducible assumption | (simp [*]; done) | (apply decide_eq_true; omega) | fail "open") ?_; conv => enter [1]; whnf)
                  | (refine Ends.iteF (by first | with_reducible assumption | (simp [*]; done) | (apply decide_eq_false; omega) | fail "open") ?_; conv => enter [1]; whnf))
                refine Ends.call (hlu) ?_
                conv => enter [1]; whnf
                repeat (first
                  | (refine Ends.force ?_; conv => enter [1]; whnf)
                  | (refine Ends.forceN ?_; conv => enter [1]; whnf)
                  | (refine Ends.forceLs ?_; conv => enter [1]; whnf)
                  | (refine Ends.iteT (by first | with_reducible assumption | (simp [*]; done) | (apply decide_eq_true; omega) | fail "open") ?_; conv => enter [1]; whnf)
                  | (refine Ends.iteF (by first | with_reducible assumption | (simp [*]; done) | (apply decide_eq_false; omega) | fail "open") ?_; conv => enter [1]; whnf))
                refine Ends.loopK (fun m T M => ∃ r : Nat, r ≤ 4 ∧ 4 - r < m ∧ T = [.undef, .undef, .undef, .ptr (.lo 0) 0, .undef, .undef, .undef, .ptr (.lo 2) 0, .sl (.hp b) 0 G.length 1, .undef, .undef, .undef, .ptr (.lo N) 0, .int .i64 (u : Int), .undef, .int .i64 ((pkS (nearA l) u f w G r).1 : Nat), .bool (pkS (nearA l) u f w G r).2, .undef, .undef, .undef, .undef, .undef, .undef, .undef, .undef, .undef, .undef, .undef, .undef, .undef, .undef, .undef, .undef, .undef, .undef, .undef, .undef, .undef, .undef, .undef, .undef, .undef, .undef, .undef, .undef, .undef, .undef, .undef, .undef, .undef, .undef, .undef, .undef, .undef, .undef, .undef, .undef, .undef, .undef, .undef, .undef, .undef, .undef, .undef, .undef, .undef, .undef, .undef, .undef, .undef, .undef, .undef, .undef, .undef, .undef, .undef, .undef, .undef, .undef, .undef, .undef, .undef, .undef, .undef, .undef, .undef, .undef, .undef, .undef, .undef, .undef, .undef, .undef, .undef, .undef, .undef, .undef, .undef, .undef, .undef, .undef, .undef, .undef, .undef, .undef, .undef, .undef, .undef, .undef, .undef, .sl (.lo LL.length) 0 4 1, .int .i64 4, .int .i64 (r : Int), .undef, .undef, .undef, .undef, .undef, .undef, .undef, .undef, .undef, .undef, .undef, .undef, .undef, .undef, .undef, .undef, .undef, .undef, .undef, .undef, .undef, .undef, .undef, .undef, .undef, .undef, .undef, .undef, .undef, .undef, .undef, .undef, .undef, .undef, .undef, .undef, .undef, .undef, .undef, .undef, .undef, .undef, .undef, .undef, .undef, .undef, .undef, .undef, .undef, .undef, .undef, .undef, .undef, .undef, .undef, .undef, .undef, .undef, .undef, .undef, .undef, .undef, .undef, .undef, .undef, .undef, .undef, .undef, .undef, .undef] ∧ M = ⟨LL ++ [[.int .i64 3, .int .i64 2, .int .i64 0, .int .i64 1]], H2⟩) (fun T M ⟨r, _, h, _⟩ => by omega) ?_ _ _ ⟨0, by omega, by omega, rfl, rfl⟩
                rintro m3 T M L3 KK3 hKK3 ⟨r, r1, r2, rfl, rfl⟩ hL3
                have hord : ∀ X, Mem.get ⟨LL ++ [X], H2⟩ (.lo LL.length) = some X := fun X => by simp [Mem.get]
                have e3 : IntKind.i64.wrap ((r : Int) + 1) = ((r + 1 : Nat) : Int) := by rw [w64]; omega
                by_cases cr : r < 4
                · have hpkr : pkS (nearA l) u f w G (r + 1) = if (pkS (nearA l) u f w G r).2 = true then pkS (nearA l) u f w G r else if hasB (nearA l) (pkO.getD r 0) f w G = true then (pkO.getD r 0, true) else pkS (nearA l) u f w G r := rfl
                  have hro : pkO.getD r 0 < 4 := pkO_lt r
                  have hcell : getAt r [Val.int .i64 3, Val.int .i64 2, Val.int .i64 0, Val.int .i64 1] = some (.int .i64 ((pkO.getD r 0 : Nat) : Int)) := by
                    rcases (show r = 0 ∨ r = 1 ∨ r = 2 ∨ r = 3 by omega) with rfl | rfl | rfl | rfl <;> rfl
                  have hlr := lhas_F mk K lo (by omega) l (pkO.getD r 0) hro ⟨v.n, f, w, v.t, v.z, v.kn⟩ H2 b G hG hg3 hGl
                  replace hlr : _ = some (Val.bool (hasB (nearA l) (pkO.getD r 0) f w G), H2) := hlr
                  generalize pkO.getD r 0 = o at *
                  generalize hPr : pkS (nearA l) u f w G r = P at *
                  obtain ⟨pn, pb⟩ := P
                  have c1 : (r : Int) < 4 := by omega
                  conv => enter [1]; whnf
                  repeat (first
                    | (refine Ends.force ?_; conv => enter [1]; whnf)
                    | (refine Ends.forceN ?_; conv => enter [1]; whnf)
                    | (refine Ends.forceLs ?_; conv => enter [1]; whnf)
                    | (refine Ends.iteT (by first | with_reducible assumption | (simp [*]; done) | (apply decide_eq_true; omega) | fail "open") ?_; conv => enter [1]; whnf)
                    | (refine Ends.iteF (by first | with_reducible assumption | (simp [*]; done) | (apply decide_eq_false; omega) | fail "open") ?_; conv => enter [1]; whnf))
                  refine Ends.opt (hord _) ?_
                  conv => enter [1]; whnf
                  refine Ends.opt (partInt' hcell (by omega)) ?_
                  conv => enter [1]; whnf
                  repeat (first
                    | (refine Ends.force ?_; conv => enter [1]; whnf)
                    | (refine Ends.forceN ?_; conv => enter [1]; whnf)
                    | (refine Ends.forceLs ?_; conv => enter [1]; whnf)
                    | (refine Ends.iteT (by first | with_reducible assumption | (simp [*]; done) | (apply decide_eq_true; omega) | fail "open") ?_; conv => enter [1]; whnf)
                    | (refine Ends.iteF (by first | with_reducible assumption | (simp [*]; done) | (apply decide_eq_false; omega) | fail "open") ?_; conv => enter [1]; whnf))
                  cases pb
                  · cases er : hasB (nearA l) o f w G <;> rw [er] at hlr hpkr
                    · skip
                      conv => enter [1]; whnf
                      refine Ends.opt ((by first | exact l0' | exact l0 _)) ?_
                      conv => enter [1]; whnf
                      repeat (first
                        | (refine Ends.force ?_; conv => enter [1]; whnf)
                        | (refine Ends.forceN ?_; conv => enter [1]; whnf)
                        | (refine Ends.forceLs ?_; conv => enter [1]; whnf)
                        | (refine Ends.iteT (by first | with_reducible assumption | (simp [*]; done) | (apply decide_eq_true; omega) | fail "open") ?_; conv => enter [1]; whnf)
                        | (refine Ends.iteF (by first | with_reducible assumption | (simp [*]; done) | (apply decide_eq_false; omega) | fail "open") ?_; conv => enter [1]; whnf))
                      refine Ends.opt ((by first | exact l2' | exact l2 _)) ?_
                      conv => enter [1]; whnf
                      repeat (first
                        | (refine Ends.force ?_; conv => enter [1]; whnf)
                        | (refine Ends.forceN ?_; conv => enter [1]; whnf)
                        | (refine Ends.forceLs ?_; conv => enter [1]; whnf)
                        | (refine Ends.iteT (by first | with_reducible assumption | (simp [*]; done) | (apply decide_eq_true; omega) | fail "open") ?_; conv => enter [1]; whnf)
                        | (refine Ends.iteF (by first | with_reducible assumption | (simp [*]; done) | (apply decide_eq_false; omega) | fail "open") ?_; conv => enter [1]; whnf))
                      refine Ends.call (hlr) ?_
                      conv => enter [1]; whnf
                      repeat (first
                        | (refine Ends.force ?_; conv => enter [1]; whnf)
                        | (refine Ends.forceN ?_; conv => enter [1]; whnf)
                        | (refine Ends.forceLs ?_; conv => enter [1]; whnf)
                        | (refine Ends.iteT (by first | with_reducible assumption | (simp [*]; done) | (apply decide_eq_true; omega) | fail "open") ?_; conv => enter [1]; whnf)
                        | (refine Ends.iteF (by first | with_reducible assumption | (simp [*]; done) | (apply decide_eq_false; omega) | fail "open") ?_; conv => enter [1]; whnf))
                      refine hL3 _ ⟨r + 1, by omega, by omega, ?_, rfl⟩
                      rw [hpkr, ← e3]
                      rfl
                    · skip
                      conv => enter [1]; whnf
                      refine Ends.opt ((by first | exact l0' | exact l0 _)) ?_
                      conv => enter [1]; whnf
                      repeat (first
                        | (refine Ends.force ?_; conv => enter [1]; whnf)
                        | (refine Ends.forceN ?_; conv => enter [1]; whnf)
                        | (refine Ends.forceLs ?_; conv => enter [1]; whnf)
                        | (refine Ends.iteT (by first | with_reducible assumption | (simp [*]; done) | (apply decide_eq_true; omega) | fail "open") ?_; conv => enter [1]; whnf)
                        | (refine Ends.iteF (by first | with_reducible assumption | (simp [*]; done) | (apply decide_eq_false; omega) | fail "open") ?_; conv => enter [1]; whnf))
                      refine Ends.opt ((by first | exact l2' | exact l2 _)) ?_
                      conv => enter [1]; whnf
                      repeat (first
                        | (refine Ends.force ?_; conv => enter [1]; whnf)
                        | (refine Ends.forceN ?_; conv => enter [1]; whnf)
                        | (refine Ends.forceLs ?_; conv => enter [1]; whnf)
                        | (refine Ends.iteT (by first | with_reducible assumption | (simp [*]; done) | (apply decide_eq_true; omega) | fail "open") ?_; conv => enter [1]; whnf)
                        | (refine Ends.iteF (by first | with_reducible assumption | (simp [*]; done) | (apply decide_eq_false; omega) | fail "open") ?_; conv => enter [1]; whnf))
                      refine Ends.call (hlr) ?_
                      conv => enter [1]; whnf
                      repeat (first
                        | (refine Ends.force ?_; conv => enter [1]; whnf)
                        | (refine Ends.forceN ?_; conv => enter [1]; whnf)
                        | (refine Ends.forceLs ?_; conv => enter [1]; whnf)
                        | (refine Ends.iteT (by first | with_reducible assumption | (simp [*]; done) | (apply decide_eq_true; omega) | fail "open") ?_; conv => enter [1]; whnf)
                        | (refine Ends.iteF (by first | with_reducible assumption | (simp [*]; done) | (apply decide_eq_false; omega) | fail "open") ?_; conv => enter [1]; whnf))
                      refine hL3 _ ⟨r + 1, by omega, by omega, ?_, rfl⟩
                      rw [hpkr, ← e3]
                      rfl
                  · skip
                    conv => enter [1]; whnf
                    repeat (first
                      | (refine Ends.force ?_; conv => enter [1]; whnf)
                      | (refine Ends.forceN ?_; conv => enter [1]; whnf)
                      | (refine Ends.forceLs ?_; conv => enter [1]; whnf)
                      | (refine Ends.iteT (by first | with_reducible assumption | (simp [*]; done) | (apply decide_eq_true; omega) | fail "open") ?_; conv => enter [1]; whnf)
                      | (refine Ends.iteF (by first | with_reducible assumption | (simp [*]; done) | (apply decide_eq_false; omega) | fail "open") ?_; conv => enter [1]; whnf))
                    refine hL3 _ ⟨r + 1, by omega, by omega, ?_, rfl⟩
                    rw [hpkr, ← e3]
                    rfl
                · have hr4 : r = 4 := by omega
                  subst hr4
                  have hlt := pkS_lt (a := nearA l) (f := f) (w := w) (G := G) hu4 4
                  rw [hpk] at hpF
                  generalize hPr : pkS (nearA l) u f w G 4 = P at *
                  obtain ⟨pn, pb⟩ := P
                  have hpn : pn < 4 := hlt
                  have hp : _ = some (Val.tup [.int .i64 (pn : Int), .bool pb], H2) := hpF
                  conv => enter [1]; whnf
                  rw [hKK3]
                  conv => enter [1]; whnf
                  have hfr := frame_F mk K lo (by omega) (nearA l) pn hpn ⟨v.n, f, w, v.t, v.z, v.kn⟩ H2
                  replace hfr : _ = some (Val.tup [.int .i64 (if f = 1 ∧ (nearA l pn).1 = 2 then 2 else f), .int .i64 (if f = 1 ∧ (nearA l pn).1 = 2 then (nearA l pn).2 else w)], H2) := hfr
                  have hm3 : (IntKind.i64.wrap ((BitVec.ofInt IntKind.i64.bits (pn : Int) &&& BitVec.ofInt IntKind.i64.bits 3).toNat : Nat)) = (pn : Int) := by rw [and64_3]; omega
                  have ho0 : 0 + ((IntKind.i64.wrap ((BitVec.ofInt IntKind.i64.bits (pn : Int) &&& BitVec.ofInt IntKind.i64.bits 3).toNat : Nat)).toNat) * 2 + 0 = 2 * pn := by rw [hm3]; omega
                  have ho1 : 0 + ((IntKind.i64.wrap ((BitVec.ofInt IntKind.i64.bits (pn : Int) &&& BitVec.ofInt IntKind.i64.bits 3).toNat : Nat)).toNat) * 2 + 1 = 2 * pn + 1 := by rw [hm3]; omega

                  by_cases q2 : (nearA l pn).1 = 2
                  · rw [if_pos ⟨q1, q2⟩, if_pos ⟨q1, q2⟩] at hfr
                    refine Ends.opt ((by first | exact lN' | exact lN _)) ?_
                    conv => enter [1]; whnf
                    repeat (first
                      | (refine Ends.force ?_; conv => enter [1]; whnf)
                      | (refine Ends.forceN ?_; conv => enter [1]; whnf)
                      | (refine Ends.forceLs ?_; conv => enter [1]; whnf)
                      | (refine Ends.iteT (by first | with_reducible assumption | (simp [*]; done) | (apply decide_eq_true; omega) | fail "open") ?_; conv => enter [1]; whnf)
                      | (refine Ends.iteF (by first | with_reducible assumption | (simp [*]; done) | (apply decide_eq_false; omega) | fail "open") ?_; conv => enter [1]; whnf))
                    refine Ends.opt ((by first | exact l2' | exact l2 _)) ?_
                    conv => enter [1]; whnf
                    repeat (first
                      | (refine Ends.force ?_; conv => enter [1]; whnf)
                      | (refine Ends.forceN ?_; conv => enter [1]; whnf)
                      | (refine Ends.forceLs ?_; conv => enter [1]; whnf)
                      | (refine Ends.iteT (by first | with_reducible assumption | (simp [*]; done) | (apply decide_eq_true; omega) | fail "open") ?_; conv => enter [1]; whnf)
                      | (refine Ends.iteF (by first | with_reducible assumption | (simp [*]; done) | (apply decide_eq_false; omega) | fail "open") ?_; conv => enter [1]; whnf))
                    refine Ends.call (hp) ?_
                    conv => enter [1]; whnf
                    repeat (first
                      | (refine Ends.force ?_; conv => enter [1]; whnf)
                      | (refine Ends.forceN ?_; conv => enter [1]; whnf)
                      | (refine Ends.forceLs ?_; conv => enter [1]; whnf)
                      | (refine Ends.iteT (by first | with_reducible assumption | (simp [*]; done) | (apply decide_eq_true; omega) | fail "open") ?_; conv => enter [1]; whnf)
                      | (refine Ends.iteF (by first | with_reducible assumption | (simp [*]; done) | (apply decide_eq_false; omega) | fail "open") ?_; conv => enter [1]; whnf))
                    refine Ends.opt ((by first | exact lN' | exact lN _)) ?_
                    conv => enter [1]; whnf
                    repeat (first
                      | (refine Ends.force ?_; conv => enter [1]; whnf)
                      | (refine Ends.forceN ?_; conv => enter [1]; whnf)
                      | (refine Ends.forceLs ?_; conv => enter [1]; whnf)
                      | (refine Ends.iteT (by first | with_reducible assumption | (simp [*]; done) | (apply decide_eq_true; omega) | fail "open") ?_; conv => enter [1]; whnf)
                      | (refine Ends.iteF (by first | with_reducible assumption | (simp [*]; done) | (apply decide_eq_false; omega) | fail "open") ?_; conv => enter [1]; whnf))
                    refine Ends.opt ((by first | exact l2' | exact l2 _)) ?_
                    conv => enter [1]; whnf
                    repeat (first
                      | (refine Ends.force ?_; conv => enter [1]; whnf)
                      | (refine Ends.forceN ?_; conv => enter [1]; whnf)
                      | (refine Ends.forceLs ?_; conv => enter [1]; whnf)
                      | (refine Ends.iteT (by first | with_reducible assumption | (simp [*]; done) | (apply decide_eq_true; omega) | fail "open") ?_; conv => enter [1]; whnf)
                      | (refine Ends.iteF (by first | with_reducible assumption | (simp [*]; done) | (apply decide_eq_false; omega) | fail "open") ?_; conv => enter [1]; whnf))
                    refine Ends.call (hfr) ?_
                    conv => enter [1]; whnf
                    repeat (first
                      | (refine Ends.force ?_; conv => enter [1]; whnf)
                      | (refine Ends.forceN ?_; conv => enter [1]; whnf)
                      | (refine Ends.forceLs ?_; conv => enter [1]; whnf)
                      | (refine Ends.iteT (by first | with_reducible assumption | (simp [*]; done) | (apply decide_eq_true; omega) | fail "open") ?_; conv => enter [1]; whnf)
                      | (refine Ends.iteF (by first | with_reducible assumption | (simp [*]; done) | (apply decide_eq_false; omega) | fail "open") ?_; conv => enter [1]; whnf))
                    refine Ends.opt ((by first | exact l2' | exact l2 _)) ?_
                    conv => enter [1]; whnf
                    repeat (first
                      | (refine Ends.force ?_; conv => enter [1]; whnf)
                      | (refine Ends.forceN ?_; conv => enter [1]; whnf)
                      | (refine Ends.forceLs ?_; conv => enter [1]; whnf)
                      | (refine Ends.iteT (by first | with_reducible assumption | (simp [*]; done) | (apply decide_eq_true; omega) | fail "open") ?_; conv => enter [1]; whnf)
                      | (refine Ends.iteF (by first | with_reducible assumption | (simp [*]; done) | (apply decide_eq_false; omega) | fail "open") ?_; conv => enter [1]; whnf))
                    refine Ends.opt ((by first | exact l2' | exact l2 _)) ?_
                    conv => enter [1]; whnf
                    repeat (first
                      | (refine Ends.force ?_; conv => enter [1]; whnf)
                      | (refine Ends.forceN ?_; conv => enter [1]; whnf)
                      | (refine Ends.forceLs ?_; conv => enter [1]; whnf)
                      | (refine Ends.iteT (by first | with_reducible assumption | (simp [*]; done) | (apply decide_eq_true; omega) | fail "open") ?_; conv => enter [1]; whnf)
                      | (refine Ends.iteF (by first | with_reducible assumption | (simp [*]; done) | (apply decide_eq_false; omega) | fail "open") ?_; conv => enter [1]; whnf))
                    refine Ends.opt ((by first | exact l2' | exact l2 _)) ?_
                    conv => enter [1]; whnf
                    repeat (first
                      | (refine Ends.force ?_; conv => enter [1]; whnf)
                      | (refine Ends.forceN ?_; conv => enter [1]; whnf)
                      | (refine Ends.forceLs ?_; conv => enter [1]; whnf)
                      | (refine Ends.iteT (by first | with_reducible assumption | (simp [*]; done) | (apply decide_eq_true; omega) | fail "open") ?_; conv => enter [1]; whnf)
                      | (refine Ends.iteF (by first | with_reducible assumption | (simp [*]; done) | (apply decide_eq_false; omega) | fail "open") ?_; conv => enter [1]; whnf))
                    refine Ends.opt ((by first | exact lN' | exact lN _)) ?_
                    conv => enter [1]; whnf
                    refine Ends.opt (partAs0 hpn ho0) ?_
                    conv => enter [1]; whnf
                    repeat (first
                      | (refine Ends.force ?_; conv => enter [1]; whnf)
                      | (refine Ends.forceN ?_; conv => enter [1]; whnf)
                      | (refine Ends.forceLs ?_; conv => enter [1]; whnf)
                      | (refine Ends.iteT (by first | with_reducible assumption | (simp [*]; done) | (apply decide_eq_true; omega) | fail "open") ?_; conv => enter [1]; whnf)
                      | (refine Ends.iteF (by first | with_reducible assumption | (simp [*]; done) | (apply decide_eq_false; omega) | fail "open") ?_; conv => enter [1]; whnf))
                    refine Ends.opt ((by first | exact lN' | exact lN _)) ?_
                    conv => enter [1]; whnf
                    refine Ends.opt (partAs1 hpn ho1) ?_
                    conv => enter [1]; whnf
                    repeat (first
                      | (refine Ends.force ?_; conv => enter [1]; whnf)
                      | (refine Ends.forceN ?_; conv => enter [1]; whnf)
                      | (refine Ends.forceLs ?_; conv => enter [1]; whnf)
                      | (refine Ends.iteT (by first | with_reducible assumption | (simp [*]; done) | (apply decide_eq_true; omega) | fail "open") ?_; conv => enter [1]; whnf)
                      | (refine Ends.iteF (by first | with_reducible assumption | (simp [*]; done) | (apply decide_eq_false; omega) | fail "open") ?_; conv => enter [1]; whnf))
                    refine Ends.call (awake33_F mk K lo (by omega) H2) ?_
                    conv => enter [1]; whnf
                    repeat (first
                      | (refine Ends.force ?_; conv => enter [1]; whnf)
                      | (refine Ends.forceN ?_; conv => enter [1]; whnf)
                      | (refine Ends.forceLs ?_; conv => enter [1]; whnf)
                      | (refine Ends.iteT (by first | with_reducible assumption | (simp [*]; done) | (apply decide_eq_true; omega) | fail "open") ?_; conv => enter [1]; whnf)
                      | (refine Ends.iteF (by first | with_reducible assumption | (simp [*]; done) | (apply decide_eq_false; omega) | fail "open") ?_; conv => enter [1]; whnf))
                    refine Ends.some' ?_
                    simp
                  · rw [if_neg (fun z => q2 z.2), if_neg (fun z => q2 z.2)] at hfr
                    refine Ends.opt ((by first | exact lN' | exact lN _)) ?_
                    conv => enter [1]; whnf
                    repeat (first
                      | (refine Ends.force ?_; conv => enter [1]; whnf)
                      | (refine Ends.forceN ?_; conv => enter [1]; whnf)
                      | (refine Ends.forceLs ?_; conv => enter [1]; whnf)
                      | (refine Ends.iteT (by first | with_reducible assumption | (simp [*]; done) | (apply decide_eq_true; omega) | fail "open") ?_; conv => enter [1]; whnf)
                      | (refine Ends.iteF (by first | with_reducible assumption | (simp [*]; done) | (apply decide_eq_false; omega) | fail "open") ?_; conv => enter [1]; whnf))
                    refine Ends.opt ((by first | exact l2' | exact l2 _)) ?_
                    conv => enter [1]; whnf
                    repeat (first
                      | (refine Ends.force ?_; conv => enter [1]; whnf)
                      | (refine Ends.forceN ?_; conv => enter [1]; whnf)
                      | (refine Ends.forceLs ?_; conv => enter [1]; whnf)
                      | (refine Ends.iteT (by first | with_reducible assumption | (simp [*]; done) | (apply decide_eq_true; omega) | fail "open") ?_; conv => enter [1]; whnf)
                      | (refine Ends.iteF (by first | with_reducible assumption | (simp [*]; done) | (apply decide_eq_false; omega) | fail "open") ?_; conv => enter [1]; whnf))
                    refine Ends.call (hp) ?_
                    conv => enter [1]; whnf
                    repeat (first
                      | (refine Ends.force ?_; conv => enter [1]; whnf)
                      | (refine Ends.forceN ?_; conv => enter [1]; whnf)
                      | (refine Ends.forceLs ?_; conv => enter [1]; whnf)
                      | (refine Ends.iteT (by first | with_reducible assumption | (simp [*]; done) | (apply decide_eq_true; omega) | fail "open") ?_; conv => enter [1]; whnf)
                      | (refine Ends.iteF (by first | with_reducible assumption | (simp [*]; done) | (apply decide_eq_false; omega) | fail "open") ?_; conv => enter [1]; whnf))
                    refine Ends.opt ((by first | exact lN' | exact lN _)) ?_
                    conv => enter [1]; whnf
                    repeat (first
                      | (refine Ends.force ?_; conv => enter [1]; whnf)
                      | (refine Ends.forceN ?_; conv => enter [1]; whnf)
                      | (refine Ends.forceLs ?_; conv => enter [1]; whnf)
                      | (refine Ends.iteT (by first | with_reducible assumption | (simp [*]; done) | (apply decide_eq_true; omega) | fail "open") ?_; conv => enter [1]; whnf)
                      | (refine Ends.iteF (by first | with_reducible assumption | (simp [*]; done) | (apply decide_eq_false; omega) | fail "open") ?_; conv => enter [1]; whnf))
                    refine Ends.opt ((by first | exact l2' | exact l2 _)) ?_
                    conv => enter [1]; whnf
                    repeat (first
                      | (refine Ends.force ?_; conv => enter [1]; whnf)
                      | (refine Ends.forceN ?_; conv => enter [1]; whnf)
                      | (refine Ends.forceLs ?_; conv => enter [1]; whnf)
                      | (refine Ends.iteT (by first | with_reducible assumption | (simp [*]; done) | (apply decide_eq_true; omega) | fail "open") ?_; conv => enter [1]; whnf)
                      | (refine Ends.iteF (by first | with_reducible assumption | (simp [*]; done) | (apply decide_eq_false; omega) | fail "open") ?_; conv => enter [1]; whnf))
                    refine Ends.call (hfr) ?_
                    conv => enter [1]; whnf
                    repeat (first
                      | (refine Ends.force ?_; conv => enter [1]; whnf)
                      | (refine Ends.forceN ?_; conv => enter [1]; whnf)
                      | (refine Ends.forceLs ?_; conv => enter [1]; whnf)
                      | (refine Ends.iteT (by first | with_reducible assumption | (simp [*]; done) | (apply decide_eq_true; omega) | fail "open") ?_; conv => enter [1]; whnf)
                      | (refine Ends.iteF (by first | with_reducible assumption | (simp [*]; done) | (apply decide_eq_false; omega) | fail "open") ?_; conv => enter [1]; whnf))
                    refine Ends.opt ((by first | exact l2' | exact l2 _)) ?_
                    conv => enter [1]; whnf
                    repeat (first
                      | (refine Ends.force ?_; conv => enter [1]; whnf)
                      | (refine Ends.forceN ?_; conv => enter [1]; whnf)
                      | (refine Ends.forceLs ?_; conv => enter [1]; whnf)
                      | (refine Ends.iteT (by first | with_reducible assumption | (simp [*]; done) | (apply decide_eq_true; omega) | fail "open") ?_; conv => enter [1]; whnf)
                      | (refine Ends.iteF (by first | with_reducible assumption | (simp [*]; done) | (apply decide_eq_false; omega) | fail "open") ?_; conv => enter [1]; whnf))
                    refine Ends.opt ((by first | exact l2' | exact l2 _)) ?_
                    conv => enter [1]; whnf
                    repeat (first
                      | (refine Ends.force ?_; conv => enter [1]; whnf)
                      | (refine Ends.forceN ?_; conv => enter [1]; whnf)
                      | (refine Ends.forceLs ?_; conv => enter [1]; whnf)
                      | (refine Ends.iteT (by first | with_reducible assumption | (simp [*]; done) | (apply decide_eq_true; omega) | fail "open") ?_; conv => enter [1]; whnf)
                      | (refine Ends.iteF (by first | with_reducible assumption | (simp [*]; done) | (apply decide_eq_false; omega) | fail "open") ?_; conv => enter [1]; whnf))
                    refine Ends.opt ((by first | exact l2' | exact l2 _)) ?_
                    conv => enter [1]; whnf
                    repeat (first
                      | (refine Ends.force ?_; conv => enter [1]; whnf)
                      | (refine Ends.forceN ?_; conv => enter [1]; whnf)
                      | (refine Ends.forceLs ?_; conv => enter [1]; whnf)
                      | (refine Ends.iteT (by first | with_reducible assumption | (simp [*]; done) | (apply decide_eq_true; omega) | fail "open") ?_; conv => enter [1]; whnf)
                      | (refine Ends.iteF (by first | with_reducible assumption | (simp [*]; done) | (apply decide_eq_false; omega) | fail "open") ?_; conv => enter [1]; whnf))
                    refine Ends.opt ((by first | exact lN' | exact lN _)) ?_
                    conv => enter [1]; whnf
                    refine Ends.opt (partAs0 hpn ho0) ?_
                    conv => enter [1]; whnf
                    repeat (first
                      | (refine Ends.force ?_; conv => enter [1]; whnf)
                      | (refine Ends.forceN ?_; conv => enter [1]; whnf)
                      | (refine Ends.forceLs ?_; conv => enter [1]; whnf)
                      | (refine Ends.iteT (by first | with_reducible assumption | (simp [*]; done) | (apply decide_eq_true; omega) | fail "open") ?_; conv => enter [1]; whnf)
                      | (refine Ends.iteF (by first | with_reducible assumption | (simp [*]; done) | (apply decide_eq_false; omega) | fail "open") ?_; conv => enter [1]; whnf))
                    refine Ends.call (awake33_F mk K lo (by omega) H2) ?_
                    conv => enter [1]; whnf
                    repeat (first
                      | (refine Ends.force ?_; conv => enter [1]; whnf)
                      | (refine Ends.forceN ?_; conv => enter [1]; whnf)
                      | (refine Ends.forceLs ?_; conv => enter [1]; whnf)
                      | (refine Ends.iteT (by first | with_reducible assumption | (simp [*]; done) | (apply decide_eq_true; omega) | fail "open") ?_; conv => enter [1]; whnf)
                      | (refine Ends.iteF (by first | with_reducible assumption | (simp [*]; done) | (apply decide_eq_false; omega) | fail "open") ?_; conv => enter [1]; whnf))
                    refine Ends.some' ?_
                    simp
              · have hpk : pickP (nearA l) u f w G = (u, true) := by unfold pickP; rw [if_pos (Or.inr (Or.inr eu))]
                rw [hpk] at hpF
                have hp : _ = some (Val.tup [.int .i64 (u : Int), .bool true], H2) := hpF
                have hpn : u < 4 := hu4
                conv => enter [1]; whnf
                refine Ends.opt ((by first | exact l2' | exact l2 _)) ?_
                conv => enter [1]; whnf
                repeat (first
                  | (refine Ends.force ?_; conv => enter [1]; whnf)
                  | (refine Ends.forceN ?_; conv => enter [1]; whnf)
                  | (refine Ends.forceLs ?_; conv => enter [1]; whnf)
                  | (refine Ends.iteT (by first | with_reducible assumption | (simp [*]; done) | (apply decide_eq_true; omega) | fail "open") ?_; conv => enter [1]; whnf)
                  | (refine Ends.iteF (by first | with_reducible assumption | (simp [*]; done) | (apply decide_eq_false; omega) | fail "open") ?_; conv => enter [1]; whnf))
                refine Ends.opt ((by first | exact l0' | exact l0 _)) ?_
                conv => enter [1]; whnf
                repeat (first
                  | (refine Ends.force ?_; conv => enter [1]; whnf)
                  | (refine Ends.forceN ?_; conv => enter [1]; whnf)
                  | (refine Ends.forceLs ?_; conv => enter [1]; whnf)
                  | (refine Ends.iteT (by first | with_reducible assumption | (simp [*]; done) | (apply decide_eq_true; omega) | fail "open") ?_; conv => enter [1]; whnf)
                  | (refine Ends.iteF (by first | with_reducible assumption | (simp [*]; done) | (apply decide_eq_false; omega) | fail "open") ?_; conv => enter [1]; whnf))
                refine Ends.opt ((by first | exact l2' | exact l2 _)) ?_
                conv => enter [1]; whnf
                repeat (first
                  | (refine Ends.force ?_; conv => enter [1]; whnf)
                  | (refine Ends.forceN ?_; conv => enter [1]; whnf)
                  | (refine Ends.forceLs ?_; conv => enter [1]; whnf)
                  | (refine Ends.iteT (by first | with_reducible assumption | (simp [*]; done) | (apply decide_eq_true; omega) | fail "open") ?_; conv => enter [1]; whnf)
                  | (refine Ends.iteF (by first | with_reducible assumption | (simp [*]; done) | (apply decide_eq_false; omega) | fail "open") ?_; conv => enter [1]; whnf))
                refine Ends.call (hlu) ?_
                conv => enter [1]; whnf
                repeat (first
                  | (refine Ends.force ?_; conv => enter [1]; whnf)
                  | (refine Ends.forceN ?_; conv => enter [1]; whnf)
                  | (refine Ends.forceLs ?_; conv => enter [1]; whnf)
                  | (refine Ends.iteT (by first | with_reducible assumption | (simp [*]; done) | (apply decide_eq_true; omega) | fail "open") ?_; conv => enter [1]; whnf)
                  | (refine Ends.iteF (by first | with_reducible assumption | (simp [*]; done) | (apply decide_eq_false; omega) | fail "open") ?_; conv => enter [1]; whnf))
                have hfr := frame_F mk K lo (by omega) (nearA l) u hpn ⟨v.n, f, w, v.t, v.z, v.kn⟩ H2
                replace hfr : _ = some (Val.tup [.int .i64 (if f = 1 ∧ (nearA l u).1 = 2 then 2 else f), .int .i64 (if f = 1 ∧ (nearA l u).1 = 2 then (nearA l u).2 else w)], H2) := hfr
                have hm3 : (IntKind.i64.wrap ((BitVec.ofInt IntKind.i64.bits (u : Int) &&& BitVec.ofInt IntKind.i64.bits 3).toNat : Nat)) = (u : Int) := by rw [and64_3]; omega
                have ho0 : 0 + ((IntKind.i64.wrap ((BitVec.ofInt IntKind.i64.bits (u : Int) &&& BitVec.ofInt IntKind.i64.bits 3).toNat : Nat)).toNat) * 2 + 0 = 2 * u := by rw [hm3]; omega
                have ho1 : 0 + ((IntKind.i64.wrap ((BitVec.ofInt IntKind.i64.bits (u : Int) &&& BitVec.ofInt IntKind.i64.bits 3).toNat : Nat)).toNat) * 2 + 1 = 2 * u + 1 := by rw [hm3]; omega

                by_cases q2 : (nearA l u).1 = 2
                · rw [if_pos ⟨q1, q2⟩, if_pos ⟨q1, q2⟩] at hfr
                  refine Ends.opt ((by first | exact lN' | exact lN _)) ?_
                  conv => enter [1]; whnf
                  repeat (first
                    | (refine Ends.force ?_; conv => enter [1]; whnf)
                    | (refine Ends.forceN ?_; conv => enter [1]; whnf)
                    | (refine Ends.forceLs ?_; conv => enter [1]; whnf)
                    | (refine Ends.iteT (by first | with_reducible assumption | (simp [*]; done) | (apply decide_eq_true; omega) | fail "open") ?_; conv => enter [1]; whnf)
                    | (refine Ends.iteF (by first | with_reducible assumption | (simp [*]; done) | (apply decide_eq_false; omega) | fail "open") ?_; conv => enter [1]; whnf))
                  refine Ends.opt ((by first | exact l2' | exact l2 _)) ?_
                  conv => enter [1]; whnf
                  repeat (first
                    | (refine Ends.force ?_; conv => enter [1]; whnf)
                    | (refine Ends.forceN ?_; conv => enter [1]; whnf)
                    | (refine Ends.forceLs ?_; conv => enter [1]; whnf)
                    | (refine Ends.iteT (by first | with_reducible assumption | (simp [*]; done) | (apply decide_eq_true; omega) | fail "open") ?_; conv => enter [1]; whnf)
                    | (refine Ends.iteF (by first | with_reducible assumption | (simp [*]; done) | (apply decide_eq_false; omega) | fail "open") ?_; conv => enter [1]; whnf))
                  refine Ends.call (hp) ?_
                  conv => enter [1]; whnf
                  repeat (first
                    | (refine Ends.force ?_; conv => enter [1]; whnf)
                    | (refine Ends.forceN ?_; conv => enter [1]; whnf)
                    | (refine Ends.forceLs ?_; conv => enter [1]; whnf)
                    | (refine Ends.iteT (by first | with_reducible assumption | (simp [*]; done) | (apply decide_eq_true; omega) | fail "open") ?_; conv => enter [1]; whnf)
                    | (refine Ends.iteF (by first | with_reducible assumption | (simp [*]; done) | (apply decide_eq_false; omega) | fail "open") ?_; conv => enter [1]; whnf))
                  refine Ends.opt ((by first | exact lN' | exact lN _)) ?_
                  conv => enter [1]; whnf
                  repeat (first
                    | (refine Ends.force ?_; conv => enter [1]; whnf)
                    | (refine Ends.forceN ?_; conv => enter [1]; whnf)
                    | (refine Ends.forceLs ?_; conv => enter [1]; whnf)
                    | (refine Ends.iteT (by first | with_reducible assumption | (simp [*]; done) | (apply decide_eq_true; omega) | fail "open") ?_; conv => enter [1]; whnf)
                    | (refine Ends.iteF (by first | with_reducible assumption | (simp [*]; done) | (apply decide_eq_false; omega) | fail "open") ?_; conv => enter [1]; whnf))
                  refine Ends.opt ((by first | exact l2' | exact l2 _)) ?_
                  conv => enter [1]; whnf
                  repeat (first
                    | (refine Ends.force ?_; conv => enter [1]; whnf)
                    | (refine Ends.forceN ?_; conv => enter [1]; whnf)
                    | (refine Ends.forceLs ?_; conv => enter [1]; whnf)
                    | (refine Ends.iteT (by first | with_reducible assumption | (simp [*]; done) | (apply decide_eq_true; omega) | fail "open") ?_; conv => enter [1]; whnf)
                    | (refine Ends.iteF (by first | with_reducible assumption | (simp [*]; done) | (apply decide_eq_false; omega) | fail "open") ?_; conv => enter [1]; whnf))
                  refine Ends.call (hfr) ?_
                  conv => enter [1]; whnf
                  repeat (first
                    | (refine Ends.force ?_; conv => enter [1]; whnf)
                    | (refine Ends.forceN ?_; conv => enter [1]; whnf)
                    | (refine Ends.forceLs ?_; conv => enter [1]; whnf)
                    | (refine Ends.iteT (by first | with_reducible assumption | (simp [*]; done) | (apply decide_eq_true; omega) | fail "open") ?_; conv => enter [1]; whnf)
                    | (refine Ends.iteF (by first | with_reducible assumption | (simp [*]; done) | (apply decide_eq_false; omega) | fail "open") ?_; conv => enter [1]; whnf))
                  refine Ends.opt ((by first | exact l2' | exact l2 _)) ?_
                  conv => enter [1]; whnf
                  repeat (first
                    | (refine Ends.force ?_; conv => enter [1]; whnf)
                    | (refine Ends.forceN ?_; conv => enter [1]; whnf)
                    | (refine Ends.forceLs ?_; conv => enter [1]; whnf)
                    | (refine Ends.iteT (by first | with_reducible assumption | (simp [*]; done) | (apply decide_eq_true; omega) | fail "open") ?_; conv => enter [1]; whnf)
                    | (refine Ends.iteF (by first | with_reducible assumption | (simp [*]; done) | (apply decide_eq_false; omega) | fail "open") ?_; conv => enter [1]; whnf))
                  refine Ends.opt ((by first | exact l2' | exact l2 _)) ?_
                  conv => enter [1]; whnf
                  repeat (first
                    | (refine Ends.force ?_; conv => enter [1]; whnf)
                    | (refine Ends.forceN ?_; conv => enter [1]; whnf)
                    | (refine Ends.forceLs ?_; conv => enter [1]; whnf)
                    | (refine Ends.iteT (by first | with_reducible assumption | (simp [*]; done) | (apply decide_eq_true; omega) | fail "open") ?_; conv => enter [1]; whnf)
                    | (refine Ends.iteF (by first | with_reducible assumption | (simp [*]; done) | (apply decide_eq_false; omega) | fail "open") ?_; conv => enter [1]; whnf))
                  refine Ends.opt ((by first | exact l2' | exact l2 _)) ?_
                  conv => enter [1]; whnf
                  repeat (first
                    | (refine Ends.force ?_; conv => enter [1]; whnf)
                    | (refine Ends.forceN ?_; conv => enter [1]; whnf)
                    | (refine Ends.forceLs ?_; conv => enter [1]; whnf)
                    | (refine Ends.iteT (by first | with_reducible assumption | (simp [*]; done) | (apply decide_eq_true; omega) | fail "open") ?_; conv => enter [1]; whnf)
                    | (refine Ends.iteF (by first | with_reducible assumption | (simp [*]; done) | (apply decide_eq_false; omega) | fail "open") ?_; conv => enter [1]; whnf))
                  refine Ends.opt ((by first | exact lN' | exact lN _)) ?_
                  conv => enter [1]; whnf
                  refine Ends.opt (partAs0 hpn ho0) ?_
                  conv => enter [1]; whnf
                  repeat (first
                    | (refine Ends.force ?_; conv => enter [1]; whnf)
                    | (refine Ends.forceN ?_; conv => enter [1]; whnf)
                    | (refine Ends.forceLs ?_; conv => enter [1]; whnf)
                    | (refine Ends.iteT (by first | with_reducible assumption | (simp [*]; done) | (apply decide_eq_true; omega) | fail "open") ?_; conv => enter [1]; whnf)
                    | (refine Ends.iteF (by first | with_reducible assumption | (simp [*]; done) | (apply decide_eq_false; omega) | fail "open") ?_; conv => enter [1]; whnf))
                  refine Ends.opt ((by first | exact lN' | exact lN _)) ?_
                  conv => enter [1]; whnf
                  refine Ends.opt (partAs1 hpn ho1) ?_
                  conv => enter [1]; whnf
                  repeat (first
                    | (refine Ends.force ?_; conv => enter [1]; whnf)
                    | (refine Ends.forceN ?_; conv => enter [1]; whnf)
                    | (refine Ends.forceLs ?_; conv => enter [1]; whnf)
                    | (refine Ends.iteT (by first | with_reducible assumption | (simp [*]; done) | (apply decide_eq_true; omega) | fail "open") ?_; conv => enter [1]; whnf)
                    | (refine Ends.iteF (by first | with_reducible assumption | (simp [*]; done) | (apply decide_eq_false; omega) | fail "open") ?_; conv => enter [1]; whnf))
                  refine Ends.call (awake33_F mk K lo (by omega) H2) ?_
                  conv => enter [1]; whnf
                  repeat (first
                    | (refine Ends.force ?_; conv => enter [1]; whnf)
                    | (refine Ends.forceN ?_; conv => enter [1]; whnf)
                    | (refine Ends.forceLs ?_; conv => enter [1]; whnf)
                    | (refine Ends.iteT (by first | with_reducible assumption | (simp [*]; done) | (apply decide_eq_true; omega) | fail "open") ?_; conv => enter [1]; whnf)
                    | (refine Ends.iteF (by first | with_reducible assumption | (simp [*]; done) | (apply decide_eq_false; omega) | fail "open") ?_; conv => enter [1]; whnf))
                  refine Ends.some' ?_
                  simp
                · rw [if_neg (fun z => q2 z.2), if_neg (fun z => q2 z.2)] at hfr
                  refine Ends.opt ((by first | exact lN' | exact lN _)) ?_
                  conv => enter [1]; whnf
                  repeat (first
                    | (refine Ends.force ?_; conv => enter [1]; whnf)
                    | (refine Ends.forceN ?_; conv => enter [1]; whnf)
                    | (refine Ends.forceLs ?_; conv => enter [1]; whnf)
                    | (refine Ends.iteT (by first | with_reducible assumption | (simp [*]; done) | (apply decide_eq_true; omega) | fail "open") ?_; conv => enter [1]; whnf)
                    | (refine Ends.iteF (by first | with_reducible assumption | (simp [*]; done) | (apply decide_eq_false; omega) | fail "open") ?_; conv => enter [1]; whnf))
                  refine Ends.opt ((by first | exact l2' | exact l2 _)) ?_
                  conv => enter [1]; whnf
                  repeat (first
                    | (refine Ends.force ?_; conv => enter [1]; whnf)
                    | (refine Ends.forceN ?_; conv => enter [1]; whnf)
                    | (refine Ends.forceLs ?_; conv => enter [1]; whnf)
                    | (refine Ends.iteT (by first | with_reducible assumption | (simp [*]; done) | (apply decide_eq_true; omega) | fail "open") ?_; conv => enter [1]; whnf)
                    | (refine Ends.iteF (by first | with_reducible assumption | (simp [*]; done) | (apply decide_eq_false; omega) | fail "open") ?_; conv => enter [1]; whnf))
                  refine Ends.call (hp) ?_
                  conv => enter [1]; whnf
                  repeat (first
                    | (refine Ends.force ?_; conv => enter [1]; whnf)
                    | (refine Ends.forceN ?_; conv => enter [1]; whnf)
                    | (refine Ends.forceLs ?_; conv => enter [1]; whnf)
                    | (refine Ends.iteT (by first | with_reducible assumption | (simp [*]; done) | (apply decide_eq_true; omega) | fail "open") ?_; conv => enter [1]; whnf)
                    | (refine Ends.iteF (by first | with_reducible assumption | (simp [*]; done) | (apply decide_eq_false; omega) | fail "open") ?_; conv => enter [1]; whnf))
                  refine Ends.opt ((by first | exact lN' | exact lN _)) ?_
                  conv => enter [1]; whnf
                  repeat (first
                    | (refine Ends.force ?_; conv => enter [1]; whnf)
                    | (refine Ends.forceN ?_; conv => enter [1]; whnf)
                    | (refine Ends.forceLs ?_; conv => enter [1]; whnf)
                    | (refine Ends.iteT (by first | with_reducible assumption | (simp [*]; done) | (apply decide_eq_true; omega) | fail "open") ?_; conv => enter [1]; whnf)
                    | (refine Ends.iteF (by first | with_reducible assumption | (simp [*]; done) | (apply decide_eq_false; omega) | fail "open") ?_; conv => enter [1]; whnf))
                  refine Ends.opt ((by first | exact l2' | exact l2 _)) ?_
                  conv => enter [1]; whnf
                  repeat (first
                    | (refine Ends.force ?_; conv => enter [1]; whnf)
                    | (refine Ends.forceN ?_; conv => enter [1]; whnf)
                    | (refine Ends.forceLs ?_; conv => enter [1]; whnf)
                    | (refine Ends.iteT (by first | with_reducible assumption | (simp [*]; done) | (apply decide_eq_true; omega) | fail "open") ?_; conv => enter [1]; whnf)
                    | (refine Ends.iteF (by first | with_reducible assumption | (simp [*]; done) | (apply decide_eq_false; omega) | fail "open") ?_; conv => enter [1]; whnf))
                  refine Ends.call (hfr) ?_
                  conv => enter [1]; whnf
                  repeat (first
                    | (refine Ends.force ?_; conv => enter [1]; whnf)
                    | (refine Ends.forceN ?_; conv => enter [1]; whnf)
                    | (refine Ends.forceLs ?_; conv => enter [1]; whnf)
                    | (refine Ends.iteT (by first | with_reducible assumption | (simp [*]; done) | (apply decide_eq_true; omega) | fail "open") ?_; conv => enter [1]; whnf)
                    | (refine Ends.iteF (by first | with_reducible assumption | (simp [*]; done) | (apply decide_eq_false; omega) | fail "open") ?_; conv => enter [1]; whnf))
                  refine Ends.opt ((by first | exact l2' | exact l2 _)) ?_
                  conv => enter [1]; whnf
                  repeat (first
                    | (refine Ends.force ?_; conv => enter [1]; whnf)
                    | (refine Ends.forceN ?_; conv => enter [1]; whnf)
                    | (refine Ends.forceLs ?_; conv => enter [1]; whnf)
                    | (refine Ends.iteT (by first | with_reducible assumption | (simp [*]; done) | (apply decide_eq_true; omega) | fail "open") ?_; conv => enter [1]; whnf)
                    | (refine Ends.iteF (by first | with_reducible assumption | (simp [*]; done) | (apply decide_eq_false; omega) | fail "open") ?_; conv => enter [1]; whnf))
                  refine Ends.opt ((by first | exact l2' | exact l2 _)) ?_
                  conv => enter [1]; whnf
                  repeat (first
                    | (refine Ends.force ?_; conv => enter [1]; whnf)
                    | (refine Ends.forceN ?_; conv => enter [1]; whnf)
                    | (refine Ends.forceLs ?_; conv => enter [1]; whnf)
                    | (refine Ends.iteT (by first | with_reducible assumption | (simp [*]; done) | (apply decide_eq_true; omega) | fail "open") ?_; conv => enter [1]; whnf)
                    | (refine Ends.iteF (by first | with_reducible assumption | (simp [*]; done) | (apply decide_eq_false; omega) | fail "open") ?_; conv => enter [1]; whnf))
                  refine Ends.opt ((by first | exact l2' | exact l2 _)) ?_
                  conv => enter [1]; whnf
                  repeat (first
                    | (refine Ends.force ?_; conv => enter [1]; whnf)
                    | (refine Ends.forceN ?_; conv => enter [1]; whnf)
                    | (refine Ends.forceLs ?_; conv => enter [1]; whnf)
                    | (refine Ends.iteT (by first | with_reducible assumption | (simp [*]; done) | (apply decide_eq_true; omega) | fail "open") ?_; conv => enter [1]; whnf)
                    | (refine Ends.iteF (by first | with_reducible assumption | (simp [*]; done) | (apply decide_eq_false; omega) | fail "open") ?_; conv => enter [1]; whnf))
                  refine Ends.opt ((by first | exact lN' | exact lN _)) ?_
                  conv => enter [1]; whnf
                  refine Ends.opt (partAs0 hpn ho0) ?_
                  conv => enter [1]; whnf
                  repeat (first
                    | (refine Ends.force ?_; conv => enter [1]; whnf)
                    | (refine Ends.forceN ?_; conv => enter [1]; whnf)
                    | (refine Ends.forceLs ?_; conv => enter [1]; whnf)
                    | (refine Ends.iteT (by first | with_reducible assumption | (simp [*]; done) | (apply decide_eq_true; omega) | fail "open") ?_; conv => enter [1]; whnf)
                    | (refine Ends.iteF (by first | with_reducible assumption | (simp [*]; done) | (apply decide_eq_false; omega) | fail "open") ?_; conv => enter [1]; whnf))
                  refine Ends.call (awake33_F mk K lo (by omega) H2) ?_
                  conv => enter [1]; whnf
                  repeat (first
                    | (refine Ends.force ?_; conv => enter [1]; whnf)
                    | (refine Ends.forceN ?_; conv => enter [1]; whnf)
                    | (refine Ends.forceLs ?_; conv => enter [1]; whnf)
                    | (refine Ends.iteT (by first | with_reducible assumption | (simp [*]; done) | (apply decide_eq_true; omega) | fail "open") ?_; conv => enter [1]; whnf)
                    | (refine Ends.iteF (by first | with_reducible assumption | (simp [*]; done) | (apply decide_eq_false; omega) | fail "open") ?_; conv => enter [1]; whnf))
                  refine Ends.some' ?_
                  simp
            · skip
              have fN0 : ¬ f = 0 := by omega
              have fN3 : ¬ f = 3 := by omega
              have q2f : f = 2 := cf
              have q1 : ¬ f = 1 := by omega
              clear cf fb
              cases eu : hasB (nearA l) u f w G <;> rw [eu] at hlu
              · have hpk := pkS_4 (a := nearA l) (u := u) (f := f) (w := w) (G := G) fN0 fN3 eu
                conv => enter [1]; whnf
                refine Ends.opt ((by first | exact l2' | exact l2 _)) ?_
                conv => enter [1]; whnf
                repeat (first
                  | (refine Ends.force ?_; conv => enter [1]; whnf)
                  | (refine Ends.forceN ?_; conv => enter [1]; whnf)
                  | (refine Ends.forceLs ?_; conv => enter [1]; whnf)
                  | (refine Ends.iteT (by first | with_reducible assumption | (simp [*]; done) | (apply decide_eq_true; omega) | fail "open") ?_; conv => enter [1]; whnf)
                  | (refine Ends.iteF (by first | with_reducible assumption | (simp [*]; done) | (apply decide_eq_false; omega) | fail "open") ?_; conv => enter [1]; whnf))
                refine Ends.opt ((by first | exact l2' | exact l2 _)) ?_
                conv => enter [1]; whnf
                repeat (first
                  | (refine Ends.force ?_; conv => enter [1]; whnf)
                  | (refine Ends.forceN ?_; conv => enter [1]; whnf)
                  | (refine Ends.forceLs ?_; conv => enter [1]; whnf)
                  | (refine Ends.iteT (by first | with_reducible assumption | (simp [*]; done) | (apply decide_eq_true; omega) | fail "open") ?_; conv => enter [1]; whnf)
                  | (refine Ends.iteF (by first | with_reducible assumption | (simp [*]; done) | (apply decide_eq_false; omega) | fail "open") ?_; conv => enter [1]; whnf))
                refine Ends.opt ((by first | exact l0' | exact l0 _)) ?_
                conv => enter [1]; whnf
                repeat (first
                  | (refine Ends.force ?_; conv => enter [1]; whnf)
                  | (refine Ends.forceN ?_; conv => enter [1]; whnf)
                  | (refine Ends.forceLs ?_; conv => enter [1]; whnf)
                  | (refine Ends.iteT (by first | with_reducible assumption | (simp [*]; done) | (apply decide_eq_true; omega) | fail "open") ?_; conv => enter [1]; whnf)
                  | (refine Ends.iteF (by first | with_reducible assumption | (simp [*]; done) | (apply decide_eq_false; omega) | fail "open") ?_; conv => enter [1]; whnf))
                refine Ends.opt ((by first | exact l2' | exact l2 _)) ?_
                conv => enter [1]; whnf
                repeat (first
                  | (refine Ends.force ?_; conv => enter [1]; whnf)
                  | (refine Ends.forceN ?_; conv => enter [1]; whnf)
                  | (refine Ends.forceLs ?_; conv => enter [1]; whnf)
                  | (refine Ends.iteT (by first | with_reducible assumption | (simp [*]; done) | (apply decide_eq_true; omega) | fail "open") ?_; conv => enter [1]; whnf)
                  | (refine Ends.iteF (by first | with_reducible assumption | (simp [*]; done) | (apply decide_eq_false; omega) | fail "open") ?_; conv => enter [1]; whnf))
                refine Ends.call (hlu) ?_
                conv => enter [1]; whnf
                repeat (first
                  | (refine Ends.force ?_; conv => enter [1]; whnf)
                  | (refine Ends.forceN ?_; conv => enter [1]; whnf)
                  | (refine Ends.forceLs ?_; conv => enter [1]; whnf)
                  | (refine Ends.iteT (by first | with_reducible assumption | (simp [*]; done) | (apply decide_eq_true; omega) | fail "open") ?_; conv => enter [1]; whnf)
                  | (refine Ends.iteF (by first | with_reducible assumption | (simp [*]; done) | (apply decide_eq_false; omega) | fail "open") ?_; conv => enter [1]; whnf))
                refine Ends.loopK (fun m T M => ∃ r : Nat, r ≤ 4 ∧ 4 - r < m ∧ T = [.undef, .undef, .undef, .ptr (.lo 0) 0, .undef, .undef, .undef, .ptr (.lo 2) 0, .sl (.hp b) 0 G.length 1, .undef, .undef, .undef, .ptr (.lo N) 0, .int .i64 (u : Int), .undef, .int .i64 ((pkS (nearA l) u f w G r).1 : Nat), .bool (pkS (nearA l) u f w G r).2, .undef, .undef, .undef, .undef, .undef, .undef, .undef, .undef, .undef, .undef, .undef, .undef, .undef, .undef, .undef, .undef, .undef, .undef, .undef, .undef, .undef, .undef, .undef, .undef, .undef, .undef, .undef, .undef, .undef, .undef, .undef, .undef, .undef, .undef, .undef, .undef, .undef, .undef, .undef, .undef, .undef, .undef, .undef, .undef, .undef, .undef, .undef, .undef, .undef, .undef, .undef, .undef, .undef, .undef, .undef, .undef, .undef, .undef, .undef, .undef, .undef, .undef, .undef, .undef, .undef, .undef, .undef, .undef, .undef, .undef, .undef, .undef, .undef, .undef, .undef, .undef, .undef, .undef, .undef, .undef, .undef, .undef, .undef, .undef, .undef, .undef, .undef, .undef, .undef, .undef, .undef, .undef, .undef, .sl (.lo LL.length) 0 4 1, .int .i64 4, .int .i64 (r : Int), .undef, .undef, .undef, .undef, .undef, .undef, .undef, .undef, .undef, .undef, .undef, .undef, .undef, .undef, .undef, .undef, .undef, .undef, .undef, .undef, .undef, .undef, .undef, .undef, .undef, .undef, .undef, .undef, .undef, .undef, .undef, .undef, .undef, .undef, .undef, .undef, .undef, .undef, .undef, .undef, .undef, .undef, .undef, .undef, .undef, .undef, .undef, .undef, .undef, .undef, .undef, .undef, .undef, .undef, .undef, .undef, .undef, .undef, .undef, .undef, .undef, .undef, .undef, .undef, .undef, .undef, .undef, .undef, .undef, .undef] ∧ M = ⟨LL ++ [[.int .i64 3, .int .i64 2, .int .i64 0, .int .i64 1]], H2⟩) (fun T M ⟨r, _, h, _⟩ => by omega) ?_ _ _ ⟨0, by omega, by omega, rfl, rfl⟩
                rintro m3 T M L3 KK3 hKK3 ⟨r, r1, r2, rfl, rfl⟩ hL3
                have hord : ∀ X, Mem.get ⟨LL ++ [X], H2⟩ (.lo LL.length) = some X := fun X => by simp [Mem.get]
                have e3 : IntKind.i64.wrap ((r : Int) + 1) = ((r + 1 : Nat) : Int) := by rw [w64]; omega
                by_cases cr : r < 4
                · have hpkr : pkS (nearA l) u f w G (r + 1) = if (pkS (nearA l) u f w G r).2 = true then pkS (nearA l) u f w G r else if hasB (nearA l) (pkO.getD r 0) f w G = true then (pkO.getD r 0, true) else pkS (nearA l) u f w G r := rfl
                  have hro : pkO.getD r 0 < 4 := pkO_lt r
                  have hcell : getAt r [Val.int .i64 3, Val.int .i64 2, Val.int .i64 0, Val.int .i64 1] = some (.int .i64 ((pkO.getD r 0 : Nat) : Int)) := by
                    rcases (show r = 0 ∨ r = 1 ∨ r = 2 ∨ r = 3 by omega) with rfl | rfl | rfl | rfl <;> rfl
                  have hlr := lhas_F mk K lo (by omega) l (pkO.getD r 0) hro ⟨v.n, f, w, v.t, v.z, v.kn⟩ H2 b G hG hg3 hGl
                  replace hlr : _ = some (Val.bool (hasB (nearA l) (pkO.getD r 0) f w G), H2) := hlr
                  generalize pkO.getD r 0 = o at *
                  generalize hPr : pkS (nearA l) u f w G r = P at *
                  obtain ⟨pn, pb⟩ := P
                  have c1 : (r : Int) < 4 := by omega
                  conv => enter [1]; whnf
                  repeat (first
                    | (refine Ends.force ?_; conv => enter [1]; whnf)
                    | (refine Ends.forceN ?_; conv => enter [1]; whnf)
                    | (refine Ends.forceLs ?_; conv => enter [1]; whnf)
                    | (refine Ends.iteT (by first | with_reducible assumption | (simp [*]; done) | (apply decide_eq_true; omega) | fail "open") ?_; conv => enter [1]; whnf)
                    | (refine Ends.iteF (by first | with_reducible assumption | (simp [*]; done) | (apply decide_eq_false; omega) | fail "open") ?_; conv => enter [1]; whnf))
                  refine Ends.opt (hord _) ?_
                  conv => enter [1]; whnf
                  refine Ends.opt (partInt' hcell (by omega)) ?_
                  conv => enter [1]; whnf
                  repeat (first
                    | (refine Ends.force ?_; conv => enter [1]; whnf)
                    | (refine Ends.forceN ?_; conv => enter [1]; whnf)
                    | (refine Ends.forceLs ?_; conv => enter [1]; whnf)
                    | (refine Ends.iteT (by first | with_reducible assumption | (simp [*]; done) | (apply decide_eq_true; omega) | fail "open") ?_; conv => enter [1]; whnf)
                    | (refine Ends.iteF (by first | with_reducible assumption | (simp [*]; done) | (apply decide_eq_false; omega) | fail "open") ?_; conv => enter [1]; whnf))
                  cases pb
                  · cases er : hasB (nearA l) o f w G <;> rw [er] at hlr hpkr
                    · skip
                      conv => enter [1]; whnf
                      refine Ends.opt ((by first | exact l0' | exact l0 _)) ?_
                      conv => enter [1]; whnf
                      repeat (first
                        | (refine Ends.force ?_; conv => enter [1]; whnf)
                        | (refine Ends.forceN ?_; conv => enter [1]; whnf)
                        | (refine Ends.forceLs ?_; conv => enter [1]; whnf)
                        | (refine Ends.iteT (by first | with_reducible assumption | (simp [*]; done) | (apply decide_eq_true; omega) | fail "open") ?_; conv => enter [1]; whnf)
                        | (refine Ends.iteF (by first | with_reducible assumption | (simp [*]; done) | (apply decide_eq_false; omega) | fail "open") ?_; conv => enter [1]; whnf))
                      refine Ends.opt ((by first | exact l2' | exact l2 _)) ?_
                      conv => enter [1]; whnf
                      repeat (first
                        | (refine Ends.force ?_; conv => enter [1]; whnf)
                        | (refine Ends.forceN ?_; conv => enter [1]; whnf)
                        | (refine Ends.forceLs ?_; conv => enter [1]; whnf)
                        | (refine Ends.iteT (by first | with_reducible assumption | (simp [*]; done) | (apply decide_eq_true; omega) | fail "open") ?_; conv => enter [1]; whnf)
                        | (refine Ends.iteF (by first | with_reducible assumption | (simp [*]; done) | (apply decide_eq_false; omega) | fail "open") ?_; conv => enter [1]; whnf))
                      refine Ends.call (hlr) ?_
                      conv => enter [1]; whnf
                      repeat (first
                        | (refine Ends.force ?_; conv => enter [1]; whnf)
                        | (refine Ends.forceN ?_; conv => enter [1]; whnf)
                        | (refine Ends.forceLs ?_; conv => enter [1]; whnf)
                        | (refine Ends.iteT (by first | with_reducible assumption | (simp [*]; done) | (apply decide_eq_true; omega) | fail "open") ?_; conv => enter [1]; whnf)
                        | (refine Ends.iteF (by first | with_reducible assumption | (simp [*]; done) | (apply decide_eq_false; omega) | fail "open") ?_; conv => enter [1]; whnf))
                      refine hL3 _ ⟨r + 1, by omega, by omega, ?_, rfl⟩
                      rw [hpkr, ← e3]
                      rfl
                    · skip
                      conv => enter [1]; whnf
                      refine Ends.opt ((by first | exact l0' | exact l0 _)) ?_
                      conv => enter [1]; whnf
                      repeat (first
                        | (refine Ends.force ?_; conv => enter [1]; whnf)
                        | (refine Ends.forceN ?_; conv => enter [1]; whnf)
                        | (refine Ends.forceLs ?_; conv => enter [1]; whnf)
                        | (refine Ends.iteT (by first | with_reducible assumption | (simp [*]; done) | (apply decide_eq_true; omega) | fail "open") ?_; conv => enter [1]; whnf)
                        | (refine Ends.iteF (by first | with_reducible assumption | (simp [*]; done) | (apply decide_eq_false; omega) | fail "open") ?_; conv => enter [1]; whnf))
                      refine Ends.opt ((by first | exact l2' | exact l2 _)) ?_
                      conv => enter [1]; whnf
                      repeat (first
                        | (refine Ends.force ?_; conv => enter [1]; whnf)
                        | (refine Ends.forceN ?_; conv => enter [1]; whnf)
                        | (refine Ends.forceLs ?_; conv => enter [1]; whnf)
                        | (refine Ends.iteT (by first | with_reducible assumption | (simp [*]; done) | (apply decide_eq_true; omega) | fail "open") ?_; conv => enter [1]; whnf)
                        | (refine Ends.iteF (by first | with_reducible assumption | (simp [*]; done) | (apply decide_eq_false; omega) | fail "open") ?_; conv => enter [1]; whnf))
                      refine Ends.call (hlr) ?_
                      conv => enter [1]; whnf
                      repeat (first
                        | (refine Ends.force ?_; conv => enter [1]; whnf)
                        | (refine Ends.forceN ?_; conv => enter [1]; whnf)
                        | (refine Ends.forceLs ?_; conv => enter [1]; whnf)
                        | (refine Ends.iteT (by first | with_reducible assumption | (simp [*]; done) | (apply decide_eq_true; omega) | fail "open") ?_; conv => enter [1]; whnf)
                        | (refine Ends.iteF (by first | with_reducible assumption | (simp [*]; done) | (apply decide_eq_false; omega) | fail "open") ?_; conv => enter [1]; whnf))
                      refine hL3 _ ⟨r + 1, by omega, by omega, ?_, rfl⟩
                      rw [hpkr, ← e3]
                      rfl
                  · skip
                    conv => enter [1]; whnf
                    repeat (first
                      | (refine Ends.force ?_; conv => enter [1]; whnf)
                      | (refine Ends.forceN ?_; conv => enter [1]; whnf)
                      | (refine Ends.forceLs ?_; conv => enter [1]; whnf)
                      | (refine Ends.iteT (by first | with_reducible assumption | (simp [*]; done) | (apply decide_eq_true; omega) | fail "open") ?_; conv => enter [1]; whnf)
                      | (refine Ends.iteF (by first | with_reducible assumption | (simp [*]; done) | (apply decide_eq_false; omega) | fail "open") ?_; conv => enter [1]; whnf))
                    refine hL3 _ ⟨r + 1, by omega, by omega, ?_, rfl⟩
                    rw [hpkr, ← e3]
                    rfl
                · have hr4 : r = 4 := by omega
                  subst hr4
                  have hlt := pkS_lt (a := nearA l) (f := f) (w := w) (G := G) hu4 4
                  rw [hpk] at hpF
                  generalize hPr : pkS (nearA l) u f w G 4 = P at *
                  obtain ⟨pn, pb⟩ := P
                  have hpn : pn < 4 := hlt
                  have hp : _ = some (Val.tup [.int .i64 (pn : Int), .bool pb], H2) := hpF
                  conv => enter [1]; whnf
                  rw [hKK3]
                  conv => enter [1]; whnf
                  have hfr := frame_F mk K lo (by omega) (nearA l) pn hpn ⟨v.n, f, w, v.t, v.z, v.kn⟩ H2
                  replace hfr : _ = some (Val.tup [.int .i64 (if f = 1 ∧ (nearA l pn).1 = 2 then 2 else f), .int .i64 (if f = 1 ∧ (nearA l pn).1 = 2 then (nearA l pn).2 else w)], H2) := hfr
                  have hm3 : (IntKind.i64.wrap ((BitVec.ofInt IntKind.i64.bits (pn : Int) &&& BitVec.ofInt IntKind.i64.bits 3).toNat : Nat)) = (pn : Int) := by rw [and64_3]; omega
                  have ho0 : 0 + ((IntKind.i64.wrap ((BitVec.ofInt IntKind.i64.bits (pn : Int) &&& BitVec.ofInt IntKind.i64.bits 3).toNat : Nat)).toNat) * 2 + 0 = 2 * pn := by rw [hm3]; omega
                  have ho1 : 0 + ((IntKind.i64.wrap ((BitVec.ofInt IntKind.i64.bits (pn : Int) &&& BitVec.ofInt IntKind.i64.bits 3).toNat : Nat)).toNat) * 2 + 1 = 2 * pn + 1 := by rw [hm3]; omega

                  rw [if_neg (fun z => q1 z.1), if_neg (fun z => q1 z.1)] at hfr
                  refine Ends.opt ((by first | exact lN' | exact lN _)) ?_
                  conv => enter [1]; whnf
                  repeat (first
                    | (refine Ends.force ?_; conv => enter [1]; whnf)
                    | (refine Ends.forceN ?_; conv => enter [1]; whnf)
                    | (refine Ends.forceLs ?_; conv => enter [1]; whnf)
                    | (refine Ends.iteT (by first | with_reducible assumption | (simp [*]; done) | (apply decide_eq_true; omega) | fail "open") ?_; conv => enter [1]; whnf)
                    | (refine Ends.iteF (by first | with_reducible assumption | (simp [*]; done) | (apply decide_eq_false; omega) | fail "open") ?_; conv => enter [1]; whnf))
                  refine Ends.opt ((by first | exact l2' | exact l2 _)) ?_
                  conv => enter [1]; whnf
                  repeat (first
                    | (refine Ends.force ?_; conv => enter [1]; whnf)
                    | (refine Ends.forceN ?_; conv => enter [1]; whnf)
                    | (refine Ends.forceLs ?_; conv => enter [1]; whnf)
                    | (refine Ends.iteT (by first | with_reducible assumption | (simp [*]; done) | (apply decide_eq_true; omega) | fail "open") ?_; conv => enter [1]; whnf)
                    | (refine Ends.iteF (by first | with_reducible assumption | (simp [*]; done) | (apply decide_eq_false; omega) | fail "open") ?_; conv => enter [1]; whnf))
                  refine Ends.call (hp) ?_
                  conv => enter [1]; whnf
                  repeat (first
                    | (refine Ends.force ?_; conv => enter [1]; whnf)
                    | (refine Ends.forceN ?_; conv => enter [1]; whnf)
                    | (refine Ends.forceLs ?_; conv => enter [1]; whnf)
                    | (refine Ends.iteT (by first | with_reducible assumption | (simp [*]; done) | (apply decide_eq_true; omega) | fail "open") ?_; conv => enter [1]; whnf)
                    | (refine Ends.iteF (by first | with_reducible assumption | (simp [*]; done) | (apply decide_eq_false; omega) | fail "open") ?_; conv => enter [1]; whnf))
                  refine Ends.opt ((by first | exact lN' | exact lN _)) ?_
                  conv => enter [1]; whnf
                  repeat (first
                    | (refine Ends.force ?_; conv => enter [1]; whnf)
                    | (refine Ends.forceN ?_; conv => enter [1]; whnf)
                    | (refine Ends.forceLs ?_; conv => enter [1]; whnf)
                    | (refine Ends.iteT (by first | with_reducible assumption | (simp [*]; done) | (apply decide_eq_true; omega) | fail "open") ?_; conv => enter [1]; whnf)
                    | (refine Ends.iteF (by first | with_reducible assumption | (simp [*]; done) | (apply decide_eq_false; omega) | fail "open") ?_; conv => enter [1]; whnf))
                  refine Ends.opt ((by first | exact l2' | exact l2 _)) ?_
                  conv => enter [1]; whnf
                  repeat (first
                    | (refine Ends.force ?_; conv => enter [1]; whnf)
                    | (refine Ends.forceN ?_; conv => enter [1]; whnf)
                    | (refine Ends.forceLs ?_; conv => enter [1]; whnf)
                    | (refine Ends.iteT (by first | with_reducible assumption | (simp [*]; done) | (apply decide_eq_true; omega) | fail "open") ?_; conv => enter [1]; whnf)
                    | (refine Ends.iteF (by first | with_reducible assumption | (simp [*]; done) | (apply decide_eq_false; omega) | fail "open") ?_; conv => enter [1]; whnf))
                  refine Ends.call (hfr) ?_
                  conv => enter [1]; whnf
                  repeat (first
                    | (refine Ends.force ?_; conv => enter [1]; whnf)
                    | (refine Ends.forceN ?_; conv => enter [1]; whnf)
                    | (refine Ends.forceLs ?_; conv => enter [1]; whnf)
                    | (refine Ends.iteT (by first | with_reducible assumption | (simp [*]; done) | (apply decide_eq_true; omega) | fail "open") ?_; conv => enter [1]; whnf)
                    | (refine Ends.iteF (by first | with_reducible assumption | (simp [*]; done) | (apply decide_eq_false; omega) | fail "open") ?_; conv => enter [1]; whnf))
                  refine Ends.opt ((by first | exact l2' | exact l2 _)) ?_
                  conv => enter [1]; whnf
                  repeat (first
                    | (refine Ends.force ?_; conv => enter [1]; whnf)
                    | (refine Ends.forceN ?_; conv => enter [1]; whnf)
                    | (refine Ends.forceLs ?_; conv => enter [1]; whnf)
                    | (refine Ends.iteT (by first | with_reducible assumption | (simp [*]; done) | (apply decide_eq_true; omega) | fail "open") ?_; conv => enter [1]; whnf)
                    | (refine Ends.iteF (by first | with_reducible assumption | (simp [*]; done) | (apply decide_eq_false; omega) | fail "open") ?_; conv => enter [1]; whnf))
                  refine Ends.opt ((by first | exact l2' | exact l2 _)) ?_
                  conv => enter [1]; whnf
                  repeat (first
                    | (refine Ends.force ?_; conv => enter [1]; whnf)
                    | (refine Ends.forceN ?_; conv => enter [1]; whnf)
                    | (refine Ends.forceLs ?_; conv => enter [1]; whnf)
                    | (refine Ends.iteT (by first | with_reducible assumption | (simp [*]; done) | (apply decide_eq_true; omega) | fail "open") ?_; conv => enter [1]; whnf)
                    | (refine Ends.iteF (by first | with_reducible assumption | (simp [*]; done) | (apply decide_eq_false; omega) | fail "open") ?_; conv => enter [1]; whnf))
                  refine Ends.opt ((by first | exact l2' | exact l2 _)) ?_
                  conv => enter [1]; whnf
                  repeat (first
                    | (refine Ends.force ?_; conv => enter [1]; whnf)
                    | (refine Ends.forceN ?_; conv => enter [1]; whnf)
                    | (refine Ends.forceLs ?_; conv => enter [1]; whnf)
                    | (refine Ends.iteT (by first | with_reducible assumption | (simp [*]; done) | (apply decide_eq_true; omega) | fail "open") ?_; conv => enter [1]; whnf)
                    | (refine Ends.iteF (by first | with_reducible assumption | (simp [*]; done) | (apply decide_eq_false; omega) | fail "open") ?_; conv => enter [1]; whnf))
                  refine Ends.call (awake33_F mk K lo (by omega) H2) ?_
                  conv => enter [1]; whnf
                  repeat (first
                    | (refine Ends.force ?_; conv => enter [1]; whnf)
                    | (refine Ends.forceN ?_; conv => enter [1]; whnf)
                    | (refine Ends.forceLs ?_; conv => enter [1]; whnf)
                    | (refine Ends.iteT (by first | with_reducible assumption | (simp [*]; done) | (apply decide_eq_true; omega) | fail "open") ?_; conv => enter [1]; whnf)
                    | (refine Ends.iteF (by first | with_reducible assumption | (simp [*]; done) | (apply decide_eq_false; omega) | fail "open") ?_; conv => enter [1]; whnf))
                  refine Ends.some' ?_
                  simp
              · have hpk : pickP (nearA l) u f w G = (u, true) := by unfold pickP; rw [if_pos (Or.inr (Or.inr eu))]
                rw [hpk] at hpF
                have hp : _ = some (Val.tup [.int .i64 (u : Int), .bool true], H2) := hpF
                have hpn : u < 4 := hu4
                conv => enter [1]; whnf
                refine Ends.opt ((by first | exact l2' | exact l2 _)) ?_
                conv => enter [1]; whnf
                repeat (first
                  | (refine Ends.force ?_; conv => enter [1]; whnf)
                  | (refine Ends.forceN ?_; conv => enter [1]; whnf)
                  | (refine Ends.forceLs ?_; conv => enter [1]; whnf)
                  | (refine Ends.iteT (by first | with_reducible assumption | (simp [*]; done) | (apply decide_eq_true; omega) | fail "open") ?_; conv => enter [1]; whnf)
                  | (refine Ends.iteF (by first | with_reducible assumption | (simp [*]; done) | (apply decide_eq_false; omega) | fail "open") ?_; conv => enter [1]; whnf))
                refine Ends.opt ((by first | exact l2' | exact l2 _)) ?_
                conv => enter [1]; whnf
                repeat (first
                  | (refine Ends.force ?_; conv => enter [1]; whnf)
                  | (refine Ends.forceN ?_; conv => enter [1]; whnf)
                  | (refine Ends.forceLs ?_; conv => enter [1]; whnf)
                  | (refine Ends.iteT (by first | with_reducible assumption | (simp [*]; done) | (apply decide_eq_true; omega) | fail "open") ?_; conv => enter [1]; whnf)
                  | (refine Ends.iteF (by first | with_reducible assumption | (simp [*]; done) | (apply decide_eq_false; omega) | fail "open") ?_; conv => enter [1]; whnf))
                refine Ends.opt ((by first | exact l0' | exact l0 _)) ?_
                conv => enter [1]; whnf
                repeat (first
                  | (refine Ends.force ?_; conv => enter [1]; whnf)
                  | (refine Ends.forceN ?_; conv => enter [1]; whnf)
                  | (refine Ends.forceLs ?_; conv => enter [1]; whnf)
                  | (refine Ends.iteT (by first | with_reducible assumption | (simp [*]; done) | (apply decide_eq_true; omega) | fail "open") ?_; conv => enter [1]; whnf)
                  | (refine Ends.iteF (by first | with_reducible assumption | (simp [*]; done) | (apply decide_eq_false; omega) | fail "open") ?_; conv => enter [1]; whnf))
                refine Ends.opt ((by first | exact l2' | exact l2 _)) ?_
                conv => enter [1]; whnf
                repeat (first
                  | (refine Ends.force ?_; conv => enter [1]; whnf)
                  | (refine Ends.forceN ?_; conv => enter [1]; whnf)
                  | (refine Ends.forceLs ?_; conv => enter [1]; whnf)
                  | (refine Ends.iteT (by first | with_reducible assumption | (simp [*]; done) | (apply decide_eq_true; omega) | fail "open") ?_; conv => enter [1]; whnf)
                  | (refine Ends.iteF (by first | with_reducible assumption | (simp [*]; done) | (apply decide_eq_false; omega) | fail "open") ?_; conv => enter [1]; whnf))
                refine Ends.call (hlu) ?_
                conv => enter [1]; whnf
                repeat (first
                  | (refine Ends.force ?_; conv => enter [1]; whnf)
                  | (refine Ends.forceN ?_; conv => enter [1]; whnf)
                  | (refine Ends.forceLs ?_; conv => enter [1]; whnf)
                  | (refine Ends.iteT (by first | with_reducible assumption | (simp [*]; done) | (apply decide_eq_true; omega) | fail "open") ?_; conv => enter [1]; whnf)
                  | (refine Ends.iteF (by first | with_reducible assumption | (simp [*]; done) | (apply decide_eq_false; omega) | fail "open") ?_; conv => enter [1]; whnf))
                have hfr := frame_F mk K lo (by omega) (nearA l) u hpn ⟨v.n, f, w, v.t, v.z, v.kn⟩ H2
                replace hfr : _ = some (Val.tup [.int .i64 (if f = 1 ∧ (nearA l u).1 = 2 then 2 else f), .int .i64 (if f = 1 ∧ (nearA l u).1 = 2 then (nearA l u).2 else w)], H2) := hfr
                have hm3 : (IntKind.i64.wrap ((BitVec.ofInt IntKind.i64.bits (u : Int) &&& BitVec.ofInt IntKind.i64.bits 3).toNat : Nat)) = (u : Int) := by rw [and64_3]; omega
                have ho0 : 0 + ((IntKind.i64.wrap ((BitVec.ofInt IntKind.i64.bits (u : Int) &&& BitVec.ofInt IntKind.i64.bits 3).toNat : Nat)).toNat) * 2 + 0 = 2 * u := by rw [hm3]; omega
                have ho1 : 0 + ((IntKind.i64.wrap ((BitVec.ofInt IntKind.i64.bits (u : Int) &&& BitVec.ofInt IntKind.i64.bits 3).toNat : Nat)).toNat) * 2 + 1 = 2 * u + 1 := by rw [hm3]; omega

                rw [if_neg (fun z => q1 z.1), if_neg (fun z => q1 z.1)] at hfr
                refine Ends.opt ((by first | exact lN' | exact lN _)) ?_
                conv => enter [1]; whnf
                repeat (first
                  | (refine Ends.force ?_; conv => enter [1]; whnf)
                  | (refine Ends.forceN ?_; conv => enter [1]; whnf)
                  | (refine Ends.forceLs ?_; conv => enter [1]; whnf)
                  | (refine Ends.iteT (by first | with_reducible assumption | (simp [*]; done) | (apply decide_eq_true; omega) | fail "open") ?_; conv => enter [1]; whnf)
                  | (refine Ends.iteF (by first | with_reducible assumption | (simp [*]; done) | (apply decide_eq_false; omega) | fail "open") ?_; conv => enter [1]; whnf))
                refine Ends.opt ((by first | exact l2' | exact l2 _)) ?_
                conv => enter [1]; whnf
                repeat (first
                  | (refine Ends.force ?_; conv => enter [1]; whnf)
                  | (refine Ends.forceN ?_; conv => enter [1]; whnf)
                  | (refine Ends.forceLs ?_; conv => enter [1]; whnf)
                  | (refine Ends.iteT (by first | with_reducible assumption | (simp [*]; done) | (apply decide_eq_true; omega) | fail "open") ?_; conv => enter [1]; whnf)
                  | (refine Ends.iteF (by first | with_reducible assumption | (simp [*]; done) | (apply decide_eq_false; omega) | fail "open") ?_; conv => enter [1]; whnf))
                refine Ends.call (hp) ?_
                conv => enter [1]; whnf
                repeat (first
                  | (refine Ends.force ?_; conv => enter [1]; whnf)
                  | (refine Ends.forceN ?_; conv => enter [1]; whnf)
                  | (refine Ends.forceLs ?_; conv => enter [1]; whnf)
                  | (refine Ends.iteT (by first | with_reducible assumption | (simp [*]; done) | (apply decide_eq_true; omega) | fail "open") ?_; conv => enter [1]; whnf)
                  | (refine Ends.iteF (by first | with_reducible assumption | (simp [*]; done) | (apply decide_eq_false; omega) | fail "open") ?_; conv => enter [1]; whnf))
                refine Ends.opt ((by first | exact lN' | exact lN _)) ?_
                conv => enter [1]; whnf
                repeat (first
                  | (refine Ends.force ?_; conv => enter [1]; whnf)
                  | (refine Ends.forceN ?_; conv => enter [1]; whnf)
                  | (refine Ends.forceLs ?_; conv => enter [1]; whnf)
                  | (refine Ends.iteT (by first | with_reducible assumption | (simp [*]; done) | (apply decide_eq_true; omega) | fail "open") ?_; conv => enter [1]; whnf)
                  | (refine Ends.iteF (by first | with_reducible assumption | (simp [*]; done) | (apply decide_eq_false; omega) | fail "open") ?_; conv => enter [1]; whnf))
                refine Ends.opt ((by first | exact l2' | exact l2 _)) ?_
                conv => enter [1]; whnf
                repeat (first
                  | (refine Ends.force ?_; conv => enter [1]; whnf)
                  | (refine Ends.forceN ?_; conv => enter [1]; whnf)
                  | (refine Ends.forceLs ?_; conv => enter [1]; whnf)
                  | (refine Ends.iteT (by first | with_reducible assumption | (simp [*]; done) | (apply decide_eq_true; omega) | fail "open") ?_; conv => enter [1]; whnf)
                  | (refine Ends.iteF (by first | with_reducible assumption | (simp [*]; done) | (apply decide_eq_false; omega) | fail "open") ?_; conv => enter [1]; whnf))
                refine Ends.call (hfr) ?_
                conv => enter [1]; whnf
                repeat (first
                  | (refine Ends.force ?_; conv => enter [1]; whnf)
                  | (refine Ends.forceN ?_; conv => enter [1]; whnf)
                  | (refine Ends.forceLs ?_; conv => enter [1]; whnf)
                  | (refine Ends.iteT (by first | with_reducible assumption | (simp [*]; done) | (apply decide_eq_true; omega) | fail "open") ?_; conv => enter [1]; whnf)
                  | (refine Ends.iteF (by first | with_reducible assumption | (simp [*]; done) | (apply decide_eq_false; omega) | fail "open") ?_; conv => enter [1]; whnf))
                refine Ends.opt ((by first | exact l2' | exact l2 _)) ?_
                conv => enter [1]; whnf
                repeat (first
                  | (refine Ends.force ?_; conv => enter [1]; whnf)
                  | (refine Ends.forceN ?_; conv => enter [1]; whnf)
                  | (refine Ends.forceLs ?_; conv => enter [1]; whnf)
                  | (refine Ends.iteT (by first | with_reducible assumption | (simp [*]; done) | (apply decide_eq_true; omega) | fail "open") ?_; conv => enter [1]; whnf)
                  | (refine Ends.iteF (by first | with_reducible assumption | (simp [*]; done) | (apply decide_eq_false; omega) | fail "open") ?_; conv => enter [1]; whnf))
                refine Ends.opt ((by first | exact l2' | exact l2 _)) ?_
                conv => enter [1]; whnf
                repeat (first
                  | (refine Ends.force ?_; conv => enter [1]; whnf)
                  | (refine Ends.forceN ?_; conv => enter [1]; whnf)
                  | (refine Ends.forceLs ?_; conv => enter [1]; whnf)
                  | (refine Ends.iteT (by first | with_reducible assumption | (simp [*]; done) | (apply decide_eq_true; omega) | fail "open") ?_; conv => enter [1]; whnf)
                  | (refine Ends.iteF (by first | with_reducible assumption | (simp [*]; done) | (apply decide_eq_false; omega) | fail "open") ?_; conv => enter [1]; whnf))
                refine Ends.opt ((by first | exact l2' | exact l2 _)) ?_
                conv => enter [1]; whnf
                repeat (first
                  | (refine Ends.force ?_; conv => enter [1]; whnf)
                  | (refine Ends.forceN ?_; conv => enter [1]; whnf)
                  | (refine Ends.forceLs ?_; conv => enter [1]; whnf)
                  | (refine Ends.iteT (by first | with_reducible assumption | (simp [*]; done) | (apply decide_eq_true; omega) | fail "open") ?_; conv => enter [1]; whnf)
                  | (refine Ends.iteF (by first | with_reducible assumption | (simp [*]; done) | (apply decide_eq_false; omega) | fail "open") ?_; conv => enter [1]; whnf))
                refine Ends.call (awake33_F mk K lo (by omega) H2) ?_
                conv => enter [1]; whnf
                repeat (first
                  | (refine Ends.force ?_; conv => enter [1]; whnf)
                  | (refine Ends.forceN ?_; conv => enter [1]; whnf)
                  | (refine Ends.forceLs ?_; conv => enter [1]; whnf)
                  | (refine Ends.iteT (by first | with_reducible assumption | (simp [*]; done) | (apply decide_eq_true; omega) | fail "open") ?_; conv => enter [1]; whnf)
                  | (refine Ends.iteF (by first | with_reducible assumption | (simp [*]; done) | (apply decide_eq_false; omega) | fail "open") ?_; conv => enter [1]; whnf))
                refine Ends.some' ?_
                simp
          · have q1 : ¬ f = 1 := fun z => cf (.inl z)
            have f2 : ¬ f = 2 := fun z => cf (.inr z)
            have hpk : pickP (nearA l) u f w G = (u, true) := by unfold pickP; rw [if_pos (by omega)]
            rw [hpk] at hpF
            have hp : _ = some (Val.tup [.int .i64 (u : Int), .bool true], H2) := hpF
            clear cf fb
            have hpn : u < 4 := hu4
            conv => enter [1]; whnf
            refine Ends.opt ((by first | exact l2' | exact l2 _)) ?_
            conv => enter [1]; whnf
            repeat (first
              | (refine Ends.force ?_; conv => enter [1]; whnf)
              | (refine Ends.forceN ?_; conv => enter [1]; whnf)
              | (refine Ends.forceLs ?_; conv => enter [1]; whnf)
              | (refine Ends.iteT (by first | with_reducible assumption | (simp [*]; done) | (apply decide_eq_true; omega) | fail "open") ?_; conv => enter [1]; whnf)
              | (refine Ends.iteF (by first | with_reducible assumption | (simp [*]; done) | (apply decide_eq_false; omega) | fail "open") ?_; conv => enter [1]; whnf))
            refine Ends.opt ((by first | exact l2' | exact l2 _)) ?_
            conv => enter [1]; whnf
            repeat (first
              | (refine Ends.force ?_; conv => enter [1]; whnf)
              | (refine Ends.forceN ?_; conv => enter [1]; whnf)
              | (refine Ends.forceLs ?_; conv => enter [1]; whnf)
              | (refine Ends.iteT (by first | with_reducible assumption | (simp [*]; done) | (apply decide_eq_true; omega) | fail "open") ?_; conv => enter [1]; whnf)
              | (refine Ends.iteF (by first | with_reducible assumption | (simp [*]; done) | (apply decide_eq_false; omega) | fail "open") ?_; conv => enter [1]; whnf))
            have hfr := frame_F mk K lo (by omega) (nearA l) u hpn ⟨v.n, f, w, v.t, v.z, v.kn⟩ H2
            replace hfr : _ = some (Val.tup [.int .i64 (if f = 1 ∧ (nearA l u).1 = 2 then 2 else f), .int .i64 (if f = 1 ∧ (nearA l u).1 = 2 then (nearA l u).2 else w)], H2) := hfr
            have hm3 : (IntKind.i64.wrap ((BitVec.ofInt IntKind.i64.bits (u : Int) &&& BitVec.ofInt IntKind.i64.bits 3).toNat : Nat)) = (u : Int) := by rw [and64_3]; omega
            have ho0 : 0 + ((IntKind.i64.wrap ((BitVec.ofInt IntKind.i64.bits (u : Int) &&& BitVec.ofInt IntKind.i64.bits 3).toNat : Nat)).toNat) * 2 + 0 = 2 * u := by rw [hm3]; omega
            have ho1 : 0 + ((IntKind.i64.wrap ((BitVec.ofInt IntKind.i64.bits (u : Int) &&& BitVec.ofInt IntKind.i64.bits 3).toNat : Nat)).toNat) * 2 + 1 = 2 * u + 1 := by rw [hm3]; omega

            rw [if_neg (fun z => q1 z.1), if_neg (fun z => q1 z.1)] at hfr
            refine Ends.opt ((by first | exact lN' | exact lN _)) ?_
            conv => enter [1]; whnf
            repeat (first
              | (refine Ends.force ?_; conv => enter [1]; whnf)
              | (refine Ends.forceN ?_; conv => enter [1]; whnf)
              | (refine Ends.forceLs ?_; conv => enter [1]; whnf)
              | (refine Ends.iteT (by first | with_reducible assumption | (simp [*]; done) | (apply decide_eq_true; omega) | fail "open") ?_; conv => enter [1]; whnf)
              | (refine Ends.iteF (by first | with_reducible assumption | (simp [*]; done) | (apply decide_eq_false; omega) | fail "open") ?_; conv => enter [1]; whnf))
            refine Ends.opt ((by first | exact l2' | exact l2 _)) ?_
            conv => enter [1]; whnf
            repeat (first
              | (refine Ends.force ?_; conv => enter [1]; whnf)
              | (refine Ends.forceN ?_; conv => enter [1]; whnf)
              | (refine Ends.forceLs ?_; conv => enter [1]; whnf)
              | (refine Ends.iteT (by first | with_reducible assumption | (simp [*]; done) | (apply decide_eq_true; omega) | fail "open") ?_; conv => enter [1]; whnf)
              | (refine Ends.iteF (by first | with_reducible assumption | (simp [*]; done) | (apply decide_eq_false; omega) | fail "open") ?_; conv => enter [1]; whnf))
            refine Ends.call (hp) ?_
            conv => enter [1]; whnf
            repeat (first
              | (refine Ends.force ?_; conv => enter [1]; whnf)
              | (refine Ends.forceN ?_; conv => enter [1]; whnf)
              | (refine Ends.forceLs ?_; conv => enter [1]; whnf)
              | (refine Ends.iteT (by first | with_reducible assumption | (simp [*]; done) | (apply decide_eq_true; omega) | fail "open") ?_; conv => enter [1]; whnf)
              | (refine Ends.iteF (by first | with_reducible assumption | (simp [*]; done) | (apply decide_eq_false; omega) | fail "open") ?_; conv => enter [1]; whnf))
            refine Ends.opt ((by first | exact lN' | exact lN _)) ?_
            conv => enter [1]; whnf
            repeat (first
              | (refine Ends.force ?_; conv => enter [1]; whnf)
              | (refine Ends.forceN ?_; conv => enter [1]; whnf)
              | (refine Ends.forceLs ?_; conv => enter [1]; whnf)
              | (refine Ends.iteT (by first | with_reducible assumption | (simp [*]; done) | (apply decide_eq_true; omega) | fail "open") ?_; conv => enter [1]; whnf)
              | (refine Ends.iteF (by first | with_reducible assumption | (simp [*]; done) | (apply decide_eq_false; omega) | fail "open") ?_; conv => enter [1]; whnf))
            refine Ends.opt ((by first | exact l2' | exact l2 _)) ?_
            conv => enter [1]; whnf
            repeat (first
              | (refine Ends.force ?_; conv => enter [1]; whnf)
              | (refine Ends.forceN ?_; conv => enter [1]; whnf)
              | (refine Ends.forceLs ?_; conv => enter [1]; whnf)
              | (refine Ends.iteT (by first | with_reducible assumption | (simp [*]; done) | (apply decide_eq_true; omega) | fail "open") ?_; conv => enter [1]; whnf)
              | (refine Ends.iteF (by first | with_reducible assumption | (simp [*]; done) | (apply decide_eq_false; omega) | fail "open") ?_; conv => enter [1]; whnf))
            refine Ends.call (hfr) ?_
            conv => enter [1]; whnf
            repeat (first
              | (refine Ends.force ?_; conv => enter [1]; whnf)
              | (refine Ends.forceN ?_; conv => enter [1]; whnf)
              | (refine Ends.forceLs ?_; conv => enter [1]; whnf)
              | (refine Ends.iteT (by first | with_reducible assumption | (simp [*]; done) | (apply decide_eq_true; omega) | fail "open") ?_; conv => enter [1]; whnf)
              | (refine Ends.iteF (by first | with_reducible assumption | (simp [*]; done) | (apply decide_eq_false; omega) | fail "open") ?_; conv => enter [1]; whnf))
            refine Ends.opt ((by first | exact l2' | exact l2 _)) ?_
            conv => enter [1]; whnf
            repeat (first
              | (refine Ends.force ?_; conv => enter [1]; whnf)
              | (refine Ends.forceN ?_; conv => enter [1]; whnf)
              | (refine Ends.forceLs ?_; conv => enter [1]; whnf)
              | (refine Ends.iteT (by first | with_reducible assumption | (simp [*]; done) | (apply decide_eq_true; omega) | fail "open") ?_; conv => enter [1]; whnf)
              | (refine Ends.iteF (by first | with_reducible assumption | (simp [*]; done) | (apply decide_eq_false; omega) | fail "open") ?_; conv => enter [1]; whnf))
            refine Ends.opt ((by first | exact l2' | exact l2 _)) ?_
            conv => enter [1]; whnf
            repeat (first
              | (refine Ends.force ?_; conv => enter [1]; whnf)
              | (refine Ends.forceN ?_; conv => enter [1]; whnf)
              | (refine Ends.forceLs ?_; conv => enter [1]; whnf)
              | (refine Ends.iteT (by first | with_reducible assumption | (simp [*]; done) | (apply decide_eq_true; omega) | fail "open") ?_; conv => enter [1]; whnf)
              | (refine Ends.iteF (by first | with_reducible assumption | (simp [*]; done) | (apply decide_eq_false; omega) | fail "open") ?_; conv => enter [1]; whnf))
            refine Ends.opt ((by first | exact l2' | exact l2 _)) ?_
            conv => enter [1]; whnf
            repeat (first
              | (refine Ends.force ?_; conv => enter [1]; whnf)
              | (refine Ends.forceN ?_; conv => enter [1]; whnf)
              | (refine Ends.forceLs ?_; conv => enter [1]; whnf)
              | (refine Ends.iteT (by first | with_reducible assumption | (simp [*]; done) | (apply decide_eq_true; omega) | fail "open") ?_; conv => enter [1]; whnf)
              | (refine Ends.iteF (by first | with_reducible assumption | (simp [*]; done) | (apply decide_eq_false; omega) | fail "open") ?_; conv => enter [1]; whnf))
            refine Ends.call (awake33_F mk K lo (by omega) H2) ?_
            conv => enter [1]; whnf
            repeat (first
              | (refine Ends.force ?_; conv => enter [1]; whnf)
              | (refine Ends.forceN ?_; conv => enter [1]; whnf)
              | (refine Ends.forceLs ?_; conv => enter [1]; whnf)
              | (refine Ends.iteT (by first | with_reducible assumption | (simp [*]; done) | (apply decide_eq_true; omega) | fail "open") ?_; conv => enter [1]; whnf)
              | (refine Ends.iteF (by first | with_reducible assumption | (simp [*]; done) | (apply decide_eq_false; omega) | fail "open") ?_; conv => enter [1]; whnf))
            refine Ends.some' ?_
            simp
      · exact congrArg (fun x => Mem.mk x H2) (loc3_set (x := lL l) (y := lL l) (z := lL l))
end Go.Proofs.Ytbkniomfegbdaaa.VM
