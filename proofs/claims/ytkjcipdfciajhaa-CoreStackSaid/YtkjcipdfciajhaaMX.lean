/- CoreStack by the plain machine: the walk. -/
import Derived.Test.YtkjcipdfciajhaaMW
namespace Go.Proofs.Ytkjcipdfciajhaa.VM
open Go Go.RowKit
set_option linter.unusedVariables false
set_option linter.unusedSimpArgs false
set_option maxRecDepth 40000
set_option maxHeartbeats 3200000
def vtsV (l : List VT) : List Val := (l.map pairV).flatten
theorem vtsV_len (l : List VT) : (vtsV l).length = l.length * 2 := by
  induction l with
  | nil => rfl
  | cons x l ih =>
    have : (vtsV (x :: l)) = pairV x ++ vtsV l := rfl
    rw [this, List.length_append, ih, List.length_cons, Nat.succ_mul]
    show 2 + _ = _; omega
theorem vtsV_append (x y : List VT) : vtsV (x ++ y) = vtsV x ++ vtsV y := by simp [vtsV]
theorem partVts {l : List VT} {i : Nat} (h : i < l.length) {off : Nat} (ho : off = i * 2) : partV Try.prog 28 (vtsV l) off = some (.agg (pairV l[i])) := by
  refine partVal ?_
  have e : vtsV l = vtsV (l.take i) ++ (pairV l[i] ++ vtsV (l.drop (i + 1))) := by
    conv => lhs; rw [← List.take_append_drop i l, List.drop_eq_getElem_cons h]
    rw [vtsV_append]
    rfl
  rw [e]
  exact part_mid _ _ _ (by rw [ho, vtsV_len, List.length_take, Nat.min_eq_left (by omega)]) rfl
theorem st_low (sp : Int) (hsp : U16 sp) (j : Nat) (hj : j ≤ 20) : (stO sp (2 * j) == IntKind.u16.wrap (sp - IntKind.u16.wrap (IntKind.i64.wrap (2 * (j : Int))))) = true := by
  refine beq_iff_eq.2 ?_
  obtain ⟨z, hz⟩ : ∃ z : Int, z = 2 * (j : Int) := ⟨_, rfl⟩
  have h1 : IntKind.i64.wrap (2 * (j : Int)) = z := by rw [w64]; omega
  have h2 : IntKind.u16.wrap z = z := by rw [wu16]; omega
  rw [h1, h2, wu16]
  unfold stO; unfold U16 at hsp; omega
theorem coreStack_l (mk : Mk) (K lo : Nat) (hK : K = 200) (l : List VT) (hul : ∀ a ∈ l, U16 a.1) (sp : Int) (hsp : U16 sp) (H : List Blk) (hlo : lo ≤ H.length) (hlo1 : 1 ≤ lo) (hH : H[0]? = some ⟨vtsV l, true⟩) :
    Ends (FF mk (K + 1) lo 3 [.sl (.hp 0) 0 l.length 2, .int .u16 sp] H) (fun r => r.1 = .bool true) := by
  obtain ⟨N, hN⟩ : ∃ N, N = 1048576 := ⟨_, rfl⟩
  conv => enter [1]; whnf
  refine Ends.callE (begin13_F mk K lo (by omega) hN H hlo 256 65536 sp (by unfold U16; decide) (by decide)) (fun v H1 hv => ?_)
  obtain ⟨c, p, w, q, r, hv, h1, m1, g1, hc, hq, hr, hcq, hcr, hcp⟩ := hv
  replace hv : v = .ptr (.hp c) 0 := hv
  subst hv
  replace g1 : Grown H H1 := g1
  obtain ⟨n, hn⟩ : ∃ n, n = min l.length 20 := ⟨_, rfl⟩
  have hmn : (if (20 : Int) < ((l.length : Nat) : Int) then (20 : Int) else ((l.length : Nat) : Int)) = ((n : Nat) : Int) := by split <;> omega
  have hs0 : stO sp (2 * 0) = sp := by unfold stO; unfold U16 at hsp; omega
  have hP0 : Pushed N H H1 c p w q r sp l 0 (fun _ => 0) (fun _ => 0) 0 := by
    refine ⟨by rw [hs0]; exact h1, m1, fun i => (by show (0 : Int) ≤ 0 ∧ (0 : Int) < 256; decide), g1, fun _ _ _ => rfl, .inl ⟨rfl, Stk.zero sp l⟩⟩
  conv => enter [1]; whnf
  rw [hmn]
  refine Ends.loop (fun m T M => ∃ (j : Nat) (f t : Nat → Int) (st : Int) (H' : List Blk), j ≤ n ∧ n - j < m ∧ Pushed N H H' c p w q r sp l j f t st ∧ T = [.sl (.hp 0) 0 l.length 2, .int .u16 sp, .undef, .undef, .undef, .ptr (.hp c) 0, .int .i64 (n : Int), .int .i64 (j : Int), .undef, .undef, .undef, .undef, .undef, .undef, .undef, .undef, .undef, .undef, .undef, .undef, .undef, .undef, .undef, .undef, .undef, .undef, .undef, .undef, .undef, .undef, .undef, .undef, .undef, .undef, .undef, .undef, .undef, .undef, .undef, .undef, .undef, .undef, .undef, .undef, .undef, .undef, .undef, .undef, .undef, .undef, .undef, .undef, .undef, .undef, .undef, .undef, .undef, .undef, .undef, .undef, .undef, .undef, .undef, .undef, .undef, .undef, .undef, .undef, .undef, .undef, .undef, .undef, .undef, .undef, .undef, .undef, .undef, .undef, .undef, .undef] ∧ M = ⟨[], H'⟩) (fun T M ⟨j, f, t, st, H', _, h, _⟩ => by omega) ?_ _ _ ⟨0, _, _, 0, H1, by omega, by omega, hP0, rfl, rfl⟩
  rintro m T M L ⟨j, f, t, st, H', j1, j2, hP, rfl, rfl⟩ hL
  conv => enter [1]; whnf
  refine Ends.ite (fun hcc => ?_) (fun hcc => ?_) <;> (conv => enter [1]; whnf)
  · have cj : j < n := by have := of_decide_eq_true hcc; omega
    have cl : j < l.length := by omega
    have hG := hP.2.2.2.1
    refine Ends.iteT (decide_eq_true (by omega)) ?_
    conv => enter [1]; whnf
    refine Ends.opt (get_at (hG.at hH) _) ?_
    conv => enter [1]; whnf
    refine Ends.opt (partVts cl (by omega)) ?_
    conv => enter [1]; whnf
    refine Ends.callE (push_step mk K lo (by omega) hP hlo hc hq hr hcq hcr hcp cl (by omega) (hul _ (List.getElem_mem cl))) (fun v H2 hv => ?_)
    obtain ⟨hv, f', t', st', hP'⟩ := hv
    replace hv : v = .tup [] := hv
    subst hv
    conv => enter [1]; whnf
    refine hL _ ⟨j + 1, f', t', st', H2, by omega, by omega, hP', ?_, rfl⟩
    have e3 : IntKind.i64.wrap ((j : Int) + 1) = ((j + 1 : Nat) : Int) := by rw [w64]; omega
    rw [← e3]
    rfl
  · have cj : j = n := by have := of_decide_eq_false hcc; omega
    subst cj
    obtain ⟨hm, mm, hf, hG, hrest, hst⟩ := hP
    refine Ends.call (cstate_F mk K lo (by omega) hm) ?_
    rcases hst with ⟨rfl, hS⟩ | ⟨rfl, i, hi, _⟩
    · conv => enter [1]; whnf
      refine Ends.opt (hm.get _) ?_
      conv => enter [1]; whnf
      refine Ends.opt (by rfl) ?_
      conv => enter [1]; whnf
      refine Ends.loop (fun m T M => ∃ (k : Nat) (H2 : List Blk), k ≤ j ∧ k < m ∧ HasMach H2 c (updR g0 4 (stO sp (2 * k), false)) (fun _ => (256, true)) 0 0 p w (256 * 16) 65536 0 ∧ HasMem N H2 p q r f t ∧ Grown H H2 ∧ T = [.sl (.hp 0) 0 l.length 2, .int .u16 sp, .undef, .undef, .undef, .ptr (.hp c) 0, .int .i64 (j : Int), .undef, .int .u16 (stO sp (2 * j)), .int .i64 ((k : Int) - 1), .undef, .undef, .undef, .undef, .undef, .undef, .undef, .undef, .undef, .undef, .undef, .undef, .undef, .undef, .undef, .undef, .undef, .undef, .undef, .undef, .undef, .undef, .undef, .undef, .undef, .undef, .undef, .undef, .undef, .undef, .undef, .undef, .undef, .undef, .undef, .undef, .undef, .undef, .undef, .undef, .undef, .undef, .undef, .undef, .undef, .undef, .undef, .undef, .undef, .undef, .undef, .undef, .undef, .undef, .undef, .undef, .undef, .undef, .undef, .undef, .undef, .undef, .undef, .undef, .undef, .undef, .undef, .undef, .undef, .undef] ∧ M = ⟨[], H2⟩) (fun T M ⟨k, H2, _, h, _⟩ => by omega) ?_ _ _ ⟨j, H', by omega, by omega, hm, mm, hG, ?_, rfl⟩
      · rintro m T M L ⟨k, H2, k1, k2, hm2, mm2, hG2, rfl, rfl⟩ hL
        conv => enter [1]; whnf
        refine Ends.ite (fun hcc => ?_) (fun hcc => ?_) <;> (conv => enter [1]; whnf)
        · have ck : 0 ≤ (k : Int) - 1 := of_decide_eq_true hcc
          obtain ⟨k, rfl⟩ : ∃ i, k = i + 1 := ⟨k - 1, by omega⟩
          have cl : k < l.length := by omega
          refine Ends.call (pop_step mk K lo (by omega) hm2 mm2 hf hS (by omega) (by omega) cl (by omega) (hul _ (List.getElem_mem cl)) (fun _ _ => trivial)) ?_
          conv => enter [1]; whnf
          refine Ends.iteT (decide_eq_true (by omega)) ?_
          conv => enter [1]; whnf
          have hG3 := hG2.set hc ⟨machL (updR g0 4 (stO sp (2 * k), false)) (fun _ => (256, true)) 0 0 p w (256 * 16) 65536 0, true⟩
          refine Ends.opt (get_at (hG3.at hH) _) ?_
          conv => enter [1]; whnf
          refine Ends.opt (partVts cl (by omega)) ?_
          conv => enter [1]; whnf
          refine Ends.iteF (by with_reducible exact eqBadVal mk) ?_
          conv => enter [1]; whnf
          have hb0 : Nat.blt 0 lo = true := by rw [Nat.blt_eq]; omega
          refine Ends.iteT (by simp [freeB, freeOne, commB, disjB, newsOf, wrsOf, rdsOf, outOf, isLoc, hb0]) ?_
          conv => enter [1]; whnf
          refine Ends.iteF (by simp) ?_
          conv => enter [1]; whnf
          have hcl := at_lt hm2.hc
          refine hL _ ⟨k, _, by omega, by omega, ⟨List.getElem?_set_self hcl⟩, mm2.setc _ hcp hcq hcr, hG3, ?_, rfl⟩
          have e3 : IntKind.i64.wrap (((k + 1 : Nat) : Int) - 1 - 1) = (k : Int) - 1 := by rw [w64]; omega
          rw [← e3]
          rfl
        · have ck : k = 0 := by have := of_decide_eq_false hcc; omega
          subst ck
          refine Ends.callE (awake13_F mk K lo (by omega) H2 (by have := hG2.len; omega)) (fun v H3 hv => ?_)
          obtain ⟨hv, g3⟩ := hv
          replace hv : v = .bool true := hv
          replace g3 : Grown H2 H3 := g3
          subst hv
          conv => enter [1]; whnf
          have hm3 : HasMach H3 c (updR g0 4 (stO sp (2 * 0), false)) (fun _ => (256, true)) 0 0 p w (256 * 16) 65536 0 := ⟨g3.at hm2.hc⟩
          have hs1 := st_low sp hsp j (by omega)
          refine Ends.iteT (guardT hs1) ?_
          conv => enter [1]; whnf
          refine Ends.opt (hm3.get _) ?_
          conv => enter [1]; whnf
          refine Ends.opt (by rfl) ?_
          conv => enter [1]; whnf
          have hs2 : ((updR g0 4 (stO sp (2 * 0), false) 4).1 == sp) = true := beq_iff_eq.2 hs0
          refine Ends.iteT (guardT hs2) ?_
          conv => enter [1]; whnf
          refine Ends.call (cstate_F mk K lo (by omega) hm3) ?_
          conv => enter [1]; whnf
          exact Ends.some' rfl
      · have e4 : IntKind.i64.wrap ((j : Int) - 1) = (j : Int) - 1 := by rw [w64]; omega
        conv => rhs; rw [← e4]
        rfl
    · conv => enter [1]; whnf
      refine Ends.callE (awake13_F mk K lo (by omega) H' (by have := hG.len; omega)) (fun v H2 hv => ?_)
      obtain ⟨hv, _⟩ := hv
      replace hv : v = .bool true := hv
      subst hv
      conv => enter [1]; whnf
      have hgt : decide ((j : Int) > 0) = true := decide_eq_true (by omega)
      refine Ends.some' ?_
      rw [hgt]
      rfl
end Go.Proofs.Ytkjcipdfciajhaa.VM
