/- AssumePicks by the plain machine: no groups. -/
import Derived.Test.YtbkniomfegbdaaaASe
namespace Go.Proofs.Ytbkniomfegbdaaa.VM
open Go Go.RowKit
set_option linter.unusedVariables false
set_option linter.unusedSimpArgs false
set_option maxRecDepth 40000
set_option maxHeartbeats 3200000
theorem assumePicks_n (mk : Mk) (K lo : Nat) (hK : K = 100) (l : Nat → Int) (v : VL) (H : List Blk) (hlo : lo ≤ H.length) :
    Ends (FF mk (K + 1) lo 3 [.agg (lL l), .agg (vL v), .nils] H) (fun r => r.1 = .bool true) := by
  obtain ⟨loc, hloc⟩ : ∃ x, x = ([] : List (List Val)) := ⟨_, rfl⟩
  obtain ⟨H2, hH2⟩ : ∃ H2, H2 = H ++ [(⟨[], true⟩ : Blk)] := ⟨_, rfl⟩
  obtain ⟨b, hbe⟩ : ∃ b, b = H.length := ⟨_, rfl⟩
  conv => enter [1]; whnf
  rw [and64_3, and64_3]
  conv => enter [1]; whnf
  refine Ends.loopK (fun m T M => 0 < m ∧ T = [.undef, .undef, .nils, .ptr (.lo 0) 0, .ptr (.lo 1) 0, .undef, .undef, .ptr (.lo 2) 0, .sl (.hp b) 0 0 1, .int .i64 0, .undef, .undef, .undef, .undef, .undef, .undef, .undef, .undef, .undef, .undef, .undef, .undef, .undef, .undef, .undef, .undef, .undef, .undef, .undef, .undef, .undef, .undef, .undef, .undef, .undef, .undef, .undef, .undef, .undef, .undef, .undef, .undef, .undef, .undef, .undef, .undef, .undef, .undef, .undef, .undef, .undef, .undef, .undef, .undef, .undef, .undef, .undef, .undef, .undef, .undef, .undef, .undef, .undef, .undef, .undef, .undef, .undef, .undef, .undef, .undef, .undef, .undef, .undef, .undef, .undef, .undef, .undef, .undef, .undef, .undef, .undef, .undef, .undef, .undef, .undef, .undef, .undef, .undef, .undef, .undef, .undef, .undef, .undef, .undef, .undef, .undef, .undef, .undef, .undef, .undef, .undef, .undef, .undef, .undef, .undef, .undef, .undef, .undef, .undef, .undef, .undef, .undef, .undef, .undef, .undef, .undef, .undef, .undef, .undef, .undef, .undef, .undef, .undef, .undef, .undef, .undef, .undef, .undef, .undef, .undef, .undef, .undef, .undef, .undef, .undef, .undef, .undef, .undef, .undef, .undef, .undef, .undef, .undef, .undef, .undef, .undef, .undef, .undef, .undef, .undef, .undef, .undef, .undef, .undef, .undef, .undef, .undef, .undef, .undef, .undef, .undef, .undef, .undef, .undef, .undef, .undef, .undef, .undef, .undef, .undef, .undef, .undef, .undef, .undef, .undef, .undef, .undef, .undef, .undef, .undef, .undef, .undef, .undef] ∧ M = ⟨lL l :: vL v :: vL ⟨v.n, v.f % 4, v.w % 4, v.t, v.z, v.kn⟩ :: loc, H2⟩) (fun T M ⟨h, _⟩ => by omega) ?_ _ _ ⟨by omega, by rw [hbe]; rfl, by rw [hloc, hH2]; rfl⟩
  rintro m T M L KK hKK ⟨_, rfl, rfl⟩ hL
  conv => enter [1]; whnf
  obtain ⟨G, hGd⟩ : ∃ G, G = ([] : List (List Int)) := ⟨_, rfl⟩
  have hiG : 0 = G.length := by rw [hGd]; rfl
  have hGl : G.length ≤ 3 := by omega
  have hG : HasG H2 b G := ⟨⟨[], by rw [hH2, hbe]; exact snoc_top rfl, by rw [hGd]; rfl, fun i h => by rw [hGd] at h; simp at h⟩⟩
  have hg3 : ∀ y ∈ G, y.length ≤ 3 := by rw [hGd]; simp
  have ha : ∀ n, -9223372036854775808 < (nearA l n).2 := fun n => by unfold nearA; simp only; omega
  clear hGd hloc
  rw [hKK]
  conv => enter [1]; whnf
  refine Ends.call (near33_F mk K lo (by omega) l H2) ?_
  conv => enter [1]; whnf
  repeat (first
    | (refine Ends.force ?_; conv => enter [1]; whnf)
    | (refine Ends.forceN ?_; conv => enter [1]; whnf)
    | (refine Ends.forceLs ?_; conv => enter [1]; whnf)
    | (refine Ends.iteT (by first | with_reducible assumption | (simp [*]; done) | (apply decide_eq_true; omega) | fail "open") ?_; conv => enter [1]; whnf)
    | (refine Ends.iteF (by first | with_reducible assumption | (simp [*]; done) | (apply decide_eq_false; omega) | fail "open") ?_; conv => enter [1]; whnf))
  refine Ends.opt (loc3_get) ?_
  conv => enter [1]; whnf
  repeat (first
    | (refine Ends.force ?_; conv => enter [1]; whnf)
    | (refine Ends.forceN ?_; conv => enter [1]; whnf)
    | (refine Ends.forceLs ?_; conv => enter [1]; whnf)
    | (refine Ends.iteT (by first | with_reducible assumption | (simp [*]; done) | (apply decide_eq_true; omega) | fail "open") ?_; conv => enter [1]; whnf)
    | (refine Ends.iteF (by first | with_reducible assumption | (simp [*]; done) | (apply decide_eq_false; omega) | fail "open") ?_; conv => enter [1]; whnf))
  refine Ends.loopK (fun m T M => ∃ j : Nat, j ≤ 4 ∧ 4 - j < m ∧ T = [.undef, .undef, .undef, .ptr (.lo 0) 0, .undef, .undef, .undef, .ptr (.lo 2) 0, .sl (.hp b) 0 G.length 1, .undef, .undef, .undef, .ptr (.lo (lL l :: vL v :: vL ⟨v.n, v.f % 4, v.w % 4, v.t, v.z, v.kn⟩ :: loc).length) 0, .int .i64 (v.t % 4), .int .i64 (j : Int), .undef, .undef, .undef, .undef, .undef, .undef, .undef, .undef, .undef, .undef, .undef, .undef, .undef, .undef, .undef, .undef, .undef, .undef, .undef, .undef, .undef, .undef, .undef, .undef, .undef, .undef, .undef, .undef, .undef, .undef, .undef, .undef, .undef, .undef, .undef, .undef, .undef, .undef, .undef, .undef, .undef, .undef, .undef, .undef, .undef, .undef, .undef, .undef, .undef, .undef, .undef, .undef, .undef, .undef, .undef, .undef, .undef, .undef, .undef, .undef, .undef, .undef, .undef, .undef, .undef, .undef, .undef, .undef, .undef, .undef, .undef, .undef, .undef, .undef, .undef, .undef, .undef, .undef, .undef, .undef, .undef, .undef, .undef, .undef, .undef, .undef, .undef, .undef, .undef, .undef, .undef, .undef, .undef, .undef, .undef, .undef, .undef, .undef, .undef, .undef, .undef, .undef, .undef, .undef, .undef, .undef, .undef, .undef, .undef, .undef, .undef, .undef, .undef, .undef, .undef, .undef, .undef, .undef, .undef, .undef, .undef, .undef, .undef, .undef, .undef, .undef, .undef, .undef, .undef, .undef, .undef, .undef, .undef, .undef, .undef, .undef, .undef, .undef, .undef, .undef, .undef, .undef, .undef, .undef, .undef, .undef, .undef, .undef, .undef, .undef, .undef, .undef, .undef, .undef, .undef, .undef, .undef, .undef, .undef, .undef, .undef, .undef, .undef, .undef, .undef, .undef, .undef, .undef] ∧ M = ⟨lL l :: vL v :: vL ⟨v.n, v.f % 4, v.w % 4, v.t, v.z, v.kn⟩ :: (loc ++ [asL (nearA l)]), H2⟩) (fun T M ⟨j, _, h, _⟩ => by omega) ?_ _ _ ⟨0, by omega, by omega, by rw [and64_3 v.t, ← hiG]; rfl, ?_⟩
  · rintro m2 T M L2 KK2 hKK2 ⟨j, j1, j2, rfl, rfl⟩ hL2
    conv => enter [1]; whnf
    refine Ends.ite (fun hcc => ?_) (fun hcc => ?_) <;> (conv => enter [1]; whnf)
    · have cj : j < 4 := by have := of_decide_eq_true hcc; omega
      repeat (first
        | (refine Ends.force ?_; conv => enter [1]; whnf)
        | (refine Ends.forceN ?_; conv => enter [1]; whnf)
        | (refine Ends.forceLs ?_; conv => enter [1]; whnf)
        | (refine Ends.iteT (by first | with_reducible assumption | (simp [*]; done) | (apply decide_eq_true; omega) | fail "open") ?_; conv => enter [1]; whnf)
        | (refine Ends.iteF (by first | with_reducible assumption | (simp [*]; done) | (apply decide_eq_false; omega) | fail "open") ?_; conv => enter [1]; whnf))
      refine Ends.opt (loc3_get') ?_
      conv => enter [1]; whnf
      repeat (first
        | (refine Ends.force ?_; conv => enter [1]; whnf)
        | (refine Ends.forceN ?_; conv => enter [1]; whnf)
        | (refine Ends.forceLs ?_; conv => enter [1]; whnf)
        | (refine Ends.iteT (by first | with_reducible assumption | (simp [*]; done) | (apply decide_eq_true; omega) | fail "open") ?_; conv => enter [1]; whnf)
        | (refine Ends.iteF (by first | with_reducible assumption | (simp [*]; done) | (apply decide_eq_false; omega) | fail "open") ?_; conv => enter [1]; whnf))
      refine Ends.call (ahas_F mk K lo (by omega) (nearA l) j cj (ha j) ⟨v.n, v.f % 4, v.w % 4, v.t, v.z, v.kn⟩ H2 b G hG hg3 hGl) ?_
      conv => enter [1]; whnf
      refine Ends.call (lhas_F mk K lo (by omega) l j cj ⟨v.n, v.f % 4, v.w % 4, v.t, v.z, v.kn⟩ H2 b G hG hg3 hGl) ?_
      conv => enter [1]; whnf
      repeat (first
        | (refine Ends.force ?_; conv => enter [1]; whnf)
        | (refine Ends.forceN ?_; conv => enter [1]; whnf)
        | (refine Ends.forceLs ?_; conv => enter [1]; whnf)
        | (refine Ends.iteT (by first | with_reducible assumption | (simp [*]; done) | (apply decide_eq_true; omega) | fail "open") ?_; conv => enter [1]; whnf)
        | (refine Ends.iteF (by first | with_reducible assumption | (simp [*]; done) | (apply decide_eq_false; omega) | fail "open") ?_; conv => enter [1]; whnf))
      refine hL2 _ ⟨j + 1, by omega, by omega, ?_, rfl⟩
      have e3 : IntKind.i64.wrap ((j : Int) + 1) = ((j + 1 : Nat) : Int) := by rw [w64]; omega
      rw [← e3]
      rfl
    · rw [hKK2]
      obtain ⟨u, hu⟩ : ∃ u : Nat, v.t % 4 = (u : Int) := ⟨(v.t % 4).toNat, by omega⟩
      have hu4 : u < 4 := by omega
      obtain ⟨f, hf⟩ : ∃ f, f = v.f % 4 := ⟨_, rfl⟩
      obtain ⟨w, hw⟩ : ∃ w, w = v.w % 4 := ⟨_, rfl⟩
      rw [hu, ← hf, ← hw]
      obtain ⟨LL, hLL⟩ : ∃ LL, LL = lL l :: vL v :: vL ⟨v.n, f, w, v.t, v.z, v.kn⟩ :: (loc ++ [asL (nearA l)]) := ⟨_, rfl⟩
      obtain ⟨N, hN⟩ : ∃ N, N = (lL l :: vL v :: vL ⟨v.n, f, w, v.t, v.z, v.kn⟩ :: loc).length := ⟨_, rfl⟩
      have l0 : ∀ X, Mem.get ⟨LL ++ X, H2⟩ (.lo 0) = some (lL l) := fun X => by rw [hLL]; rfl
      have l2 : ∀ X, Mem.get ⟨LL ++ X, H2⟩ (.lo 2) = some (vL ⟨v.n, f, w, v.t, v.z, v.kn⟩) := fun X => by rw [hLL]; rfl
      have lN : ∀ X, Mem.get ⟨LL ++ X, H2⟩ (.lo N) = some (asL (nearA l)) := fun X => by rw [hLL, hN]; simp [Mem.get]
      have lN1 : LL.length = N + 1 := by rw [hLL, hN]; simp
      have l0' := l0 []; have l2' := l2 []; have lN' := lN []
      rw [List.append_nil] at l0' l2' lN'
      rw [← hN, ← hLL]
      have fb : 0 ≤ f ∧ f < 4 := by omega
      clear hLL hN hf hw hu
      have hpF := pick_F mk K lo (by omega) (nearA l) u hu4 ha ⟨v.n, f, w, v.t, v.z, v.kn⟩ H2 b G hG hg3 hGl
      replace hpF : _ = some (Val.tup [.int .i64 ((pickP (nearA l) u f w G).1 : Nat), .bool (pickP (nearA l) u f w G).2], H2) := hpF
      by_cases cf : f = 1 ∨ f = 2
      · have hlu := lhas_F mk K lo (by omega) l u hu4 ⟨v.n, f, w, v.t, v.z, v.kn⟩ H2 b G hG hg3 hGl
        replace hlu : _ = some (Val.bool (hasB (nearA l) u f w G), H2) := hlu
        rcases cf with cf | cf
        · skip
          have fN0 : ¬ f = 0 := by omega
          have fN3 : ¬ f = 3 := by omega
          have q1 : f = 1 := cf
          clear cf fb
          cases eu : hasB (nearA l) u f w G <;> rw [eu] at hlu
          · have hpk := pkS_4 (a := nearA l) (u := u) (f := f) (w := w) (G := G) fN0 fN3 eu
            conv => enter [1]; whnf
            refine Ends.opt ((by first | exact l2' | exact l2 _)) ?_
            conv => enter [1]; whnf
            repeat (first
              | (refine Ends.force ?_; conv => enter [1]; whnf)
              | (refine Ends.forceN ?_; conv => enter [1]; whnf)
              | (refine Ends.forceLs ?_; conv => enter [1]; whnf)
              | (refine Ends.iteT (by first | with_reducible assumption | (simp [*]; done) | (apply decide_eq_true; omega) | fail "open") ?_; conv => enter [1]; whnf)
              | (refine Ends.iteF (by first | with_reducible assumption | (simp [*]; done) | (apply decide_eq_false; omega) | fail "open") ?_; conv => enter [1]; whnf))
            refine Ends.opt ((by first | exact l0' | exact l0 _)) ?_
            conv => enter [1]; whnf
            repeat (first
              | (refine Ends.force ?_; conv => enter [1]; whnf)
              | (refine Ends.forceN ?_; conv => enter [1]; whnf)
              | (refine Ends.forceLs ?_; conv => enter [1]; whnf)
              | (refine Ends.iteT (by first | with_reducible assumption | (simp [*]; done) | (apply decide_eq_true; omega) | fail "open") ?_; conv => enter [1]; whnf)
              | (refine Ends.iteF (by first | with_reducible assumption | (simp [*]; done) | (apply decide_eq_false; omega) | fail "open") ?_; conv => enter [1]; whnf))
            refine Ends.opt ((by first | exact l2' | exact l2 _)) ?_
            conv => enter [1]; whnf
            repeat (first
              | (refine Ends.force ?_; conv => enter [1]; whnf)
              | (refine Ends.forceN ?_; conv => enter [1]; whnf)
              | (refine Ends.forceLs ?_; conv => enter [1]; whnf)
              | (refine Ends.iteT (by first | with_reducible assumption | (simp [*]; done) | (apply decide_eq_true; omega) | fail "open") ?_; conv => enter [1]; whnf)
              | (refine Ends.iteF (by first | with_reducible assumption | (simp [*]; done) | (apply decide_eq_false; omega) | fail "open") ?_; conv => enter [1]; whnf))
            refine Ends.call (hlu) ?_
            conv => enter [1]; whnf
            repeat (first
              | (refine Ends.force ?_; conv => enter [1]; whnf)
              | (refine Ends.forceN ?_; conv => enter [1]; whnf)
              | (refine Ends.forceLs ?_; conv => enter [1]; whnf)
              | (refine Ends.iteT (by first | with_reducible assumption | (simp [*]; done) | (apply decide_eq_true; omega) | fail "open") ?_; conv => enter [1]; whnf)
              | (refine Ends.iteF (by first | with_reducible assumption | (simp [*]; done) | (apply decide_eq_false; omega) | fail "open") ?_; conv => enter [1]; whnf))
            refine Ends.loopK (fun m T M => ∃ r : Nat, r ≤ 4 ∧ 4 - r < m ∧ T = [.undef, .undef, .undef, .ptr (.lo 0) 0, .undef, .undef, .undef, .ptr (.lo 2) 0, .sl (.hp b) 0 G.length 1, .undef, .undef, .undef, .ptr (.lo N) 0, .int .i64 (u : Int), .undef, .int .i64 ((pkS (nearA l) u f w G r).1 : Nat), .bool (pkS (nearA l) u f w G r).2, .undef, .undef, .undef, .undef, .undef, .undef, .undef, .undef, .undef, .undef, .undef, .undef, .undef, .undef, .undef, .undef, .undef, .undef, .undef, .undef, .undef, .undef, .undef, .undef, .undef, .undef, .undef, .undef, .undef, .undef, .undef, .undef, .undef, .undef, .undef, .undef, .undef, .undef, .undef, .undef, .undef, .undef, .undef, .undef, .undef, .undef, .undef, .undef, .undef, .undef, .undef, .undef, .undef, .undef, .undef, .undef, .undef, .undef, .undef, .undef, .undef, .undef, .undef, .undef, .undef, .undef, .undef, .undef, .undef, .undef, .undef, .undef, .undef, .undef, .undef, .undef, .undef, .undef, .undef, .undef, .undef, .undef, .undef, .undef, .undef, .undef, .undef, .undef, .undef, .undef, .undef, .undef, .undef, .sl (.lo LL.length) 0 4 1, .int .i64 4, .int .i64 (r : Int), .undef, .undef, .undef, .undef, .undef, .undef, .undef, .undef, .undef, .undef, .undef, .undef, .undef, .undef, .undef, .undef, .undef, .undef, .undef, .undef, .undef, .undef, .undef, .undef, .undef, .undef, .undef, .undef, .undef, .undef, .undef, .undef, .undef, .undef, .undef, .undef, .undef, .undef, .undef, .undef, .undef, .undef, .undef, .undef, .undef, .undef, .undef, .undef, .undef, .undef, .undef, .undef, .undef, .undef, .undef, .undef, .undef, .undef, .undef, .undef, .undef, .undef, .undef, .undef, .undef, .undef, .undef, .undef, .undef, .undef] ∧ M = ⟨LL ++ [[.int .i64 3, .int .i64 2, .int .i64 0, .int .i64 1]], H2⟩) (fun T M ⟨r, _, h, _⟩ => by omega) ?_ _ _ ⟨0, by omega, by omega, rfl, rfl⟩
            rintro m3 T M L3 KK3 hKK3 ⟨r, r1, r2, rfl, rfl⟩ hL3
            have hord : ∀ X, Mem.get ⟨LL ++ [X], H2⟩ (.lo LL.length) = some X := fun X => by simp [Mem.get]
            have e3 : IntKind.i64.wrap ((r : Int) + 1) = ((r + 1 : Nat) : Int) := by rw [w64]; omega
            by_cases cr : r < 4
            · have hpkr : pkS (nearA l) u f w G (r + 1) = if (pkS (nearA l) u f w G r).2 = true then pkS (nearA l) u f w G r else if hasB (nearA l) (pkO.getD r 0) f w G = true then (pkO.getD r 0, true) else pkS (nearA l) u f w G r := rfl
              have hro : pkO.getD r 0 < 4 := pkO_lt r
              have hcell : getAt r [Val.int .i64 3, Val.int .i64 2, Val.int .i64 0, Val.int .i64 1] = some (.int .i64 ((pkO.getD r 0 : Nat) : Int)) := by
                rcases (show r = 0 ∨ r = 1 ∨ r = 2 ∨ r = 3 by omega) with rfl | rfl | rfl | rfl <;> rfl
              have hlr := lhas_F mk K lo (by omega) l (pkO.getD r 0) hro ⟨v.n, f, w, v.t, v.z, v.kn⟩ H2 b G hG hg3 hGl
              replace hlr : _ = some (Val.bool (hasB (nearA l) (pkO.getD r 0) f w G), H2) := hlr
              generalize pkO.getD r 0 = o at *
              generalize hPr : pkS (nearA l) u f w G r = P at *
              obtain ⟨pn, pb⟩ := P
              have c1 : (r : Int) < 4 := by omega
              conv => enter [1]; whnf
              repeat (first
                | (refine Ends.force ?_; conv => enter [1]; whnf)
                | (refine Ends.forceN ?_; conv => enter [1]; whnf)
                | (refine Ends.forceLs ?_; conv => enter [1]; whnf)
                | (refine Ends.iteT (by first | with_reducible assumption | (simp [*]; done) | (apply decide_eq_true; omega) | fail "open") ?_; conv => enter [1]; whnf)
                | (refine Ends.iteF (by first | with_reducible assumption | (simp [*]; done) | (apply decide_eq_false; omega) | fail "open") ?_; conv => enter [1]; whnf))
              refine Ends.opt (hord _) ?_
              conv => enter [1]; whnf
              refine Ends.opt (partInt' hcell (by omega)) ?_
              conv => enter [1]; whnf
              repeat (first
                | (refine Ends.force ?_; conv => enter [1]; whnf)
                | (refine Ends.forceN ?_; conv => enter [1]; whnf)
                | (refine Ends.forceLs ?_; conv => enter [1]; whnf)
                | (refine Ends.iteT (by first | with_reducible assumption | (simp [*]; done) | (apply decide_eq_true; omega) | fail "open") ?_; conv => enter [1]; whnf)
                | (refine Ends.iteF (by first | with_reducible assumption | (simp [*]; done) | (apply decide_eq_false; omega) | fail "open") ?_; conv => enter [1]; whnf))
              cases pb
              · cases er : hasB (nearA l) o f w G <;> rw [er] at hlr hpkr
                · skip
                  conv => enter [1]; whnf
                  refine Ends.opt ((by first | exact l0' | exact l0 _)) ?_
                  conv => enter [1]; whnf
                  repeat (first
                    | (refine Ends.force ?_; conv => enter [1]; whnf)
                    | (refine Ends.forceN ?_; conv => enter [1]; whnf)
                    | (refine Ends.forceLs ?_; conv => enter [1]; whnf)
                    | (refine Ends.iteT (by first | with_reducible assumption | (simp [*]; done) | (apply decide_eq_true; omega) | fail "open") ?_; conv => enter [1]; whnf)
                    | (refine Ends.iteF (by first | with_reducible assumption | (simp [*]; done) | (apply decide_eq_false; omega) | fail "open") ?_; conv => enter [1]; whnf))
                  refine Ends.opt ((by first | exact l2' | exact l2 _)) ?_
                  conv => enter [1]; whnf
                  repeat (first
                    | (refine Ends.force ?_; conv => enter [1]; whnf)
                    | (refine Ends.forceN ?_; conv => enter [1]; whnf)
                    | (refine Ends.forceLs ?_; conv => enter [1]; whnf)
                    | (refine Ends.iteT (by first | with_reducible assumption | (simp [*]; done) | (apply decide_eq_true; omega) | fail "open") ?_; conv => enter [1]; whnf)
                    | (refine Ends.iteF (by first | with_reducible assumption | (simp [*]; done) | (apply decide_eq_false; omega) | fail "open") ?_; conv => enter [1]; whnf))
                  refine Ends.call (hlr) ?_
                  conv => enter [1]; whnf
                  repeat (first
                    | (refine Ends.force ?_; conv => enter [1]; whnf)
                    | (refine Ends.forceN ?_; conv => enter [1]; whnf)
                    | (refine Ends.forceLs ?_; conv => enter [1]; whnf)
                    | (refine Ends.iteT (by first | with_reducible assumption | (simp [*]; done) | (apply decide_eq_true; omega) | fail "open") ?_; conv => enter [1]; whnf)
                    | (refine Ends.iteF (by first | with_reducible assumption | (simp [*]; done) | (apply decide_eq_false; omega) | fail "open") ?_; conv => enter [1]; whnf))
                  refine hL3 _ ⟨r + 1, by omega, by omega, ?_, rfl⟩
                  rw [hpkr, ← e3]
                  rfl
                · skip
                  conv => enter [1]; whnf
                  refine Ends.opt ((by first | exact l0' | exact l0 _)) ?_
                  conv => enter [1]; whnf
                  repeat (first
                    | (refine Ends.force ?_; conv => enter [1]; whnf)
                    | (refine Ends.forceN ?_; conv => enter [1]; whnf)
                    | (refine Ends.forceLs ?_; conv => enter [1]; whnf)
                    | (refine Ends.iteT (by first | with_reducible assumption | (simp [*]; done) | (apply decide_eq_true; omega) | fail "open") ?_; conv => enter [1]; whnf)
                    | (refine Ends.iteF (by first | with_reducible assumption | (simp [*]; done) | (apply decide_eq_false; omega) | fail "open") ?_; conv => enter [1]; whnf))
                  refine Ends.opt ((by first | exact l2' | exact l2 _)) ?_
                  conv => enter [1]; whnf
                  repeat (first
                    | (refine Ends.force ?_; conv => enter [1]; whnf)
                    | (refine Ends.forceN ?_; conv => enter [1]; whnf)
                    | (refine Ends.forceLs ?_; conv => enter [1]; whnf)
                    | (refine Ends.iteT (by first | with_reducible assumption | (simp [*]; done) | (apply decide_eq_true; omega) | fail "open") ?_; conv => enter [1]; whnf)
                    | (refine Ends.iteF (by first | with_reducible assumption | (simp [*]; done) | (apply decide_eq_false; omega) | fail "open") ?_; conv => enter [1]; whnf))
                  refine Ends.call (hlr) ?_
                  conv => enter [1]; whnf
                  repeat (first
                    | (refine Ends.force ?_; conv => enter [1]; whnf)
                    | (refine Ends.forceN ?_; conv => enter [1]; whnf)
                    | (refine Ends.forceLs ?_; conv => enter [1]; whnf)
                    | (refine Ends.iteT (by first | with_reducible assumption | (simp [*]; done) | (apply decide_eq_true; omega) | fail "open") ?_; conv => enter [1]; whnf)
                    | (refine Ends.iteF (by first | with_reducible assumption | (simp [*]; done) | (apply decide_eq_false; omega) | fail "open") ?_; conv => enter [1]; whnf))
                  refine hL3 _ ⟨r + 1, by omega, by omega, ?_, rfl⟩
                  rw [hpkr, ← e3]
                  rfl
              · skip
                conv => enter [1]; whnf
                repeat (first
                  | (refine Ends.force ?_; conv => enter [1]; whnf)
                  | (refine Ends.forceN ?_; conv => enter [1]; whnf)
                  | (refine Ends.forceLs ?_; conv => enter [1]; whnf)
                  | (refine Ends.iteT (by first | with_reducible assumption | (simp [*]; done) | (apply decide_eq_true; omega) | fail "open") ?_; conv => enter [1]; whnf)
                  | (refine Ends.iteF (by first | with_reducible assumption | (simp [*]; done) | (apply decide_eq_false; omega) | fail "open") ?_; conv => enter [1]; whnf))
                refine hL3 _ ⟨r + 1, by omega, by omega, ?_, rfl⟩
                rw [hpkr, ← e3]
                rfl
            · have hr4 : r = 4 := by omega
              subst hr4
              have hlt := pkS_lt (a := nearA l) (f := f) (w := w) (G := G) hu4 4
              rw [hpk] at hpF
              generalize hPr : pkS (nearA l) u f w G 4 = P at *
              obtain ⟨pn, pb⟩ := P
              have hpn : pn < 4 := hlt
              have hp : _ = some (Val.tup [.int .i64 (pn : Int), .bool pb], H2) := hpF
              conv => enter [1]; whnf
              rw [hKK3]
              conv => enter [1]; whnf
              have hfr := frame_F mk K lo (by omega) (nearA l) pn hpn ⟨v.n, f, w, v.t, v.z, v.kn⟩ H2
              replace hfr : _ = some (Val.tup [.int .i64 (if f = 1 ∧ (nearA l pn).1 = 2 then 2 else f), .int .i64 (if f = 1 ∧ (nearA l pn).1 = 2 then (nearA l pn).2 else w)], H2) := hfr
              have hm3 : (IntKind.i64.wrap ((BitVec.ofInt IntKind.i64.bits (pn : Int) &&& BitVec.ofInt IntKind.i64.bits 3).toNat : Nat)) = (pn : Int) := by rw [and64_3]; omega
              have ho0 : 0 + ((IntKind.i64.wrap ((BitVec.ofInt IntKind.i64.bits (pn : Int) &&& BitVec.ofInt IntKind.i64.bits 3).toNat : Nat)).toNat) * 2 + 0 = 2 * pn := by rw [hm3]; omega
              have ho1 : 0 + ((IntKind.i64.wrap ((BitVec.ofInt IntKind.i64.bits (pn : Int) &&& BitVec.ofInt IntKind.i64.bits 3).toNat : Nat)).toNat) * 2 + 1 = 2 * pn + 1 := by rw [hm3]; omega

              by_cases q2 : (nearA l pn).1 = 2
              · rw [if_pos ⟨q1, q2⟩, if_pos ⟨q1, q2⟩] at hfr
                refine Ends.opt ((by first | exact lN' | exact lN _)) ?_
                conv => enter [1]; whnf
                repeat (first
                  | (refine Ends.force ?_; conv => enter [1]; whnf)
                  | (refine Ends.forceN ?_; conv => enter [1]; whnf)
                  | (refine Ends.forceLs ?_; conv => enter [1]; whnf)
                  | (refine Ends.iteT (by first | with_reducible assumption | (simp [*]; done) | (apply decide_eq_true; omega) | fail "open") ?_; conv => enter [1]; whnf)
                  | (refine Ends.iteF (by first | with_reducible assumption | (simp [*]; done) | (apply decide_eq_false; omega) | fail "open") ?_; conv => enter [1]; whnf))
                refine Ends.opt ((by first | exact l2' | exact l2 _)) ?_
                conv => enter [1]; whnf
                repeat (first
                  | (refine Ends.force ?_; conv => enter [1]; whnf)
                  | (refine Ends.forceN ?_; conv => enter [1]; whnf)
                  | (refine Ends.forceLs ?_; conv => enter [1]; whnf)
                  | (refine Ends.iteT (by first | with_reducible assumption | (simp [*]; done) | (apply decide_eq_true; omega) | fail "open") ?_; conv => enter [1]; whnf)
                  | (refine Ends.iteF (by first | with_reducible assumption | (simp [*]; done) | (apply decide_eq_false; omega) | fail "open") ?_; conv => enter [1]; whnf))
                refine Ends.call (hp) ?_
                conv => enter [1]; whnf
                repeat (first
                  | (refine Ends.force ?_; conv => enter [1]; whnf)
                  | (refine Ends.forceN ?_; conv => enter [1]; whnf)
                  | (refine Ends.forceLs ?_; conv => enter [1]; whnf)
                  | (refine Ends.iteT (by first | with_reducible assumption | (simp [*]; done) | (apply decide_eq_true; omega) | fail "open") ?_; conv => enter [1]; whnf)
                  | (refine Ends.iteF (by first | with_reducible assumption | (simp [*]; done) | (apply decide_eq_false; omega) | fail "open") ?_; conv => enter [1]; whnf))
                refine Ends.opt ((by first | exact lN' | exact lN _)) ?_
                conv => enter [1]; whnf
                repeat (first
                  | (refine Ends.force ?_; conv => enter [1]; whnf)
                  | (refine Ends.forceN ?_; conv => enter [1]; whnf)
                  | (refine Ends.forceLs ?_; conv => enter [1]; whnf)
                  | (refine Ends.iteT (by first | with_reducible assumption | (simp [*]; done) | (apply decide_eq_true; omega) | fail "open") ?_; conv => enter [1]; whnf)
                  | (refine Ends.iteF (by first | with_reducible assumption | (simp [*]; done) | (apply decide_eq_false; omega) | fail "open") ?_; conv => enter [1]; whnf))
                refine Ends.opt ((by first | exact l2' | exact l2 _)) ?_
                conv => enter [1]; whnf
                repeat (first
                  | (refine Ends.force ?_; conv => enter [1]; whnf)
                  | (refine Ends.forceN ?_; conv => enter [1]; whnf)
                  | (refine Ends.forceLs ?_; conv => enter [1]; whnf)
                  | (refine Ends.iteT (by first | with_reducible assumption | (simp [*]; done) | (apply decide_eq_true; omega) | fail "open") ?_; conv => enter [1]; whnf)
                  | (refine Ends.iteF (by first | with_reducible assumption | (simp [*]; done) | (apply decide_eq_false; omega) | fail "open") ?_; conv => enter [1]; whnf))
                refine Ends.call (hfr) ?_
                conv => enter [1]; whnf
                repeat (first
                  | (refine Ends.force ?_; conv => enter [1]; whnf)
                  | (refine Ends.forceN ?_; conv => enter [1]; whnf)
                  | (refine Ends.forceLs ?_; conv => enter [1]; whnf)
                  | (refine Ends.iteT (by first | with_reducible assumption | (simp [*]; done) | (apply decide_eq_true; omega) | fail "open") ?_; conv => enter [1]; whnf)
                  | (refine Ends.iteF (by first | with_reducible assumption | (simp [*]; done) | (apply decide_eq_false; omega) | fail "open") ?_; conv => enter [1]; whnf))
                refine Ends.opt ((by first | exact l2' | exact l2 _)) ?_
                conv => enter [1]; whnf
                repeat (first
                  | (refine Ends.force ?_; conv => enter [1]; whnf)
                  | (refine Ends.forceN ?_; conv => enter [1]; whnf)
                  | (refine Ends.forceLs ?_; conv => enter [1]; whnf)
                  | (refine Ends.iteT (by first | with_reducible assumption | (simp [*]; done) | (apply decide_eq_true; omega) | fail "open") ?_; conv => enter [1]; whnf)
                  | (refine Ends.iteF (by first | with_reducible assumption | (simp [*]; done) | (apply decide_eq_false; omega) | fail "open") ?_; conv => enter [1]; whnf))
                refine Ends.opt ((by first | exact l2' | exact l2 _)) ?_
                conv => enter [1]; whnf
                repeat (first
                  | (refine Ends.force ?_; conv => enter [1]; whnf)
                  | (refine Ends.forceN ?_; conv => enter [1]; whnf)
                  | (refine Ends.forceLs ?_; conv => enter [1]; whnf)
                  | (refine Ends.iteT (by first | with_reducible assumption | (simp [*]; done) | (apply decide_eq_true; omega) | fail "open") ?_; conv => enter [1]; whnf)
                  | (refine Ends.iteF (by first | with_reducible assumption | (simp [*]; done) | (apply decide_eq_false; omega) | fail "open") ?_; conv => enter [1]; whnf))
                refine Ends.opt ((by first | exact l2' | exact l2 _)) ?_
                conv => enter [1]; whnf
                repeat (first
                  | (refine Ends.force ?_; conv => enter [1]; whnf)
                  | (refine Ends.forceN ?_; conv => enter [1]; whnf)
                  | (refine Ends.forceLs ?_; conv => enter [1]; whnf)
                  | (refine Ends.iteT (by first | with_reducible assumption | (simp [*]; done) | (apply decide_eq_true; omega) | fail "open") ?_; conv => enter [1]; whnf)
                  | (refine Ends.iteF (by first | with_reducible assumption | (simp [*]; done) | (apply decide_eq_false; omega) | fail "open") ?_; conv => enter [1]; whnf))
                refine Ends.opt ((by first | exact lN' | exact lN _)) ?_
                conv => enter [1]; whnf
                refine Ends.opt (partAs0 hpn ho0) ?_
                conv => enter [1]; whnf
                repeat (first
                  | (refine Ends.force ?_; conv => enter [1]; whnf)
                  | (refine Ends.forceN ?_; conv => enter [1]; whnf)
                  | (refine Ends.forceLs ?_; conv => enter [1]; whnf)
                  | (refine Ends.iteT (by first | with_reducible assumption | (simp [*]; done) | (apply decide_eq_true; omega) | fail "open") ?_; conv => enter [1]; whnf)
                  | (refine Ends.iteF (by first | with_reducible assumption | (simp [*]; done) | (apply decide_eq_false; omega) | fail "open") ?_; conv => enter [1]; whnf))
                refine Ends.opt ((by first | exact lN' | exact lN _)) ?_
                conv => enter [1]; whnf
                refine Ends.opt (partAs1 hpn ho1) ?_
                conv => enter [1]; whnf
                repeat (first
                  | (refine Ends.force ?_; conv => enter [1]; whnf)
                  | (refine Ends.forceN ?_; conv => enter [1]; whnf)
                  | (refine Ends.forceLs ?_; conv => enter [1]; whnf)
                  | (refine Ends.iteT (by first | with_reducible assumption | (simp [*]; done) | (apply decide_eq_true; omega) | fail "open") ?_; conv => enter [1]; whnf)
                  | (refine Ends.iteF (by first | with_reducible assumption | (simp [*]; done) | (apply decide_eq_false; omega) | fail "open") ?_; conv => enter [1]; whnf))
                refine Ends.call (awake33_F mk K lo (by omega) H2) ?_
                conv => enter [1]; whnf
                repeat (first
                  | (refine Ends.force ?_; conv => enter [1]; whnf)
                  | (refine Ends.forceN ?_; conv => enter [1]; whnf)
                  | (refine Ends.forceLs ?_; conv => enter [1]; whnf)
                  | (refine Ends.iteT (by first | with_reducible assumption | (simp [*]; done) | (apply decide_eq_true; omega) | fail "open") ?_; conv => enter [1]; whnf)
                  | (refine Ends.iteF (by first | with_reducible assumption | (simp [*]; done) | (apply decide_eq_false; omega) | fail "open") ?_; conv => enter [1]; whnf))
                refine Ends.some' ?_
                simp
              · rw [if_neg (fun z => q2 z.2), if_neg (fun z => q2 z.2)] at hfr
                refine Ends.opt ((by first | exact lN' | exact lN _)) ?_
                conv => enter [1]; whnf
                repeat (first
                  | (refine Ends.force ?_; conv => enter [1]; whnf)
                  | (refine Ends.forceN ?_; conv => enter [1]; whnf)
                  | (refine Ends.forceLs ?_; conv => enter [1]; whnf)
                  | (refine Ends.iteT (by first | with_reducible assumption | (simp [*]; done) | (apply decide_eq_true; omega) | fail "open") ?_; conv => enter [1]; whnf)
                  | (refine Ends.iteF (by first | with_reducible assumption | (simp [*]; done) | (apply decide_eq_false; omega) | fail "open") ?_; conv => enter [1]; whnf))
                refine Ends.opt ((by first | exact l2' | exact l2 _)) ?_
                conv => enter [1]; whnf
                repeat (first
                  | (refine Ends.force ?_; conv => enter [1]; whnf)
                  | (refine Ends.forceN ?_; conv => enter [1]; whnf)
                  | (refine Ends.forceLs ?_; conv => enter [1]; whnf)
                  | (refine Ends.iteT (by first | with_reducible assumption | (simp [*]; done) | (apply decide_eq_true; omega) | fail "open") ?_; conv => enter [1]; whnf)
                  | (refine Ends.iteF (by first | with_reducible assumption | (simp [*]; done) | (apply decide_eq_false; omega) | fail "open") ?_; conv => enter [1]; whnf))
                refine Ends.call (hp) ?_
                conv => enter [1]; whnf
                repeat (first
                  | (refine Ends.force ?_; conv => enter [1]; whnf)
                  | (refine Ends.forceN ?_; conv => enter [1]; whnf)
                  | (refine Ends.forceLs ?_; conv => enter [1]; whnf)
                  | (refine Ends.iteT (by first | with_reducible assumption | (simp [*]; done) | (apply decide_eq_true; omega) | fail "open") ?_; conv => enter [1]; whnf)
                  | (refine Ends.iteF (by first | with_reducible assumption | (simp [*]; done) | (apply decide_eq_false; omega) | fail "open") ?_; conv => enter [1]; whnf))
                refine Ends.opt ((by first | exact lN' | exact lN _)) ?_
                conv => enter [1]; whnf
                repeat (first
                  | (refine Ends.force ?_; conv => enter [1]; whnf)
                  | (refine Ends.forceN ?_; conv => enter [1]; whnf)
                  | (refine Ends.forceLs ?_; conv => enter [1]; whnf)
                  | (refine Ends.iteT (by first | with_reducible assumption | (simp [*]; done) | (apply decide_eq_true; omega) | fail "open") ?_; conv => enter [1]; whnf)
                  | (refine Ends.iteF (by first | with_reducible assumption | (simp [*]; done) | (apply decide_eq_false; omega) | fail "open") ?_; conv => enter [1]; whnf))
                refine Ends.opt ((by first | exact l2' | exact l2 _)) ?_
                conv => enter [1]; whnf
                repeat (first
                  | (refine Ends.force ?_; conv => enter [1]; whnf)
                  | (refine Ends.forceN ?_; conv => enter [1]; whnf)
                  | (refine Ends.forceLs ?_; conv => enter [1]; whnf)
                  | (refine Ends.iteT (by first | with_reducible assumption | (simp [*]; done) | (apply decide_eq_true; omega) | fail "open") ?_; conv => enter [1]; whnf)
                  | (refine Ends.iteF (by first | with_reducible assumption | (simp [*]; done) | (apply decide_eq_false; omega) | fail "open") ?_; conv => enter [1]; whnf))
                refine Ends.call (hfr) ?_
                conv => enter [1]; whnf
                repeat (first
                  | (refine Ends.force ?_; conv => enter [1]; whnf)
                  | (refine Ends.forceN ?_; conv => enter [1]; whnf)
                  | (refine Ends.forceLs ?_; conv => enter [1]; whnf)
                  | (refine Ends.iteT (by first | with_reducible assumption | (simp [*]; done) | (apply decide_eq_true; omega) | fail "open") ?_; conv => enter [1]; whnf)
                  | (refine Ends.iteF (by first | with_reducible assumption | (simp [*]; done) | (apply decide_eq_false; omega) | fail "open") ?_; conv => enter [1]; whnf))
                refine Ends.opt ((by first | exact l2' | exact l2 _)) ?_
                conv => enter [1]; whnf
                repeat (first
                  | (refine Ends.force ?_; conv => enter [1]; whnf)
                  | (refine Ends.forceN ?_; conv => enter [1]; whnf)
                  | (refine Ends.forceLs ?_; conv => enter [1]; whnf)
                  | (refine Ends.iteT (by first | with_reducible assumption | (simp [*]; done) | (apply decide_eq_true; omega) | fail "open") ?_; conv => enter [1]; whnf)
                  | (refine Ends.iteF (by first | with_reducible assumption | (simp [*]; done) | (apply decide_eq_false; omega) | fail "open") ?_; conv => enter [1]; whnf))
                refine Ends.opt ((by first | exact l2' | exact l2 _)) ?_
                conv => enter [1]; whnf
                repeat (first
                  | (refine Ends.force ?_; conv => enter [1]; whnf)
                  | (refine Ends.forceN ?_; conv => enter [1]; whnf)
                  | (refine Ends.forceLs ?_; conv => enter [1]; whnf)
                  | (refine Ends.iteT (by first | with_reducible assumption | (simp [*]; done) | (apply decide_eq_true; omega) | fail "open") ?_; conv => enter [1]; whnf)
                  | (refine Ends.iteF (by first | with_reducible assumption | (simp [*]; done) | (apply decide_eq_false; omega) | fail "open") ?_; conv => enter [1]; whnf))
                refine Ends.opt ((by first | exact l2' | exact l2 _)) ?_
                conv => enter [1]; whnf
                repeat (first
                  | (refine Ends.force ?_; conv => enter [1]; whnf)
                  | (refine Ends.forceN ?_; conv => enter [1]; whnf)
                  | (refine Ends.forceLs ?_; conv => enter [1]; whnf)
                  | (refine Ends.iteT (by first | with_reducible assumption | (simp [*]; done) | (apply decide_eq_true; omega) | fail "open") ?_; conv => enter [1]; whnf)
                  | (refine Ends.iteF (by first | with_reducible assumption | (simp [*]; done) | (apply decide_eq_false; omega) | fail "open") ?_; conv => enter [1]; whnf))
                refine Ends.opt ((by first | exact lN' | exact lN _)) ?_
                conv => enter [1]; whnf
                refine Ends.opt (partAs0 hpn ho0) ?_
                conv => enter [1]; whnf
                repeat (first
                  | (refine Ends.force ?_; conv => enter [1]; whnf)
                  | (refine Ends.forceN ?_; conv => enter [1]; whnf)
                  | (refine Ends.forceLs ?_; conv => enter [1]; whnf)
                  | (refine Ends.iteT (by first | with_reducible assumption | (simp [*]; done) | (apply decide_eq_true; omega) | fail "open") ?_; conv => enter [1]; whnf)
                  | (refine Ends.iteF (by first | with_reducible assumption | (simp [*]; done) | (apply decide_eq_false; omega) | fail "open") ?_; conv => enter [1]; whnf))
                refine Ends.call (awake33_F mk K lo (by omega) H2) ?_
                conv => enter [1]; whnf
                repeat (first
                  | (refine Ends.force ?_; conv => enter [1]; whnf)
                  | (refine Ends.forceN ?_; conv => enter [1]; whnf)
                  | (refine Ends.forceLs ?_; conv => enter [1]; whnf)
                  | (refine Ends.iteT (by first | with_reducible assumption | (simp [*]; done) | (apply decide_eq_true; omega) | fail "open") ?_; conv => enter [1]; whnf)
                  | (refine Ends.iteF (by first | with_reducible assumption | (simp [*]; done) | (apply decide_eq_false; omega) | fail "open") ?_; conv => enter [1]; whnf))
                refine Ends.some' ?_
                simp
          · have hpk : pickP (nearA l) u f w G = (u, true) := by unfold pickP; rw [if_pos (Or.inr (Or.inr eu))]
            rw [hpk] at hpF
            have hp : _ = some (Val.tup [.int .i64 (u : Int), .bool true], H2) := hpF
            have hpn : u < 4 := hu4
            conv => enter [1]; whnf
            refine Ends.opt ((by first | exact l2' | exact l2 _)) ?_
            conv => enter [1]; whnf
            repeat (first
              | (refine Ends.force ?_; conv => enter [1]; whnf)
              | (refine Ends.forceN ?_; conv => enter [1]; whnf)
              | (refine Ends.forceLs ?_; conv => enter [1]; whnf)
              | (refine Ends.iteT (by first | with_reducible assumption | (simp [*]; done) | (apply decide_eq_true; omega) | fail "open") ?_; conv => enter [1]; whnf)
              | (refine Ends.iteF (by first | with_reducible assumption | (simp [*]; done) | (apply decide_eq_false; omega) | fail "open") ?_; conv => enter [1]; whnf))
            refine Ends.opt ((by first | exact l0' | exact l0 _)) ?_
            conv => enter [1]; whnf
            repeat (first
              | (refine Ends.force ?_; conv => enter [1]; whnf)
              | (refine Ends.forceN ?_; conv => enter [1]; whnf)
              | (refine Ends.forceLs ?_; conv => enter [1]; whnf)
              | (refine Ends.iteT (by first | with_reducible assumption | (simp [*]; done) | (apply decide_eq_true; omega) | fail "open") ?_; conv => enter [1]; whnf)
              | (refine Ends.iteF (by first | with_reducible assumption | (simp [*]; done) | (apply decide_eq_false; omega) | fail "open") ?_; conv => enter [1]; whnf))
            refine Ends.opt ((by first | exact l2' | exact l2 _)) ?_
            conv => enter [1]; whnf
            repeat (first
              | (refine Ends.force ?_; conv => enter [1]; whnf)
              | (refine Ends.forceN ?_; conv => enter [1]; whnf)
              | (refine Ends.forceLs ?_; conv => enter [1]; whnf)
              | (refine Ends.iteT (by first | with_reducible assumption | (simp [*]; done) | (apply decide_eq_true; omega) | fail "open") ?_; conv => enter [1]; whnf)
              | (refine Ends.iteF (by first | with_reducible assumption | (simp [*]; done) | (apply decide_eq_false; omega) | fail "open") ?_; conv => enter [1]; whnf))
            refine Ends.call (hlu) ?_
            conv => enter [1]; whnf
            repeat (first
              | (refine Ends.force ?_; conv => enter [1]; whnf)
              | (refine Ends.forceN ?_; conv => enter [1]; whnf)
              | (refine Ends.forceLs ?_; conv => enter [1]; whnf)
              | (refine Ends.iteT (by first | with_reducible assumption | (simp [*]; done) | (apply decide_eq_true; omega) | fail "open") ?_; conv => enter [1]; whnf)
              | (refine Ends.iteF (by first | with_reducible assumption | (simp [*]; done) | (apply decide_eq_false; omega) | fail "open") ?_; conv => enter [1]; whnf))
            have hfr := frame_F mk K lo (by omega) (nearA l) u hpn ⟨v.n, f, w, v.t, v.z, v.kn⟩ H2
            replace hfr : _ = some (Val.tup [.int .i64 (if f = 1 ∧ (nearA l u).1 = 2 then 2 else f), .int .i64 (if f = 1 ∧ (nearA l u).1 = 2 then (nearA l u).2 else w)], H2) := hfr
            have hm3 : (IntKind.i64.wrap ((BitVec.ofInt IntKind.i64.bits (u : Int) &&& BitVec.ofInt IntKind.i64.bits 3).toNat : Nat)) = (u : Int) := by rw [and64_3]; omega
            have ho0 : 0 + ((IntKind.i64.wrap ((BitVec.ofInt IntKind.i64.bits (u : Int) &&& BitVec.ofInt IntKind.i64.bits 3).toNat : Nat)).toNat) * 2 + 0 = 2 * u := by rw [hm3]; omega
            have ho1 : 0 + ((IntKind.i64.wrap ((BitVec.ofInt IntKind.i64.bits (u : Int) &&& BitVec.ofInt IntKind.i64.bits 3).toNat : Nat)).toNat) * 2 + 1 = 2 * u + 1 := by rw [hm3]; omega

            by_cases q2 : (nearA l u).1 = 2
            · rw [if_pos ⟨q1, q2⟩, if_pos ⟨q1, q2⟩] at hfr
              refine Ends.opt ((by first | exact lN' | exact lN _)) ?_
              conv => enter [1]; whnf
              repeat (first
                | (refine Ends.force ?_; conv => enter [1]; whnf)
                | (refine Ends.forceN ?_; conv => enter [1]; whnf)
                | (refine Ends.forceLs ?_; conv => enter [1]; whnf)
                | (refine Ends.iteT (by first | with_reducible assumption | (simp [*]; done) | (apply decide_eq_true; omega) | fail "open") ?_; conv => enter [1]; whnf)
                | (refine Ends.iteF (by first | with_reducible assumption | (simp [*]; done) | (apply decide_eq_false; omega) | fail "open") ?_; conv => enter [1]; whnf))
              refine Ends.opt ((by first | exact l2' | exact l2 _)) ?_
              conv => enter [1]; whnf
              repeat (first
                | (refine Ends.force ?_; conv => enter [1]; whnf)
                | (refine Ends.forceN ?_; conv => enter [1]; whnf)
                | (refine Ends.forceLs ?_; conv => enter [1]; whnf)
                | (refine Ends.iteT (by first | with_reducible assumption | (simp [*]; done) | (apply decide_eq_true; omega) | fail "open") ?_; conv => enter [1]; whnf)
                | (refine Ends.iteF (by first | with_reducible assumption | (simp [*]; done) | (apply decide_eq_false; omega) | fail "open") ?_; conv => enter [1]; whnf))
              refine Ends.call (hp) ?_
              conv => enter [1]; whnf
              repeat (first
                | (refine Ends.force ?_; conv => enter [1]; whnf)
                | (refine Ends.forceN ?_; conv => enter [1]; whnf)
                | (refine Ends.forceLs ?_; conv => enter [1]; whnf)
                | (refine Ends.iteT (by first | with_reducible assumption | (simp [*]; done) | (apply decide_eq_true; omega) | fail "open") ?_; conv => enter [1]; whnf)
                | (refine Ends.iteF (by first | with_reducible assumption | (simp [*]; done) | (apply decide_eq_false; omega) | fail "open") ?_; conv => enter [1]; whnf))
              refine Ends.opt ((by first | exact lN' | exact lN _)) ?_
              conv => enter [1]; whnf
              repeat (first
                | (refine Ends.force ?_; conv => enter [1]; whnf)
                | (refine Ends.forceN ?_; conv => enter [1]; whnf)
                | (refine Ends.forceLs ?_; conv => enter [1]; whnf)
                | (refine Ends.iteT (by first | with_reducible assumption | (simp [*]; done) | (apply decide_eq_true; omega) | fail "open") ?_; conv => enter [1]; whnf)
                | (refine Ends.iteF (by first | with_reducible assumption | (simp [*]; done) | (apply decide_eq_false; omega) | fail "open") ?_; conv => enter [1]; whnf))
              refine Ends.opt ((by first | exact l2' | exact l2 _)) ?_
              conv => enter [1]; whnf
              repeat (first
                | (refine Ends.force ?_; conv => enter [1]; whnf)
                | (refine Ends.forceN ?_; conv => enter [1]; whnf)
                | (refine Ends.forceLs ?_; conv => enter [1]; whnf)
                | (refine Ends.iteT (by first | with_reducible assumption | (simp [*]; done) | (apply decide_eq_true; omega) | fail "open") ?_; conv => enter [1]; whnf)
                | (refine Ends.iteF (by first | with_reducible assumption | (simp [*]; done) | (apply decide_eq_false; omega) | fail "open") ?_; conv => enter [1]; whnf))
              refine Ends.call (hfr) ?_
              conv => enter [1]; whnf
              repeat (first
                | (refine Ends.force ?_; conv => enter [1]; whnf)
                | (refine Ends.forceN ?_; conv => enter [1]; whnf)
                | (refine Ends.forceLs ?_; conv => enter [1]; whnf)
                | (refine Ends.iteT (by first | with_reducible assumption | (simp [*]; done) | (apply decide_eq_true; omega) | fail "open") ?_; conv => enter [1]; whnf)
                | (refine Ends.iteF (by first | with_reducible assumption | (simp [*]; done) | (apply decide_eq_false; omega) | fail "open") ?_; conv => enter [1]; whnf))
              refine Ends.opt ((by first | exact l2' | exact l2 _)) ?_
              conv => enter [1]; whnf
              repeat (first
                | (refine Ends.force ?_; conv => enter [1]; whnf)
                | (refine Ends.forceN ?_; conv => enter [1]; whnf)
                | (refine Ends.forceLs ?_; conv => enter [1]; whnf)
                | (refine Ends.iteT (by first | with_reducible assumption | (simp [*]; done) | (apply decide_eq_true; omega) | fail "open") ?_; conv => enter [1]; whnf)
                | (refine Ends.iteF (by first | with_reducible assumption | (simp [*]; done) | (apply decide_eq_false; omega) | fail "open") ?_; conv => enter [1]; whnf))
              refine Ends.opt ((by first | exact l2' | exact l2 _)) ?_
              conv => enter [1]; whnf
              repeat (first
                | (refine Ends.force ?_; conv => enter [1]; whnf)
                | (refine Ends.forceN ?_; conv => enter [1]; whnf)
                | (refine Ends.forceLs ?_; conv => enter [1]; whnf)
                | (refine Ends.iteT (by first | with_reducible assumption | (simp [*]; done) | (apply decide_eq_true; omega) | fail "open") ?_; conv => enter [1]; whnf)
                | (refine Ends.iteF (by first | with_reducible assumption | (simp [*]; done) | (apply decide_eq_false; omega) | fail "open") ?_; conv => enter [1]; whnf))
              refine Ends.opt ((by first | exact l2' | exact l2 _)) ?_
              conv => enter [1]; whnf
              repeat (first
                | (refine Ends.force ?_; conv => enter [1]; whnf)
                | (refine Ends.forceN ?_; conv => enter [1]; whnf)
                | (refine Ends.forceLs ?_; conv => enter [1]; whnf)
                | (refine Ends.iteT (by first | with_reducible assumption | (simp [*]; done) | (apply decide_eq_true; omega) | fail "open") ?_; conv => enter [1]; whnf)
                | (refine Ends.iteF (by first | with_reducible assumption | (simp [*]; done) | (apply decide_eq_false; omega) | fail "open") ?_; conv => enter [1]; whnf))
              refine Ends.opt ((by first | exact lN' | exact lN _)) ?_
              conv => enter [1]; whnf
              refine Ends.opt (partAs0 hpn ho0) ?_
              conv => enter [1]; whnf
              repeat (first
                | (refine Ends.force ?_; conv => enter [1]; whnf)
                | (refine Ends.forceN ?_; conv => enter [1]; whnf)
                | (refine Ends.forceLs ?_; conv => enter [1]; whnf)
                | (refine Ends.iteT (by first | with_reducible assumption | (simp [*]; done) | (apply decide_eq_true; omega) | fail "open") ?_; conv => enter [1]; whnf)
                | (refine Ends.iteF (by first | with_reducible assumption | (simp [*]; done) | (apply decide_eq_false; omega) | fail "open") ?_; conv => enter [1]; whnf))
              refine Ends.opt ((by first | exact lN' | exact lN _)) ?_
              conv => enter [1]; whnf
              refine Ends.opt (partAs1 hpn ho1) ?_
              conv => enter [1]; whnf
              repeat (first
                | (refine Ends.force ?_; conv => enter [1]; whnf)
                | (refine Ends.forceN ?_; conv => enter [1]; whnf)
                | (refine Ends.forceLs ?_; conv => enter [1]; whnf)
                | (refine Ends.iteT (by first | with_reducible assumption | (simp [*]; done) | (apply decide_eq_true; omega) | fail "open") ?_; conv => enter [1]; whnf)
                | (refine Ends.iteF (by first | with_reducible assumption | (simp [*]; done) | (apply decide_eq_false; omega) | fail "open") ?_; conv => enter [1]; whnf))
              refine Ends.call (awake33_F mk K lo (by omega) H2) ?_
              conv => enter [1]; whnf
              repeat (first
                | (refine Ends.force ?_; conv => enter [1]; whnf)
                | (refine Ends.forceN ?_; conv => enter [1]; whnf)
                | (refine Ends.forceLs ?_; conv => enter [1]; whnf)
                | (refine Ends.iteT (by first | with_reducible assumption | (simp [*]; done) | (apply decide_eq_true; omega) | fail "open") ?_; conv => enter [1]; whnf)
                | (refine Ends.iteF (by first | with_reducible assumption | (simp [*]; done) | (apply decide_eq_false; omega) | fail "open") ?_; conv => enter [1]; whnf))
              refine Ends.some' ?_
              simp
            · rw [if_neg (fun z => q2 z.2), if_neg (fun z => q2 z.2)] at hfr
              refine Ends.opt ((by first | exact lN' | exact lN _)) ?_
              conv => enter [1]; whnf
              repeat (first
                | (refine Ends.force ?_; conv => enter [1]; whnf)
                | (refine Ends.forceN ?_; conv => enter [1]; whnf)
                | (refine Ends.forceLs ?_; conv => enter [1]; whnf)
                | (refine Ends.iteT (by first | with_reducible assumption | (simp [*]; done) | (apply decide_eq_true; omega) | fail "open") ?_; conv => enter [1]; whnf)
                | (refine Ends.iteF (by first | with_reducible assumption | (simp [*]; done) | (apply decide_eq_false; omega) | fail "open") ?_; conv => enter [1]; whnf))
              refine Ends.opt ((by first | exact l2' | exact l2 _)) ?_
              conv => enter [1]; whnf
              repeat (first
                | (refine Ends.force ?_; conv => enter [1]; whnf)
                | (refine Ends.forceN ?_; conv => enter [1]; whnf)
                | (refine Ends.forceLs ?_; conv => enter [1]; whnf)
                | (refine Ends.iteT (by first | with_reducible assumption | (simp [*]; done) | (apply decide_eq_true; omega) | fail "open") ?_; conv => enter [1]; whnf)
                | (refine Ends.iteF (by first | with_reducible assumption | (simp [*]; done) | (apply decide_eq_false; omega) | fail "open") ?_; conv => enter [1]; whnf))
              refine Ends.call (hp) ?_
              conv => enter [1]; whnf
              repeat (first
                | (refine Ends.force ?_; conv => enter [1]; whnf)
                | (refine Ends.forceN ?_; conv => enter [1]; whnf)
                | (refine Ends.forceLs ?_; conv => enter [1]; whnf)
                | (refine Ends.iteT (by first | with_reducible assumption | (simp [*]; done) | (apply decide_eq_true; omega) | fail "open") ?_; conv => enter [1]; whnf)
                | (refine Ends.iteF (by first | with_reducible assumption | (simp [*]; done) | (apply decide_eq_false; omega) | fail "open") ?_; conv => enter [1]; whnf))
              refine Ends.opt ((by first | exact lN' | exact lN _)) ?_
              conv => enter [1]; whnf
              repeat (first
                | (refine Ends.force ?_; conv => enter [1]; whnf)
                | (refine Ends.forceN ?_; conv => enter [1]; whnf)
                | (refine Ends.forceLs ?_; conv => enter [1]; whnf)
                | (refine Ends.iteT (by first | with_reducible assumption | (simp [*]; done) | (apply decide_eq_true; omega) | fail "open") ?_; conv => enter [1]; whnf)
                | (refine Ends.iteF (by first | with_reducible assumption | (simp [*]; done) | (apply decide_eq_false; omega) | fail "open") ?_; conv => enter [1]; whnf))
              refine Ends.opt ((by first | exact l2' | exact l2 _)) ?_
              conv => enter [1]; whnf
              repeat (first
                | (refine Ends.force ?_; conv => enter [1]; whnf)
                | (refine Ends.forceN ?_; conv => enter [1]; whnf)
                | (refine Ends.forceLs ?_; conv => enter [1]; whnf)
                | (refine Ends.iteT (by first | with_reducible assumption | (simp [*]; done) | (apply decide_eq_true; omega) | fail "open") ?_; conv => enter [1]; whnf)
                | (refine Ends.iteF (by first | with_reducible assumption | (simp [*]; done) | (apply decide_eq_false; omega) | fail "open") ?_; conv => enter [1]; whnf))
              refine Ends.call (hfr) ?_
              conv => enter [1]; whnf
              repeat (first
                | (refine Ends.force ?_; conv => enter [1]; whnf)
                | (refine Ends.forceN ?_; conv => enter [1]; whnf)
                | (refine Ends.forceLs ?_; conv => enter [1]; whnf)
                | (refine Ends.iteT (by first | with_reducible assumption | (simp [*]; done) | (apply decide_eq_true; omega) | fail "open") ?_; conv => enter [1]; whnf)
                | (refine Ends.iteF (by first | with_reducible assumption | (simp [*]; done) | (apply decide_eq_false; omega) | fail "open") ?_; conv => enter [1]; whnf))
              refine Ends.opt ((by first | exact l2' | exact l2 _)) ?_
              conv => enter [1]; whnf
              repeat (first
                | (refine Ends.force ?_; conv => enter [1]; whnf)
                | (refine Ends.forceN ?_; conv => enter [1]; whnf)
                | (refine Ends.forceLs ?_; conv => enter [1]; whnf)
                | (refine Ends.iteT (by first | with_reducible assumption | (simp [*]; done) | (apply decide_eq_true; omega) | fail "open") ?_; conv => enter [1]; whnf)
                | (refine Ends.iteF (by first | with_reducible assumption | (simp [*]; done) | (apply decide_eq_false; omega) | fail "open") ?_; conv => enter [1]; whnf))
              refine Ends.opt ((by first | exact l2' | exact l2 _)) ?_
              conv => enter [1]; whnf
              repeat (first
                | (refine Ends.force ?_; conv => enter [1]; whnf)
                | (refine Ends.forceN ?_; conv => enter [1]; whnf)
                | (refine Ends.forceLs ?_; conv => enter [1]; whnf)
                | (refine Ends.iteT (by first | with_reducible assumption | (simp [*]; done) | (apply decide_eq_true; omega) | fail "open") ?_; conv => enter [1]; whnf)
                | (refine Ends.iteF (by first | with_reducible assumption | (simp [*]; done) | (apply decide_eq_false; omega) | fail "open") ?_; conv => enter [1]; whnf))
              refine Ends.opt ((by first | exact l2' | exact l2 _)) ?_
              conv => enter [1]; whnf
              repeat (first
                | (refine Ends.force ?_; conv => enter [1]; whnf)
                | (refine Ends.forceN ?_; conv => enter [1]; whnf)
                | (refine Ends.forceLs ?_; conv => enter [1]; whnf)
                | (refine Ends.iteT (by first | with_reducible assumption | (simp [*]; done) | (apply decide_eq_true; omega) | fail "open") ?_; conv => enter [1]; whnf)
                | (refine Ends.iteF (by first | with_reducible assumption | (simp [*]; done) | (apply decide_eq_false; omega) | fail "open") ?_; conv => enter [1]; whnf))
              refine Ends.opt ((by first | exact lN' | exact lN _)) ?_
              conv => enter [1]; whnf
              refine Ends.opt (partAs0 hpn ho0) ?_
              conv => enter [1]; whnf
              repeat (first
                | (refine Ends.force ?_; conv => enter [1]; whnf)
                | (refine Ends.forceN ?_; conv => enter [1]; whnf)
                | (refine Ends.forceLs ?_; conv => enter [1]; whnf)
                | (refine Ends.iteT (by first | with_reducible assumption | (simp [*]; done) | (apply decide_eq_true; omega) | fail "open") ?_; conv => enter [1]; whnf)
                | (refine Ends.iteF (by first | with_reducible assumption | (simp [*]; done) | (apply decide_eq_false; omega) | fail "open") ?_; conv => enter [1]; whnf))
              refine Ends.call (awake33_F mk K lo (by omega) H2) ?_
              conv => enter [1]; whnf
              repeat (first
                | (refine Ends.force ?_; conv => enter [1]; whnf)
                | (refine Ends.forceN ?_; conv => enter [1]; whnf)
                | (refine Ends.forceLs ?_; conv => enter [1]; whnf)
                | (refine Ends.iteT (by first | with_reducible assumption | (simp [*]; done) | (apply decide_eq_true; omega) | fail "open") ?_; conv => enter [1]; whnf)
                | (refine Ends.iteF (by first | with_reducible assumption | (simp [*]; done) | (apply decide_eq_false; omega) | fail "open") ?_; conv => enter [1]; whnf))
              refine Ends.some' ?_
              simp
        · skip
          have fN0 : ¬ f = 0 := by omega
          have fN3 : ¬ f = 3 := by omega
          have q2f : f = 2 := cf
          have q1 : ¬ f = 1 := by omega
          clear cf fb
          cases eu : hasB (nearA l) u f w G <;> rw [eu] at hlu
          · have hpk := pkS_4 (a := nearA l) (u := u) (f := f) (w := w) (G := G) fN0 fN3 eu
            conv => enter [1]; whnf
            refine Ends.opt ((by first | exact l2' | exact l2 _)) ?_
            conv => enter [1]; whnf
            repeat (first
              | (refine Ends.force ?_; conv => enter [1]; whnf)
              | (refine Ends.forceN ?_; conv => enter [1]; whnf)
              | (refine Ends.forceLs ?_; conv => enter [1]; whnf)
              | (refine Ends.iteT (by first | with_reducible assumption | (simp [*]; done) | (apply decide_eq_true; omega) | fail "open") ?_; conv => enter [1]; whnf)
              | (refine Ends.iteF (by first | with_reducible assumption | (simp [*]; done) | (apply decide_eq_false; omega) | fail "open") ?_; conv => enter [1]; whnf))
            refine Ends.opt ((by first | exact l2' | exact l2 _)) ?_
            conv => enter [1]; whnf
            repeat (first
              | (refine Ends.force ?_; conv => enter [1]; whnf)
              | (refine Ends.forceN ?_; conv => enter [1]; whnf)
              | (refine Ends.forceLs ?_; conv => enter [1]; whnf)
              | (refine Ends.iteT (by first | with_reducible assumption | (simp [*]; done) | (apply decide_eq_true; omega) | fail "open") ?_; conv => enter [1]; whnf)
              | (refine Ends.iteF (by first | with_reducible assumption | (simp [*]; done) | (apply decide_eq_false; omega) | fail "open") ?_; conv => enter [1]; whnf))
            refine Ends.opt ((by first | exact l0' | exact l0 _)) ?_
            conv => enter [1]; whnf
            repeat (first
              | (refine Ends.force ?_; conv => enter [1]; whnf)
              | (refine Ends.forceN ?_; conv => enter [1]; whnf)
              | (refine Ends.forceLs ?_; conv => enter [1]; whnf)
              | (refine Ends.iteT (by first | with_reducible assumption | (simp [*]; done) | (apply decide_eq_true; omega) | fail "open") ?_; conv => enter [1]; whnf)
              | (refine Ends.iteF (by first | with_reducible assumption | (simp [*]; done) | (apply decide_eq_false; omega) | fail "open") ?_; conv => enter [1]; whnf))
            refine Ends.opt ((by first | exact l2' | exact l2 _)) ?_
            conv => enter [1]; whnf
            repeat (first
              | (refine Ends.force ?_; conv => enter [1]; whnf)
              | (refine Ends.forceN ?_; conv => enter [1]; whnf)
              | (refine Ends.forceLs ?_; conv => enter [1]; whnf)
              | (refine Ends.iteT (by first | with_reducible assumption | (simp [*]; done) | (apply decide_eq_true; omega) | fail "open") ?_; conv => enter [1]; whnf)
              | (refine Ends.iteF (by first | with_reducible assumption | (simp [*]; done) | (apply decide_eq_false; omega) | fail "open") ?_; conv => enter [1]; whnf))
            refine Ends.call (hlu) ?_
            conv => enter [1]; whnf
            repeat (first
              | (refine Ends.force ?_; conv => enter [1]; whnf)
              | (refine Ends.forceN ?_; conv => enter [1]; whnf)
              | (refine Ends.forceLs ?_; conv => enter [1]; whnf)
              | (refine Ends.iteT (by first | with_reducible assumption | (simp [*]; done) | (apply decide_eq_true; omega) | fail "open") ?_; conv => enter [1]; whnf)
              | (refine Ends.iteF (by first | with_reducible assumption | (simp [*]; done) | (apply decide_eq_false; omega) | fail "open") ?_; conv => enter [1]; whnf))
            refine Ends.loopK (fun m T M => ∃ r : Nat, r ≤ 4 ∧ 4 - r < m ∧ T = [.undef, .undef, .undef, .ptr (.lo 0) 0, .undef, .undef, .undef, .ptr (.lo 2) 0, .sl (.hp b) 0 G.length 1, .undef, .undef, .undef, .ptr (.lo N) 0, .int .i64 (u : Int), .undef, .int .i64 ((pkS (nearA l) u f w G r).1 : Nat), .bool (pkS (nearA l) u f w G r).2, .undef, .undef, .undef, .undef, .undef, .undef, .undef, .undef, .undef, .undef, .undef, .undef, .undef, .undef, .undef, .undef, .undef, .undef, .undef, .undef, .undef, .undef, .undef, .undef, .undef, .undef, .undef, .undef, .undef, .undef, .undef, .undef, .undef, .undef, .undef, .undef, .undef, .undef, .undef, .undef, .undef, .undef, .undef, .undef, .undef, .undef, .undef, .undef, .undef, .undef, .undef, .undef, .undef, .undef, .undef, .undef, .undef, .undef, .undef, .undef, .undef, .undef, .undef, .undef, .undef, .undef, .undef, .undef, .undef, .undef, .undef, .undef, .undef, .undef, .undef, .undef, .undef, .undef, .undef, .undef, .undef, .undef, .undef, .undef, .undef, .undef, .undef, .undef, .undef, .undef, .undef, .undef, .undef, .sl (.lo LL.length) 0 4 1, .int .i64 4, .int .i64 (r : Int), .undef, .undef, .undef, .undef, .undef, .undef, .undef, .undef, .undef, .undef, .undef, .undef, .undef, .undef, .undef, .undef, .undef, .undef, .undef, .undef, .undef, .undef, .undef, .undef, .undef, .undef, .undef, .undef, .undef, .undef, .undef, .undef, .undef, .undef, .undef, .undef, .undef, .undef, .undef, .undef, .undef, .undef, .undef, .undef, .undef, .undef, .undef, .undef, .undef, .undef, .undef, .undef, .undef, .undef, .undef, .undef, .undef, .undef, .undef, .undef, .undef, .undef, .undef, .undef, .undef, .undef, .undef, .undef, .undef, .undef] ∧ M = ⟨LL ++ [[.int .i64 3, .int .i64 2, .int .i64 0, .int .i64 1]], H2⟩) (fun T M ⟨r, _, h, _⟩ => by omega) ?_ _ _ ⟨0, by omega, by omega, rfl, rfl⟩
            rintro m3 T M L3 KK3 hKK3 ⟨r, r1, r2, rfl, rfl⟩ hL3
            have hord : ∀ X, Mem.get ⟨LL ++ [X], H2⟩ (.lo LL.length) = some X := fun X => by simp [Mem.get]
            have e3 : IntKind.i64.wrap ((r : Int) + 1) = ((r + 1 : Nat) : Int) := by rw [w64]; omega
            by_cases cr : r < 4
            · have hpkr : pkS (nearA l) u f w G (r + 1) = if (pkS (nearA l) u f w G r).2 = true then pkS (nearA l) u f w G r else if hasB (nearA l) (pkO.getD r 0) f w G = true then (pkO.getD r 0, true) else pkS (nearA l) u f w G r := rfl
              have hro : pkO.getD r 0 < 4 := pkO_lt r
              have hcell : getAt r [Val.int .i64 3, Val.int .i64 2, Val.int .i64 0, Val.int .i64 1] = some (.int .i64 ((pkO.getD r 0 : Nat) : Int)) := by
                rcases (show r = 0 ∨ r = 1 ∨ r = 2 ∨ r = 3 by omega) with rfl | rfl | rfl | rfl <;> rfl
              have hlr := lhas_F mk K lo (by omega) l (pkO.getD r 0) hro ⟨v.n, f, w, v.t, v.z, v.kn⟩ H2 b G hG hg3 hGl
              replace hlr : _ = some (Val.bool (hasB (nearA l) (pkO.getD r 0) f w G), H2) := hlr
              generalize pkO.getD r 0 = o at *
              generalize hPr : pkS (nearA l) u f w G r = P at *
              obtain ⟨pn, pb⟩ := P
              have c1 : (r : Int) < 4 := by omega
              conv => enter [1]; whnf
              repeat (first
                | (refine Ends.force ?_; conv => enter [1]; whnf)
                | (refine Ends.forceN ?_; conv => enter [1]; whnf)
                | (refine Ends.forceLs ?_; conv => enter [1]; whnf)
                | (refine Ends.iteT (by first | with_reducible assumption | (simp [*]; done) | (apply decide_eq_true; omega) | fail "open") ?_; conv => enter [1]; whnf)
                | (refine Ends.iteF (by first | with_reducible assumption | (simp [*]; done) | (apply decide_eq_false; omega) | fail "open") ?_; conv => enter [1]; whnf))
              refine Ends.opt (hord _) ?_
              conv => enter [1]; whnf
              refine Ends.opt (partInt' hcell (by omega)) ?_
              conv => enter [1]; whnf
              repeat (first
                | (refine Ends.force ?_; conv => enter [1]; whnf)
                | (refine Ends.forceN ?_; conv => enter [1]; whnf)
                | (refine Ends.forceLs ?_; conv => enter [1]; whnf)
                | (refine Ends.iteT (by first | with_reducible assumption | (simp [*]; done) | (apply decide_eq_true; omega) | fail "open") ?_; conv => enter [1]; whnf)
                | (refine Ends.iteF (by first | with_reducible assumption | (simp [*]; done) | (apply decide_eq_false; omega) | fail "open") ?_; conv => enter [1]; whnf))
              cases pb
              · cases er : hasB (nearA l) o f w G <;> rw [er] at hlr hpkr
                · skip
                  conv => enter [1]; whnf
                  refine Ends.opt ((by first | exact l0' | exact l0 _)) ?_
                  conv => enter [1]; whnf
                  repeat (first
                    | (refine Ends.force ?_; conv => enter [1]; whnf)
                    | (refine Ends.forceN ?_; conv => enter [1]; whnf)
                    | (refine Ends.forceLs ?_; conv => enter [1]; whnf)
                    | (refine Ends.iteT (by first | with_reducible assumption | (simp [*]; done) | (apply decide_eq_true; omega) | fail "open") ?_; conv => enter [1]; whnf)
                    | (refine Ends.iteF (by first | with_reducible assumption | (simp [*]; done) | (apply decide_eq_false; omega) | fail "open") ?_; conv => enter [1]; whnf))
                  refine Ends.opt ((by first | exact l2' | exact l2 _)) ?_
                  conv => enter [1]; whnf
                  repeat (first
                    | (refine Ends.force ?_; conv => enter [1]; whnf)
                    | (refine Ends.forceN ?_; conv => enter [1]; whnf)
                    | (refine Ends.forceLs ?_; conv => enter [1]; whnf)
                    | (refine Ends.iteT (by first | with_reducible assumption | (simp [*]; done) | (apply decide_eq_true; omega) | fail "open") ?_; conv => enter [1]; whnf)
                    | (refine Ends.iteF (by first | with_reducible assumption | (simp [*]; done) | (apply decide_eq_false; omega) | fail "open") ?_; conv => enter [1]; whnf))
                  refine Ends.call (hlr) ?_
                  conv => enter [1]; whnf
                  repeat (first
                    | (refine Ends.force ?_; conv => enter [1]; whnf)
                    | (refine Ends.forceN ?_; conv => enter [1]; whnf)
                    | (refine Ends.forceLs ?_; conv => enter [1]; whnf)
                    | (refine Ends.iteT (by first | with_reducible assumption | (simp [*]; done) | (apply decide_eq_true; omega) | fail "open") ?_; conv => enter [1]; whnf)
                    | (refine Ends.iteF (by first | with_reducible assumption | (simp [*]; done) | (apply decide_eq_false; omega) | fail "open") ?_; conv => enter [1]; whnf))
                  refine hL3 _ ⟨r + 1, by omega, by omega, ?_, rfl⟩
                  rw [hpkr, ← e3]
                  rfl
                · skip
                  conv => enter [1]; whnf
                  refine Ends.opt ((by first | exact l0' | exact l0 _)) ?_
                  conv => enter [1]; whnf
                  repeat (first
                    | (refine Ends.force ?_; conv => enter [1]; whnf)
                    | (refine Ends.forceN ?_; conv => enter [1]; whnf)
                    | (refine Ends.forceLs ?_; conv => enter [1]; whnf)
                    | (refine Ends.iteT (by first | with_reducible assumption | (simp [*]; done) | (apply decide_eq_true; omega) | fail "open") ?_; conv => enter [1]; whnf)
                    | (refine Ends.iteF (by first | with_reducible assumption | (simp [*]; done) | (apply decide_eq_false; omega) | fail "open") ?_; conv => enter [1]; whnf))
                  refine Ends.opt ((by first | exact l2' | exact l2 _)) ?_
                  conv => enter [1]; whnf
                  repeat (first
                    | (refine Ends.force ?_; conv => enter [1]; whnf)
                    | (refine Ends.forceN ?_; conv => enter [1]; whnf)
                    | (refine Ends.forceLs ?_; conv => enter [1]; whnf)
                    | (refine Ends.iteT (by first | with_reducible assumption | (simp [*]; done) | (apply decide_eq_true; omega) | fail "open") ?_; conv => enter [1]; whnf)
                    | (refine Ends.iteF (by first | with_reducible assumption | (simp [*]; done) | (apply decide_eq_false; omega) | fail "open") ?_; conv => enter [1]; whnf))
                  refine Ends.call (hlr) ?_
                  conv => enter [1]; whnf
                  repeat (first
                    | (refine Ends.force ?_; conv => enter [1]; whnf)
                    | (refine Ends.forceN ?_; conv => enter [1]; whnf)
                    | (refine Ends.forceLs ?_; conv => enter [1]; whnf)
                    | (refine Ends.iteT (by first | with_reducible assumption | (simp [*]; done) | (apply decide_eq_true; omega) | fail "open") ?_; conv => enter [1]; whnf)
                    | (refine Ends.iteF (by first | with_reducible assumption | (simp [*]; done) | (apply decide_eq_false; omega) | fail "open") ?_; conv => enter [1]; whnf))
                  refine hL3 _ ⟨r + 1, by omega, by omega, ?_, rfl⟩
                  rw [hpkr, ← e3]
                  rfl
              · skip
                conv => enter [1]; whnf
                repeat (first
                  | (refine Ends.force ?_; conv => enter [1]; whnf)
                  | (refine Ends.forceN ?_; conv => enter [1]; whnf)
                  | (refine Ends.forceLs ?_; conv => enter [1]; whnf)
                  | (refine Ends.iteT (by first | with_reducible assumption | (simp [*]; done) | (apply decide_eq_true; omega) | fail "open") ?_; conv => enter [1]; whnf)
                  | (refine Ends.iteF (by first | with_reducible assumption | (simp [*]; done) | (apply decide_eq_false; omega) | fail "open") ?_; conv => enter [1]; whnf))
                refine hL3 _ ⟨r + 1, by omega, by omega, ?_, rfl⟩
                rw [hpkr, ← e3]
                rfl
            · have hr4 : r = 4 := by omega
              subst hr4
              have hlt := pkS_lt (a := nearA l) (f := f) (w := w) (G := G) hu4 4
              rw [hpk] at hpF
              generalize hPr : pkS (nearA l) u f w G 4 = P at *
              obtain ⟨pn, pb⟩ := P
              have hpn : pn < 4 := hlt
              have hp : _ = some (Val.tup [.int .i64 (pn : Int), .bool pb], H2) := hpF
              conv => enter [1]; whnf
              rw [hKK3]
              conv => enter [1]; whnf
              have hfr := frame_F mk K lo (by omega) (nearA l) pn hpn ⟨v.n, f, w, v.t, v.z, v.kn⟩ H2
              replace hfr : _ = some (Val.tup [.int .i64 (if f = 1 ∧ (nearA l pn).1 = 2 then 2 else f), .int .i64 (if f = 1 ∧ (nearA l pn).1 = 2 then (nearA l pn).2 else w)], H2) := hfr
              have hm3 : (IntKind.i64.wrap ((BitVec.ofInt IntKind.i64.bits (pn : Int) &&& BitVec.ofInt IntKind.i64.bits 3).toNat : Nat)) = (pn : Int) := by rw [and64_3]; omega
              have ho0 : 0 + ((IntKind.i64.wrap ((BitVec.ofInt IntKind.i64.bits (pn : Int) &&& BitVec.ofInt IntKind.i64.bits 3).toNat : Nat)).toNat) * 2 + 0 = 2 * pn := by rw [hm3]; omega
              have ho1 : 0 + ((IntKind.i64.wrap ((BitVec.ofInt IntKind.i64.bits (pn : Int) &&& BitVec.ofInt IntKind.i64.bits 3).toNat : Nat)).toNat) * 2 + 1 = 2 * pn + 1 := by rw [hm3]; omega

              rw [if_neg (fun z => q1 z.1), if_neg (fun z => q1 z.1)] at hfr
              refine Ends.opt ((by first | exact lN' | exact lN _)) ?_
              conv => enter [1]; whnf
              repeat (first
                | (refine Ends.force ?_; conv => enter [1]; whnf)
                | (refine Ends.forceN ?_; conv => enter [1]; whnf)
                | (refine Ends.forceLs ?_; conv => enter [1]; whnf)
                | (refine Ends.iteT (by first | with_reducible assumption | (simp [*]; done) | (apply decide_eq_true; omega) | fail "open") ?_; conv => enter [1]; whnf)
                | (refine Ends.iteF (by first | with_reducible assumption | (simp [*]; done) | (apply decide_eq_false; omega) | fail "open") ?_; conv => enter [1]; whnf))
              refine Ends.opt ((by first | exact l2' | exact l2 _)) ?_
              conv => enter [1]; whnf
              repeat (first
                | (refine Ends.force ?_; conv => enter [1]; whnf)
                | (refine Ends.forceN ?_; conv => enter [1]; whnf)
                | (refine Ends.forceLs ?_; conv => enter [1]; whnf)
                | (refine Ends.iteT (by first | with_reducible assumption | (simp [*]; done) | (apply decide_eq_true; omega) | fail "open") ?_; conv => enter [1]; whnf)
                | (refine Ends.iteF (by first | with_reducible assumption | (simp [*]; done) | (apply decide_eq_false; omega) | fail "open") ?_; conv => enter [1]; whnf))
              refine Ends.call (hp) ?_
              conv => enter [1]; whnf
              repeat (first
                | (refine Ends.force ?_; conv => enter [1]; whnf)
                | (refine Ends.forceN ?_; conv => enter [1]; whnf)
                | (refine Ends.forceLs ?_; conv => enter [1]; whnf)
                | (refine Ends.iteT (by first | with_reducible assumption | (simp [*]; done) | (apply decide_eq_true; omega) | fail "open") ?_; conv => enter [1]; whnf)
                | (refine Ends.iteF (by first | with_reducible assumption | (simp [*]; done) | (apply decide_eq_false; omega) | fail "open") ?_; conv => enter [1]; whnf))
              refine Ends.opt ((by first | exact lN' | exact lN _)) ?_
              conv => enter [1]; whnf
              repeat (first
                | (refine Ends.force ?_; conv => enter [1]; whnf)
                | (refine Ends.forceN ?_; conv => enter [1]; whnf)
                | (refine Ends.forceLs ?_; conv => enter [1]; whnf)
                | (refine Ends.iteT (by first | with_reducible assumption | (simp [*]; done) | (apply decide_eq_true; omega) | fail "open") ?_; conv => enter [1]; whnf)
                | (refine Ends.iteF (by first | with_reducible assumption | (simp [*]; done) | (apply decide_eq_false; omega) | fail "open") ?_; conv => enter [1]; whnf))
              refine Ends.opt ((by first | exact l2' | exact l2 _)) ?_
              conv => enter [1]; whnf
              repeat (first
                | (refine Ends.force ?_; conv => enter [1]; whnf)
                | (refine Ends.forceN ?_; conv => enter [1]; whnf)
                | (refine Ends.forceLs ?_; conv => enter [1]; whnf)
                | (refine Ends.iteT (by first | with_reducible assumption | (simp [*]; done) | (apply decide_eq_true; omega) | fail "open") ?_; conv => enter [1]; whnf)
                | (refine Ends.iteF (by first | with_reducible assumption | (simp [*]; done) | (apply decide_eq_false; omega) | fail "open") ?_; conv => enter [1]; whnf))
              refine Ends.call (hfr) ?_
              conv => enter [1]; whnf
              repeat (first
                | (refine Ends.force ?_; conv => enter [1]; whnf)
                | (refine Ends.forceN ?_; conv => enter [1]; whnf)
                | (refine Ends.forceLs ?_; conv => enter [1]; whnf)
                | (refine Ends.iteT (by first | with_reducible assumption | (simp [*]; done) | (apply decide_eq_true; omega) | fail "open") ?_; conv => enter [1]; whnf)
                | (refine Ends.iteF (by first | with_reducible assumption | (simp [*]; done) | (apply decide_eq_false; omega) | fail "open") ?_; conv => enter [1]; whnf))
              refine Ends.opt ((by first | exact l2' | exact l2 _)) ?_
              conv => enter [1]; whnf
              repeat (first
                | (refine Ends.force ?_; conv => enter [1]; whnf)
                | (refine Ends.forceN ?_; conv => enter [1]; whnf)
                | (refine Ends.forceLs ?_; conv => enter [1]; whnf)
                | (refine Ends.iteT (by first | with_reducible assumption | (simp [*]; done) | (apply decide_eq_true; omega) | fail "open") ?_; conv => enter [1]; whnf)
                | (refine Ends.iteF (by first | with_reducible assumption | (simp [*]; done) | (apply decide_eq_false; omega) | fail "open") ?_; conv => enter [1]; whnf))
              refine Ends.opt ((by first | exact l2' | exact l2 _)) ?_
              conv => enter [1]; whnf
              repeat (first
                | (refine Ends.force ?_; conv => enter [1]; whnf)
                | (refine Ends.forceN ?_; conv => enter [1]; whnf)
                | (refine Ends.forceLs ?_; conv => enter [1]; whnf)
                | (refine Ends.iteT (by first | with_reducible assumption | (simp [*]; done) | (apply decide_eq_true; omega) | fail "open") ?_; conv => enter [1]; whnf)
                | (refine Ends.iteF (by first | with_reducible assumption | (simp [*]; done) | (apply decide_eq_false; omega) | fail "open") ?_; conv => enter [1]; whnf))
              refine Ends.opt ((by first | exact l2' | exact l2 _)) ?_
              conv => enter [1]; whnf
              repeat (first
                | (refine Ends.force ?_; conv => enter [1]; whnf)
                | (refine Ends.forceN ?_; conv => enter [1]; whnf)
                | (refine Ends.forceLs ?_; conv => enter [1]; whnf)
                | (refine Ends.iteT (by first | with_reducible assumption | (simp [*]; done) | (apply decide_eq_true; omega) | fail "open") ?_; conv => enter [1]; whnf)
                | (refine Ends.iteF (by first | with_reducible assumption | (simp [*]; done) | (apply decide_eq_false; omega) | fail "open") ?_; conv => enter [1]; whnf))
              refine Ends.call (awake33_F mk K lo (by omega) H2) ?_
              conv => enter [1]; whnf
              repeat (first
                | (refine Ends.force ?_; conv => enter [1]; whnf)
                | (refine Ends.forceN ?_; conv => enter [1]; whnf)
                | (refine Ends.forceLs ?_; conv => enter [1]; whnf)
                | (refine Ends.iteT (by first | with_reducible assumption | (simp [*]; done) | (apply decide_eq_true; omega) | fail "open") ?_; conv => enter [1]; whnf)
                | (refine Ends.iteF (by first | with_reducible assumption | (simp [*]; done) | (apply decide_eq_false; omega) | fail "open") ?_; conv => enter [1]; whnf))
              refine Ends.some' ?_
              simp
          · have hpk : pickP (nearA l) u f w G = (u, true) := by unfold pickP; rw [if_pos (Or.inr (Or.inr eu))]
            rw [hpk] at hpF
            have hp : _ = some (Val.tup [.int .i64 (u : Int), .bool true], H2) := hpF
            have hpn : u < 4 := hu4
            conv => enter [1]; whnf
            refine Ends.opt ((by first | exact l2' | exact l2 _)) ?_
            conv => enter [1]; whnf
            repeat (first
              | (refine Ends.force ?_; conv => enter [1]; whnf)
              | (refine Ends.forceN ?_; conv => enter [1]; whnf)
              | (refine Ends.forceLs ?_; conv => enter [1]; whnf)
              | (refine Ends.iteT (by first | with_reducible assumption | (simp [*]; done) | (apply decide_eq_true; omega) | fail "open") ?_; conv => enter [1]; whnf)
              | (refine Ends.iteF (by first | with_reducible assumption | (simp [*]; done) | (apply decide_eq_false; omega) | fail "open") ?_; conv => enter [1]; whnf))
            refine Ends.opt ((by first | exact l2' | exact l2 _)) ?_
            conv => enter [1]; whnf
            repeat (first
              | (refine Ends.force ?_; conv => enter [1]; whnf)
              | (refine Ends.forceN ?_; conv => enter [1]; whnf)
              | (refine Ends.forceLs ?_; conv => enter [1]; whnf)
              | (refine Ends.iteT (by first | with_reducible assumption | (simp [*]; done) | (apply decide_eq_true; omega) | fail "open") ?_; conv => enter [1]; whnf)
              | (refine Ends.iteF (by first | with_reducible assumption | (simp [*]; done) | (apply decide_eq_false; omega) | fail "open") ?_; conv => enter [1]; whnf))
            refine Ends.opt ((by first | exact l0' | exact l0 _)) ?_
            conv => enter [1]; whnf
            repeat (first
              | (refine Ends.force ?_; conv => enter [1]; whnf)
              | (refine Ends.forceN ?_; conv => enter [1]; whnf)
              | (refine Ends.forceLs ?_; conv => enter [1]; whnf)
              | (refine Ends.iteT (by first | with_reducible assumption | (simp [*]; done) | (apply decide_eq_true; omega) | fail "open") ?_; conv => enter [1]; whnf)
              | (refine Ends.iteF (by first | with_reducible assumption | (simp [*]; done) | (apply decide_eq_false; omega) | fail "open") ?_; conv => enter [1]; whnf))
            refine Ends.opt ((by first | exact l2' | exact l2 _)) ?_
            conv => enter [1]; whnf
            repeat (first
              | (refine Ends.force ?_; conv => enter [1]; whnf)
              | (refine Ends.forceN ?_; conv => enter [1]; whnf)
              | (refine Ends.forceLs ?_; conv => enter [1]; whnf)
              | (refine Ends.iteT (by first | with_reducible assumption | (simp [*]; done) | (apply decide_eq_true; omega) | fail "open") ?_; conv => enter [1]; whnf)
              | (refine Ends.iteF (by first | with_reducible assumption | (simp [*]; done) | (apply decide_eq_false; omega) | fail "open") ?_; conv => enter [1]; whnf))
            refine Ends.call (hlu) ?_
            conv => enter [1]; whnf
            repeat (first
              | (refine Ends.force ?_; conv => enter [1]; whnf)
              | (refine Ends.forceN ?_; conv => enter [1]; whnf)
              | (refine Ends.forceLs ?_; conv => enter [1]; whnf)
              | (refine Ends.iteT (by first | with_reducible assumption | (simp [*]; done) | (apply decide_eq_true; omega) | fail "open") ?_; conv => enter [1]; whnf)
              | (refine Ends.iteF (by first | with_reducible assumption | (simp [*]; done) | (apply decide_eq_false; omega) | fail "open") ?_; conv => enter [1]; whnf))
            have hfr := frame_F mk K lo (by omega) (nearA l) u hpn ⟨v.n, f, w, v.t, v.z, v.kn⟩ H2
            replace hfr : _ = some (Val.tup [.int .i64 (if f = 1 ∧ (nearA l u).1 = 2 then 2 else f), .int .i64 (if f = 1 ∧ (nearA l u).1 = 2 then (nearA l u).2 else w)], H2) := hfr
            have hm3 : (IntKind.i64.wrap ((BitVec.ofInt IntKind.i64.bits (u : Int) &&& BitVec.ofInt IntKind.i64.bits 3).toNat : Nat)) = (u : Int) := by rw [and64_3]; omega
            have ho0 : 0 + ((IntKind.i64.wrap ((BitVec.ofInt IntKind.i64.bits (u : Int) &&& BitVec.ofInt IntKind.i64.bits 3).toNat : Nat)).toNat) * 2 + 0 = 2 * u := by rw [hm3]; omega
            have ho1 : 0 + ((IntKind.i64.wrap ((BitVec.ofInt IntKind.i64.bits (u : Int) &&& BitVec.ofInt IntKind.i64.bits 3).toNat : Nat)).toNat) * 2 + 1 = 2 * u + 1 := by rw [hm3]; omega

            rw [if_neg (fun z => q1 z.1), if_neg (fun z => q1 z.1)] at hfr
            refine Ends.opt ((by first | exact lN' | exact lN _)) ?_
            conv => enter [1]; whnf
            repeat (first
              | (refine Ends.force ?_; conv => enter [1]; whnf)
              | (refine Ends.forceN ?_; conv => enter [1]; whnf)
              | (refine Ends.forceLs ?_; conv => enter [1]; whnf)
              | (refine Ends.iteT (by first | with_reducible assumption | (simp [*]; done) | (apply decide_eq_true; omega) | fail "open") ?_; conv => enter [1]; whnf)
              | (refine Ends.iteF (by first | with_reducible assumption | (simp [*]; done) | (apply decide_eq_false; omega) | fail "open") ?_; conv => enter [1]; whnf))
            refine Ends.opt ((by first | exact l2' | exact l2 _)) ?_
            conv => enter [1]; whnf
            repeat (first
              | (refine Ends.force ?_; conv => enter [1]; whnf)
              | (refine Ends.forceN ?_; conv => enter [1]; whnf)
              | (refine Ends.forceLs ?_; conv => enter [1]; whnf)
              | (refine Ends.iteT (by first | with_reducible assumption | (simp [*]; done) | (apply decide_eq_true; omega) | fail "open") ?_; conv => enter [1]; whnf)
              | (refine Ends.iteF (by first | with_reducible assumption | (simp [*]; done) | (apply decide_eq_false; omega) | fail "open") ?_; conv => enter [1]; whnf))
            refine Ends.call (hp) ?_
            conv => enter [1]; whnf
            repeat (first
              | (refine Ends.force ?_; conv => enter [1]; whnf)
              | (refine Ends.forceN ?_; conv => enter [1]; whnf)
              | (refine Ends.forceLs ?_; conv => enter [1]; whnf)
              | (refine Ends.iteT (by first | with_reducible assumption | (simp [*]; done) | (apply decide_eq_true; omega) | fail "open") ?_; conv => enter [1]; whnf)
              | (refine Ends.iteF (by first | with_reducible assumption | (simp [*]; done) | (apply decide_eq_false; omega) | fail "open") ?_; conv => enter [1]; whnf))
            refine Ends.opt ((by first | exact lN' | exact lN _)) ?_
            conv => enter [1]; whnf
            repeat (first
              | (refine Ends.force ?_; conv => enter [1]; whnf)
              | (refine Ends.forceN ?_; conv => enter [1]; whnf)
              | (refine Ends.forceLs ?_; conv => enter [1]; whnf)
              | (refine Ends.iteT (by first | with_reducible assumption | (simp [*]; done) | (apply decide_eq_true; omega) | fail "open") ?_; conv => enter [1]; whnf)
              | (refine Ends.iteF (by first | with_reducible assumption | (simp [*]; done) | (apply decide_eq_false; omega) | fail "open") ?_; conv => enter [1]; whnf))
            refine Ends.opt ((by first | exact l2' | exact l2 _)) ?_
            conv => enter [1]; whnf
            repeat (first
              | (refine Ends.force ?_; conv => enter [1]; whnf)
              | (refine Ends.forceN ?_; conv => enter [1]; whnf)
              | (refine Ends.forceLs ?_; conv => enter [1]; whnf)
              | (refine Ends.iteT (by first | with_reducible assumption | (simp [*]; done) | (apply decide_eq_true; omega) | fail "open") ?_; conv => enter [1]; whnf)
              | (refine Ends.iteF (by first | with_reducible assumption | (simp [*]; done) | (apply decide_eq_false; omega) | fail "open") ?_; conv => enter [1]; whnf))
            refine Ends.call (hfr) ?_
            conv => enter [1]; whnf
            repeat (first
              | (refine Ends.force ?_; conv => enter [1]; whnf)
              | (refine Ends.forceN ?_; conv => enter [1]; whnf)
              | (refine Ends.forceLs ?_; conv => enter [1]; whnf)
              | (refine Ends.iteT (by first | with_reducible assumption | (simp [*]; done) | (apply decide_eq_true; omega) | fail "open") ?_; conv => enter [1]; whnf)
              | (refine Ends.iteF (by first | with_reducible assumption | (simp [*]; done) | (apply decide_eq_false; omega) | fail "open") ?_; conv => enter [1]; whnf))
            refine Ends.opt ((by first | exact l2' | exact l2 _)) ?_
            conv => enter [1]; whnf
            repeat (first
              | (refine Ends.force ?_; conv => enter [1]; whnf)
              | (refine Ends.forceN ?_; conv => enter [1]; whnf)
              | (refine Ends.forceLs ?_; conv => enter [1]; whnf)
              | (refine Ends.iteT (by first | with_reducible assumption | (simp [*]; done) | (apply decide_eq_true; omega) | fail "open") ?_; conv => enter [1]; whnf)
              | (refine Ends.iteF (by first | with_reducible assumption | (simp [*]; done) | (apply decide_eq_false; omega) | fail "open") ?_; conv => enter [1]; whnf))
            refine Ends.opt ((by first | exact l2' | exact l2 _)) ?_
            conv => enter [1]; whnf
            repeat (first
              | (refine Ends.force ?_; conv => enter [1]; whnf)
              | (refine Ends.forceN ?_; conv => enter [1]; whnf)
              | (refine Ends.forceLs ?_; conv => enter [1]; whnf)
              | (refine Ends.iteT (by first | with_reducible assumption | (simp [*]; done) | (apply decide_eq_true; omega) | fail "open") ?_; conv => enter [1]; whnf)
              | (refine Ends.iteF (by first | with_reducible assumption | (simp [*]; done) | (apply decide_eq_false; omega) | fail "open") ?_; conv => enter [1]; whnf))
            refine Ends.opt ((by first | exact l2' | exact l2 _)) ?_
            conv => enter [1]; whnf
            repeat (first
              | (refine Ends.force ?_; conv => enter [1]; whnf)
              | (refine Ends.forceN ?_; conv => enter [1]; whnf)
              | (refine Ends.forceLs ?_; conv => enter [1]; whnf)
              | (refine Ends.iteT (by first | with_reducible assumption | (simp [*]; done) | (apply decide_eq_true; omega) | fail "open") ?_; conv => enter [1]; whnf)
              | (refine Ends.iteF (by first | with_reducible assumption | (simp [*]; done) | (apply decide_eq_false; omega) | fail "open") ?_; conv => enter [1]; whnf))
            refine Ends.call (awake33_F mk K lo (by omega) H2) ?_
            conv => enter [1]; whnf
            repeat (first
              | (refine Ends.force ?_; conv => enter [1]; whnf)
              | (refine Ends.forceN ?_; conv => enter [1]; whnf)
              | (refine Ends.forceLs ?_; conv => enter [1]; whnf)
              | (refine Ends.iteT (by first | with_reducible assumption | (simp [*]; done) | (apply decide_eq_true; omega) | fail "open") ?_; conv => enter [1]; whnf)
              | (refine Ends.iteF (by first | with_reducible assumption | (simp [*]; done) | (apply decide_eq_false; omega) | fail "open") ?_; conv => enter [1]; whnf))
            refine Ends.some' ?_
            simp
      · have q1 : ¬ f = 1 := fun z => cf (.inl z)
        have f2 : ¬ f = 2 := fun z => cf (.inr z)
        have hpk : pickP (nearA l) u f w G = (u, true) := by unfold pickP; rw [if_pos (by omega)]
        rw [hpk] at hpF
        have hp : _ = some (Val.tup [.int .i64 (u : Int), .bool true], H2) := hpF
        clear cf fb
        have hpn : u < 4 := hu4
        conv => enter [1]; whnf
        refine Ends.opt ((by first | exact l2' | exact l2 _)) ?_
        conv => enter [1]; whnf
        repeat (first
          | (refine Ends.force ?_; conv => enter [1]; whnf)
          | (refine Ends.forceN ?_; conv => enter [1]; whnf)
          | (refine Ends.forceLs ?_; conv => enter [1]; whnf)
          | (refine Ends.iteT (by first | with_reducible assumption | (simp [*]; done) | (apply decide_eq_true; omega) | fail "open") ?_; conv => enter [1]; whnf)
          | (refine Ends.iteF (by first | with_reducible assumption | (simp [*]; done) | (apply decide_eq_false; omega) | fail "open") ?_; conv => enter [1]; whnf))
        refine Ends.opt ((by first | exact l2' | exact l2 _)) ?_
        conv => enter [1]; whnf
        repeat (first
          | (refine Ends.force ?_; conv => enter [1]; whnf)
          | (refine Ends.forceN ?_; conv => enter [1]; whnf)
          | (refine Ends.forceLs ?_; conv => enter [1]; whnf)
          | (refine Ends.iteT (by first | with_reducible assumption | (simp [*]; done) | (apply decide_eq_true; omega) | fail "open") ?_; conv => enter [1]; whnf)
          | (refine Ends.iteF (by first | with_reducible assumption | (simp [*]; done) | (apply decide_eq_false; omega) | fail "open") ?_; conv => enter [1]; whnf))
        have hfr := frame_F mk K lo (by omega) (nearA l) u hpn ⟨v.n, f, w, v.t, v.z, v.kn⟩ H2
        replace hfr : _ = some (Val.tup [.int .i64 (if f = 1 ∧ (nearA l u).1 = 2 then 2 else f), .int .i64 (if f = 1 ∧ (nearA l u).1 = 2 then (nearA l u).2 else w)], H2) := hfr
        have hm3 : (IntKind.i64.wrap ((BitVec.ofInt IntKind.i64.bits (u : Int) &&& BitVec.ofInt IntKind.i64.bits 3).toNat : Nat)) = (u : Int) := by rw [and64_3]; omega
        have ho0 : 0 + ((IntKind.i64.wrap ((BitVec.ofInt IntKind.i64.bits (u : Int) &&& BitVec.ofInt IntKind.i64.bits 3).toNat : Nat)).toNat) * 2 + 0 = 2 * u := by rw [hm3]; omega
        have ho1 : 0 + ((IntKind.i64.wrap ((BitVec.ofInt IntKind.i64.bits (u : Int) &&& BitVec.ofInt IntKind.i64.bits 3).toNat : Nat)).toNat) * 2 + 1 = 2 * u + 1 := by rw [hm3]; omega

        rw [if_neg (fun z => q1 z.1), if_neg (fun z => q1 z.1)] at hfr
        refine Ends.opt ((by first | exact lN' | exact lN _)) ?_
        conv => enter [1]; whnf
        repeat (first
          | (refine Ends.force ?_; conv => enter [1]; whnf)
          | (refine Ends.forceN ?_; conv => enter [1]; whnf)
          | (refine Ends.forceLs ?_; conv => enter [1]; whnf)
          | (refine Ends.iteT (by first | with_reducible assumption | (simp [*]; done) | (apply decide_eq_true; omega) | fail "open") ?_; conv => enter [1]; whnf)
          | (refine Ends.iteF (by first | with_reducible assumption | (simp [*]; done) | (apply decide_eq_false; omega) | fail "open") ?_; conv => enter [1]; whnf))
        refine Ends.opt ((by first | exact l2' | exact l2 _)) ?_
        conv => enter [1]; whnf
        repeat (first
          | (refine Ends.force ?_; conv => enter [1]; whnf)
          | (refine Ends.forceN ?_; conv => enter [1]; whnf)
          | (refine Ends.forceLs ?_; conv => enter [1]; whnf)
          | (refine Ends.iteT (by first | with_reducible assumption | (simp [*]; done) | (apply decide_eq_true; omega) | fail "open") ?_; conv => enter [1]; whnf)
          | (refine Ends.iteF (by first | with_reducible assumption | (simp [*]; done) | (apply decide_eq_false; omega) | fail "open") ?_; conv => enter [1]; whnf))
        refine Ends.call (hp) ?_
        conv => enter [1]; whnf
        repeat (first
          | (refine Ends.force ?_; conv => enter [1]; whnf)
          | (refine Ends.forceN ?_; conv => enter [1]; whnf)
          | (refine Ends.forceLs ?_; conv => enter [1]; whnf)
          | (refine Ends.iteT (by first | with_reducible assumption | (simp [*]; done) | (apply decide_eq_true; omega) | fail "open") ?_; conv => enter [1]; whnf)
          | (refine Ends.iteF (by first | with_reducible assumption | (simp [*]; done) | (apply decide_eq_false; omega) | fail "open") ?_; conv => enter [1]; whnf))
        refine Ends.opt ((by first | exact lN' | exact lN _)) ?_
        conv => enter [1]; whnf
        repeat (first
          | (refine Ends.force ?_; conv => enter [1]; whnf)
          | (refine Ends.forceN ?_; conv => enter [1]; whnf)
          | (refine Ends.forceLs ?_; conv => enter [1]; whnf)
          | (refine Ends.iteT (by first | with_reducible assumption | (simp [*]; done) | (apply decide_eq_true; omega) | fail "open") ?_; conv => enter [1]; whnf)
          | (refine Ends.iteF (by first | with_reducible assumption | (simp [*]; done) | (apply decide_eq_false; omega) | fail "open") ?_; conv => enter [1]; whnf))
        refine Ends.opt ((by first | exact l2' | exact l2 _)) ?_
        conv => enter [1]; whnf
        repeat (first
          | (refine Ends.force ?_; conv => enter [1]; whnf)
          | (refine Ends.forceN ?_; conv => enter [1]; whnf)
          | (refine Ends.forceLs ?_; conv => enter [1]; whnf)
          | (refine Ends.iteT (by first | with_reducible assumption | (simp [*]; done) | (apply decide_eq_true; omega) | fail "open") ?_; conv => enter [1]; whnf)
          | (refine Ends.iteF (by first | with_reducible assumption | (simp [*]; done) | (apply decide_eq_false; omega) | fail "open") ?_; conv => enter [1]; whnf))
        refine Ends.call (hfr) ?_
        conv => enter [1]; whnf
        repeat (first
          | (refine Ends.force ?_; conv => enter [1]; whnf)
          | (refine Ends.forceN ?_; conv => enter [1]; whnf)
          | (refine Ends.forceLs ?_; conv => enter [1]; whnf)
          | (refine Ends.iteT (by first | with_reducible assumption | (simp [*]; done) | (apply decide_eq_true; omega) | fail "open") ?_; conv => enter [1]; whnf)
          | (refine Ends.iteF (by first | with_reducible assumption | (simp [*]; done) | (apply decide_eq_false; omega) | fail "open") ?_; conv => enter [1]; whnf))
        refine Ends.opt ((by first | exact l2' | exact l2 _)) ?_
        conv => enter [1]; whnf
        repeat (first
          | (refine Ends.force ?_; conv => enter [1]; whnf)
          | (refine Ends.forceN ?_; conv => enter [1]; whnf)
          | (refine Ends.forceLs ?_; conv => enter [1]; whnf)
          | (refine Ends.iteT (by first | with_reducible assumption | (simp [*]; done) | (apply decide_eq_true; omega) | fail "open") ?_; conv => enter [1]; whnf)
          | (refine Ends.iteF (by first | with_reducible assumption | (simp [*]; done) | (apply decide_eq_false; omega) | fail "open") ?_; conv => enter [1]; whnf))
        refine Ends.opt ((by first | exact l2' | exact l2 _)) ?_
        conv => enter [1]; whnf
        repeat (first
          | (refine Ends.force ?_; conv => enter [1]; whnf)
          | (refine Ends.forceN ?_; conv => enter [1]; whnf)
          | (refine Ends.forceLs ?_; conv => enter [1]; whnf)
          | (refine Ends.iteT (by first | with_reducible assumption | (simp [*]; done) | (apply decide_eq_true; omega) | fail "open") ?_; conv => enter [1]; whnf)
          | (refine Ends.iteF (by first | with_reducible assumption | (simp [*]; done) | (apply decide_eq_false; omega) | fail "open") ?_; conv => enter [1]; whnf))
        refine Ends.opt ((by first | exact l2' | exact l2 _)) ?_
        conv => enter [1]; whnf
        repeat (first
          | (refine Ends.force ?_; conv => enter [1]; whnf)
          | (refine Ends.forceN ?_; conv => enter [1]; whnf)
          | (refine Ends.forceLs ?_; conv => enter [1]; whnf)
          | (refine Ends.iteT (by first | with_reducible assumption | (simp [*]; done) | (apply decide_eq_true; omega) | fail "open") ?_; conv => enter [1]; whnf)
          | (refine Ends.iteF (by first | with_reducible assumption | (simp [*]; done) | (apply decide_eq_false; omega) | fail "open") ?_; conv => enter [1]; whnf))
        refine Ends.call (awake33_F mk K lo (by omega) H2) ?_
        conv => enter [1]; whnf
        repeat (first
          | (refine Ends.force ?_; conv => enter [1]; whnf)
          | (refine Ends.forceN ?_; conv => enter [1]; whnf)
          | (refine Ends.forceLs ?_; conv => enter [1]; whnf)
          | (refine Ends.iteT (by first | with_reducible assumption | (simp [*]; done) | (apply decide_eq_true; omega) | fail "open") ?_; conv => enter [1]; whnf)
          | (refine Ends.iteF (by first | with_reducible assumption | (simp [*]; done) | (apply decide_eq_false; omega) | fail "open") ?_; conv => enter [1]; whnf))
        refine Ends.some' ?_
        simp
  · exact congrArg (fun x => Mem.mk x H2) (loc3_set (x := lL l) (y := lL l) (z := lL l))
end Go.Proofs.Ytbkniomfegbdaaa.VM
