/- Shifts by the plain machine: the reference, name 69, wide false. -/
import Derived.Test.YtndgcjkmikhchaaSHe
namespace Go.Proofs.Ytndgcjkmikhchaa.VM
open Go Go.RowKit
open Sh
set_option linter.unusedVariables false
set_option linter.unusedSimpArgs false
set_option maxRecDepth 40000
set_option maxHeartbeats 3200000
theorem shift_69_false (mk : Mk) (k lo : Nat) (n : Nat) (hk : n + 60 ≤ k) (v : Nat) (was : Int) (hv : v < 65536) (hn : n < 256) (hz : n ≠ 0) (H : List Blk) (hlo : lo ≤ H.length) :
    Ends (FF mk k lo 5 [.int .i64 69, .int .u16 v, .int .i64 n, .int .u16 was, .bool false] H) (fun r => r.1 = .tup (outS 69 false v was n)) := by
  obtain ⟨k, rfl⟩ : ∃ m, k = m + 1 := ⟨k - 1, by omega⟩
  have g3 : ¬ ((n : Int) = 0) := by omega
  conv => enter [1]; whnf
  repeat' (first
    | refine Ends.some' ?_
    | (refine Ends.force ?_; conv => enter [1]; whnf)
    | (refine Ends.forceN ?_; conv => enter [1]; whnf)
    | (refine Ends.forceLs ?_; conv => enter [1]; whnf)
    | (refine Ends.call (size_F _ _ _ (by omega) _ _) ?_; conv => enter [1]; whnf)
    | (refine Ends.iteT (by first | with_reducible assumption | (simp [*]; done) | (apply decide_eq_true; omega) | fail "open") ?_; conv => enter [1]; whnf)
    | (refine Ends.iteF (by first | with_reducible assumption | (simp [*]; done) | (apply decide_eq_false; omega) | fail "open") ?_; conv => enter [1]; whnf)
    | (refine Ends.ite (fun h => ?_) (fun h => ?_) <;> (conv => enter [1]; whnf)))
  -- the first loop
  refine Ends.loop (fun m T M => ∃ (j : Nat) (G : List Blk) (loc : List (List Val)), j ≤ 8 ∧ 8 - j < m ∧ lo ≤ G.length ∧ T = [.int .i64 69, .int .u16 v, .int .i64 n, .int .u16 was, .bool false, .undef, .undef, .undef, .undef, .undef, .undef, .undef, .int .i64 8, .sl (.hp G.length) 0 j 1, .int .i64 j, .undef, .undef, .undef, .undef, .undef, .undef, .undef, .undef, .undef, .undef, .undef, .undef, .undef, .undef, .undef, .undef, .undef, .undef, .undef, .undef, .undef, .undef, .undef, .undef, .undef, .undef, .undef, .undef, .undef, .undef, .undef, .undef, .undef, .undef, .undef, .undef, .undef, .undef, .undef, .undef, .undef, .undef, .undef, .undef, .undef, .undef, .undef, .undef, .undef, .undef, .undef, .undef, .undef, .undef, .undef, .undef, .undef, .undef, .undef, .undef, .undef, .undef, .undef, .undef, .undef, .undef, .undef, .undef, .undef, .undef, .undef, .undef, .undef, .undef, .undef, .undef, .undef, .undef, .undef, .undef, .undef, .undef, .undef, .undef, .undef, .undef, .undef, .undef, .undef, .undef, .undef, .undef, .undef, .undef, .undef, .undef, .undef, .undef, .undef, .undef, .undef, .undef, .undef, .undef, .undef, .undef, .undef, .undef, .undef, .undef, .undef, .undef, .undef, .undef, .undef, .undef, .undef, .undef, .undef, .undef, .undef, .undef, .undef, .undef, .undef, .undef, .undef, .undef, .undef, .undef, .undef, .undef, .undef, .undef, .undef, .undef, .undef, .undef, .undef, .undef, .undef, .undef, .undef, .undef, .undef, .undef, .undef, .undef, .undef, .undef, .undef, .undef, .undef, .undef, .undef, .undef, .undef, .undef] ∧ M = ⟨loc, G ++ [⟨bitsV (bitsL v j), true⟩]⟩) (fun T M ⟨j, _, _, _, h, _⟩ => by omega) ?_ _ _ ⟨0, H, [], by omega, by omega, hlo, rfl, rfl⟩
  rintro m T M L ⟨j, G, loc, j1, j2, jl, rfl, rfl⟩ hL
  conv => enter [1]; whnf
  refine Ends.ite (fun h => ?_) (fun h => ?_) <;> (conv => enter [1]; whnf)
  · have hj : j < 8 := by have := of_decide_eq_true h; omega
    have hm := write_top (lo := lo) (G := G) jl
    have hl : (bitsV (bitsL v j)).length = j := by rw [bitsV_len, bitsL_len]
    have hs : ∀ (c : Val) (hp : List Blk), sliceCells ⟨loc ++ [[c]], hp⟩ 1 (.sl (.lo loc.length) 0 1 1) = some [c] := by
      intro c hp; simp [sliceCells, Mem.get, part?, dropN, takeN]
    refine Ends.call (bit_F _ _ _ (by omega) v j hv (by omega) _) ?_
    conv => enter [1]; whnf
    repeat' (first
      | refine Ends.some' ?_
      | (refine Ends.force ?_; conv => enter [1]; whnf)
      | (refine Ends.forceN ?_; conv => enter [1]; whnf)
      | (refine Ends.forceLs ?_; conv => enter [1]; whnf)
      | (refine Ends.opt (hs _ _) ?_; conv => enter [1]; whnf)
      | (refine Ends.opt (get_top _ _ _) ?_; conv => enter [1]; whnf)
      | (refine Ends.iteT (by with_reducible exact (decide_eq_true (by rw [hl]; omega))) ?_; conv => enter [1]; whnf)
      | (refine Ends.iteT (by first | with_reducible assumption | (simp [*]; done) | (apply decide_eq_true; omega) | fail "open") ?_; conv => enter [1]; whnf)
      | (refine Ends.iteF (by first | with_reducible assumption | (simp [*]; done) | (apply decide_eq_false; omega) | fail "open") ?_; conv => enter [1]; whnf)
      | (refine Ends.ite (fun h => ?_) (fun h => ?_) <;> (conv => enter [1]; whnf)))
    refine hL _ ⟨j + 1, (G ++ [(⟨bitsV (bitsL v j), true⟩ : Blk)]).set G.length ⟨[], false⟩, loc ++ [[.int .i64 ((v / 2 ^ j % 2 : Nat) : Int)]], by omega, by omega, by simp; omega, ?_, ?_⟩
    · have e3 : IntKind.i64.wrap ((j : Int) + 1) = ((j + 1 : Nat) : Int) := by rw [← i64N (j + 1) (by omega)]; rfl
      rw [← e3, List.length_set]
      rfl
    · rw [drop0, bitsV_append, bitsL_succ]
  have hj : j = 8 := by have := of_decide_eq_false h; omega
  subst hj
  have xl := bitsL_lt v 8
  have xn := ofN_bitsL v 8
  have xe := bitsL_len v 8
  generalize bitsL v 8 = x at *
  clear hL L h j1 j2
  refine Ends.iteF (by simp [*]) ?_
  conv => enter [1]; whnf
  rw [wasC_eq]
  have x0v : ofN x = (itS 69 false (cutN v false) (wasC (wasZ was)) 0).1 := by rw [xn]; rfl
  have hcv := cutN_lt v false
  unfold outS
  generalize hc0 : wasC (wasZ was) = c0 at *
  have hcz : ∀ (q : Option (Val × List Blk)), True := fun _ => trivial
  clear hcz
  have main : ∀ (c : Int) (sg : Int) (G : List Blk), True := fun _ _ _ => trivial
  clear main
  refine Ends.ite (fun hc => ?_) (fun hc => ?_) <;> (conv => enter [1]; whnf) <;> subst hc
  · refine Ends.loop (fun m T M => ∃ (j : Nat) (G : List Blk) (x : List Nat) (sg : Int), j ≤ n ∧ n - j < m ∧ lo ≤ G.length ∧ x.length = 8 ∧ (∀ b ∈ x, b < 2) ∧ ofN x = (itS 69 false (cutN v false) true j).1 ∧ (j ≠ 0 → sg = (b2n (sgn (itS 69 false (cutN v false) true j).2.2 false) : Nat)) ∧ T = [.int .i64 69, .undef, .int .i64 n, .undef, .bool false, .undef, .undef, .undef, .undef, .undef, .undef, .undef, .int .i64 8, .sl (.hp G.length) 0 8 1, .undef, .int .u16 (wasZ was), .int .i64 (b2n (itS 69 false (cutN v false) true j).2.1 : Nat), .int .i64 sg, .int .i64 j, .undef, .undef, .undef, .undef, .undef, .undef, .undef, .undef, .undef, .undef, .undef, .undef, .undef, .undef, .undef, .undef, .undef, .undef, .undef, .undef, .undef, .undef, .undef, .undef, .undef, .undef, .undef, .undef, .undef, .undef, .undef, .undef, .undef, .undef, .undef, .undef, .undef, .undef, .undef, .undef, .undef, .undef, .undef, .undef, .undef, .undef, .undef, .undef, .undef, .undef, .undef, .undef, .undef, .undef, .undef, .undef, .undef, .undef, .undef, .undef, .undef, .undef, .undef, .undef, .undef, .undef, .undef, .undef, .undef, .undef, .undef, .undef, .undef, .undef, .undef, .undef, .undef, .undef, .undef, .undef, .undef, .undef, .undef, .undef, .undef, .undef, .undef, .undef, .undef, .undef, .undef, .undef, .undef, .undef, .undef, .undef, .undef, .undef, .undef, .undef, .undef, .undef, .undef, .undef, .undef, .undef, .undef, .undef, .undef, .undef, .undef, .undef, .undef, .undef, .undef, .undef, .undef, .undef, .undef, .undef, .undef, .undef, .undef, .undef, .undef, .undef, .undef, .undef, .undef, .undef, .undef, .undef, .undef, .undef, .undef, .undef, .undef, .undef, .undef, .undef, .undef, .undef, .undef, .undef, .undef, .undef, .undef, .undef, .undef, .undef, .undef, .undef, .undef, .undef] ∧ M = ⟨loc, G ++ [⟨bitsV x, true⟩]⟩) (fun T M ⟨j, _, _, _, _, h, _⟩ => by omega) ?_ _ _ ⟨0, G, x, 0, by omega, by omega, jl, xe, xl, x0v, fun h => absurd rfl h, rfl, rfl⟩
    clear xl xn xe x0v jl x
    rintro m T M L ⟨j, G, x, sg, j1, j2, jl, xe, xl, xv, hs, rfl, rfl⟩ hL
    have i1 := itS_lt (name := 69) (c := true) hcv j
    obtain ⟨x0, x1, x2, x3, x4, x5, x6, x7, rfl⟩ := list8 xe
    have hb0 := xl x0 (by simp)
    have hb1 := xl x1 (by simp)
    have hb2 := xl x2 (by simp)
    have hb3 := xl x3 (by simp)
    have hb4 := xl x4 (by simp)
    have hb5 := xl x5 (by simp)
    have hb6 := xl x6 (by simp)
    have hb7 := xl x7 (by simp)
    have hl : ofN [x0, x1, x2, x3, x4, x5, x6] < HH false := by
      have := ofN_lt [x0, x1, x2, x3, x4, x5, x6] (fun b hb => xl b (by simp only [List.mem_cons, List.not_mem_nil, or_false] at hb ⊢; omega))
      exact this
    have hv : (itS 69 false (cutN v false) true j).1 = ofN [x0, x1, x2, x3, x4, x5, x6] + HH false * x7 := by rw [← xv]; exact ofN_append [x0, x1, x2, x3, x4, x5, x6] x7
    have ht : (itS 69 false (cutN v false) true j).1 / HH false % 2 = x7 := by rw [hv]; simp only [HH, Bool.false_eq_true, if_true, if_false] at hl ⊢; omega
    have hsg : sgn (itS 69 false (cutN v false) true j).1 false = decide (x7 = 1) := by unfold sgn; rw [ht]
    have hr : ofN [x1, x2, x3, x4, x5, x6, x7] < HH false := by
      have := ofN_lt [x1, x2, x3, x4, x5, x6, x7] (fun b hb => xl b (by simp only [List.mem_cons, List.not_mem_nil, or_false] at hb ⊢; omega))
      exact this
    conv => enter [1]; whnf
    refine Ends.ite (fun h => ?_) (fun h => ?_) <;> (conv => enter [1]; whnf)
    · have hj : j < n := by have := of_decide_eq_true h; omega
      obtain ⟨k, rfl⟩ : ∃ m, k = m + 20 := ⟨k - 20, by omega⟩
      have hm := write_top2 (lo := lo) (G := G) (B := ⟨bitsV [x0, x1, x2, x3, x4, x5, x6, x7], true⟩) jl
      have hne : (G ++ [(⟨bitsV [x0, x1, x2, x3, x4, x5, x6, x7], true⟩ : Blk)]).length ≠ G.length := by simp
      refine Ends.opt (get_top loc G _) ?_
      conv => enter [1]; whnf
      refine Ends.opt (get_top loc G _) ?_
      conv => enter [1]; whnf
      refine Ends.opt (get_top loc G _) ?_
      conv => enter [1]; whnf
      refine Ends.opt (get_prev loc G _ _) ?_
      conv => enter [1]; whnf
      refine Ends.iteT hm ?_
      conv => enter [1]; whnf
      refine Ends.opt (get_top loc (G ++ [(⟨bitsV [x0, x1, x2, x3, x4, x5, x6, x7], true⟩ : Blk)]) _) ?_
      conv => enter [1]; whnf
      refine Ends.opt (get_set_ne hne (get_prev loc G _ _)) ?_
      conv => enter [1]; whnf
      refine Ends.iteT hm ?_
      conv => enter [1]; whnf
      refine Ends.opt (get_set_eq (by simp only [List.length_set, List.length_append, List.length_cons, List.length_nil]; omega)) ?_
      conv => enter [1]; whnf
      refine Ends.opt (get_set_ne hne (get_set_ne hne (get_prev loc G _ _))) ?_
      conv => enter [1]; whnf
      refine Ends.iteT hm ?_
      conv => enter [1]; whnf
      refine Ends.opt (get_set_eq (by simp only [List.length_set, List.length_append, List.length_cons, List.length_nil]; omega)) ?_
      conv => enter [1]; whnf
      refine Ends.opt (get_set_ne hne (get_set_ne hne (get_set_ne hne (get_prev loc G _ _)))) ?_
      conv => enter [1]; whnf
      refine Ends.iteT hm ?_
      conv => enter [1]; whnf
      refine Ends.opt (get_set_eq (by simp only [List.length_set, List.length_append, List.length_cons, List.length_nil]; omega)) ?_
      conv => enter [1]; whnf
      refine Ends.opt (get_set_ne hne (get_set_ne hne (get_set_ne hne (get_set_ne hne (get_prev loc G _ _))))) ?_
      conv => enter [1]; whnf
      refine Ends.iteT hm ?_
      conv => enter [1]; whnf
      refine Ends.opt (get_set_eq (by simp only [List.length_set, List.length_append, List.length_cons, List.length_nil]; omega)) ?_
      conv => enter [1]; whnf
      refine Ends.opt (get_set_ne hne (get_set_ne hne (get_set_ne hne (get_set_ne hne (get_set_ne hne (get_prev loc G _ _)))))) ?_
      conv => enter [1]; whnf
      refine Ends.iteT hm ?_
      conv => enter [1]; whnf
      refine Ends.opt (get_set_eq (by simp only [List.length_set, List.length_append, List.length_cons, List.length_nil]; omega)) ?_
      conv => enter [1]; whnf
      refine Ends.opt (get_set_ne hne (get_set_ne hne (get_set_ne hne (get_set_ne hne (get_set_ne hne (get_set_ne hne (get_prev loc G _ _))))))) ?_
      conv => enter [1]; whnf
      refine Ends.iteT hm ?_
      conv => enter [1]; whnf
      refine Ends.opt (get_set_eq (by simp only [List.length_set, List.length_append, List.length_cons, List.length_nil]; omega)) ?_
      conv => enter [1]; whnf
      refine Ends.iteT hm ?_
      conv => enter [1]; whnf
      refine Ends.opt (get_set_eq (by simp only [List.length_set, List.length_append, List.length_cons, List.length_nil]; omega)) ?_
      conv => enter [1]; whnf
      have hbc := b2n_le (itS 69 false (cutN v false) true j).2.1
      have hst := right_step 69 (by decide) false _ x0 _ x7 (itS 69 false (cutN v false) true j).2.1 hr hb0 xv.symm ht
      have e1 : ((x0 : Nat) : Int) = ((b2n (itS 69 false (cutN v false) true (j + 1)).2.1 : Nat) : Int) := by
        show _ = ((b2n (stepC 69 (itS 69 false (cutN v false) true j).1 false) : Nat) : Int)
        rw [hst.2.1, b2n_dec hb0]
      have e3 : IntKind.i64.wrap ((j : Int) + 1) = ((j + 1 : Nat) : Int) := by rw [← i64N (j + 1) (by omega)]; rfl
      refine hL _ ⟨j + 1, G ++ [⟨bitsV [x0, x1, x2, x3, x4, x5, x6, x7], true⟩], [x1, x2, x3, x4, x5, x6, x7, x7], ((x7 : Nat) : Int), by omega, by omega, by simp; omega, rfl, ?_, ?_, ?_, ?_, ?_⟩
      · intro b hb
        simp only [List.mem_cons, List.not_mem_nil, or_false] at hb
        clear hL e1 e3 hst hv hl ht hsg hs i1
        omega
      · exact (ofN_append [x1, x2, x3, x4, x5, x6, x7] x7).trans hst.1.symm
      · intro _
        show ((x7 : Nat) : Int) = ((b2n (sgn (itS 69 false (cutN v false) true j).1 false) : Nat) : Int)
        rw [hsg, b2n_dec hb7]
      · rw [← e1, ← e3]
        rfl
      · refine congrArg (Mem.mk loc) ?_
        simp only [set_top]
        rfl
    · have hj : j = n := by have := of_decide_eq_false h; omega
      subst hj
      have hs2 := hs hz
      subst hs2
      have ho : FF mk k lo 13 [.sl (.hp G.length) 0 8 1] (G ++ [⟨bitsV [x0, x1, x2, x3, x4, x5, x6, x7], true⟩]) = some (.int .u16 ((itS 69 false (cutN v false) true j).1 : Nat), (G ++ [⟨bitsV [x0, x1, x2, x3, x4, x5, x6, x7], true⟩])) := by
        rw [← xv]
        exact of_F mk k lo (by omega) _ xl (by simp) G.length _ (get_top [] G _)
      have hMM := MM_le false
      have s1 := fun (H : List Blk) => signsR_F mk k lo (by omega) _ (show (itS 69 false (cutN v false) true j).1 < 65536 by omega) false H
      have hx7 : ((x7 : Nat) : Int) = ((b2n (sgn (itS 69 false (cutN v false) true j).1 false) : Nat) : Int) := by rw [hsg, b2n_dec hb7]
      have hg := get_top loc G (bitsV [x0, x1, x2, x3, x4, x5, x6, x7])
      clear hL hv hl ht xl xv hs
      refine Ends.call ho ?_
      conv => enter [1]; whnf
      refine Ends.call (s1 _) ?_
      conv => enter [1]; whnf
      refine Ends.ite (fun h => ?_) (fun h => ?_) <;> (conv => enter [1]; whnf) <;> (refine Ends.opt hg ?_; conv => enter [1]; whnf) <;> (refine Ends.ite (fun h2 => ?_) (fun h2 => ?_) <;> (conv => enter [1]; whnf)) <;> refine Ends.some' ?_
      all_goals (
        simp only [hx7, b2n_bne, b2n_one] at *
        simp only [finZ, h, h2, if_true, if_false, cond_true, cond_false])
      all_goals rfl
  · refine Ends.loop (fun m T M => ∃ (j : Nat) (G : List Blk) (x : List Nat) (sg : Int), j ≤ n ∧ n - j < m ∧ lo ≤ G.length ∧ x.length = 8 ∧ (∀ b ∈ x, b < 2) ∧ ofN x = (itS 69 false (cutN v false) false j).1 ∧ (j ≠ 0 → sg = (b2n (sgn (itS 69 false (cutN v false) false j).2.2 false) : Nat)) ∧ T = [.int .i64 69, .undef, .int .i64 n, .undef, .bool false, .undef, .undef, .undef, .undef, .undef, .undef, .undef, .int .i64 8, .sl (.hp G.length) 0 8 1, .undef, .int .u16 (wasZ was), .int .i64 (b2n (itS 69 false (cutN v false) false j).2.1 : Nat), .int .i64 sg, .int .i64 j, .undef, .undef, .undef, .undef, .undef, .undef, .undef, .undef, .undef, .undef, .undef, .undef, .undef, .undef, .undef, .undef, .undef, .undef, .undef, .undef, .undef, .undef, .undef, .undef, .undef, .undef, .undef, .undef, .undef, .undef, .undef, .undef, .undef, .undef, .undef, .undef, .undef, .undef, .undef, .undef, .undef, .undef, .undef, .undef, .undef, .undef, .undef, .undef, .undef, .undef, .undef, .undef, .undef, .undef, .undef, .undef, .undef, .undef, .undef, .undef, .undef, .undef, .undef, .undef, .undef, .undef, .undef, .undef, .undef, .undef, .undef, .undef, .undef, .undef, .undef, .undef, .undef, .undef, .undef, .undef, .undef, .undef, .undef, .undef, .undef, .undef, .undef, .undef, .undef, .undef, .undef, .undef, .undef, .undef, .undef, .undef, .undef, .undef, .undef, .undef, .undef, .undef, .undef, .undef, .undef, .undef, .undef, .undef, .undef, .undef, .undef, .undef, .undef, .undef, .undef, .undef, .undef, .undef, .undef, .undef, .undef, .undef, .undef, .undef, .undef, .undef, .undef, .undef, .undef, .undef, .undef, .undef, .undef, .undef, .undef, .undef, .undef, .undef, .undef, .undef, .undef, .undef, .undef, .undef, .undef, .undef, .undef, .undef, .undef, .undef, .undef, .undef, .undef, .undef] ∧ M = ⟨loc, G ++ [⟨bitsV x, true⟩]⟩) (fun T M ⟨j, _, _, _, _, h, _⟩ => by omega) ?_ _ _ ⟨0, G, x, 0, by omega, by omega, jl, xe, xl, x0v, fun h => absurd rfl h, rfl, rfl⟩
    clear xl xn xe x0v jl x
    rintro m T M L ⟨j, G, x, sg, j1, j2, jl, xe, xl, xv, hs, rfl, rfl⟩ hL
    have i1 := itS_lt (name := 69) (c := false) hcv j
    obtain ⟨x0, x1, x2, x3, x4, x5, x6, x7, rfl⟩ := list8 xe
    have hb0 := xl x0 (by simp)
    have hb1 := xl x1 (by simp)
    have hb2 := xl x2 (by simp)
    have hb3 := xl x3 (by simp)
    have hb4 := xl x4 (by simp)
    have hb5 := xl x5 (by simp)
    have hb6 := xl x6 (by simp)
    have hb7 := xl x7 (by simp)
    have hl : ofN [x0, x1, x2, x3, x4, x5, x6] < HH false := by
      have := ofN_lt [x0, x1, x2, x3, x4, x5, x6] (fun b hb => xl b (by simp only [List.mem_cons, List.not_mem_nil, or_false] at hb ⊢; omega))
      exact this
    have hv : (itS 69 false (cutN v false) false j).1 = ofN [x0, x1, x2, x3, x4, x5, x6] + HH false * x7 := by rw [← xv]; exact ofN_append [x0, x1, x2, x3, x4, x5, x6] x7
    have ht : (itS 69 false (cutN v false) false j).1 / HH false % 2 = x7 := by rw [hv]; simp only [HH, Bool.false_eq_true, if_true, if_false] at hl ⊢; omega
    have hsg : sgn (itS 69 false (cutN v false) false j).1 false = decide (x7 = 1) := by unfold sgn; rw [ht]
    have hr : ofN [x1, x2, x3, x4, x5, x6, x7] < HH false := by
      have := ofN_lt [x1, x2, x3, x4, x5, x6, x7] (fun b hb => xl b (by simp only [List.mem_cons, List.not_mem_nil, or_false] at hb ⊢; omega))
      exact this
    conv => enter [1]; whnf
    refine Ends.ite (fun h => ?_) (fun h => ?_) <;> (conv => enter [1]; whnf)
    · have hj : j < n := by have := of_decide_eq_true h; omega
      obtain ⟨k, rfl⟩ : ∃ m, k = m + 20 := ⟨k - 20, by omega⟩
      have hm := write_top2 (lo := lo) (G := G) (B := ⟨bitsV [x0, x1, x2, x3, x4, x5, x6, x7], true⟩) jl
      have hne : (G ++ [(⟨bitsV [x0, x1, x2, x3, x4, x5, x6, x7], true⟩ : Blk)]).length ≠ G.length := by simp
      refine Ends.opt (get_top loc G _) ?_
      conv => enter [1]; whnf
      refine Ends.opt (get_top loc G _) ?_
      conv => enter [1]; whnf
      refine Ends.opt (get_top loc G _) ?_
      conv => enter [1]; whnf
      refine Ends.opt (get_prev loc G _ _) ?_
      conv => enter [1]; whnf
      refine Ends.iteT hm ?_
      conv => enter [1]; whnf
      refine Ends.opt (get_top loc (G ++ [(⟨bitsV [x0, x1, x2, x3, x4, x5, x6, x7], true⟩ : Blk)]) _) ?_
      conv => enter [1]; whnf
      refine Ends.opt (get_set_ne hne (get_prev loc G _ _)) ?_
      conv => enter [1]; whnf
      refine Ends.iteT hm ?_
      conv => enter [1]; whnf
      refine Ends.opt (get_set_eq (by simp only [List.length_set, List.length_append, List.length_cons, List.length_nil]; omega)) ?_
      conv => enter [1]; whnf
      refine Ends.opt (get_set_ne hne (get_set_ne hne (get_prev loc G _ _))) ?_
      conv => enter [1]; whnf
      refine Ends.iteT hm ?_
      conv => enter [1]; whnf
      refine Ends.opt (get_set_eq (by simp only [List.length_set, List.length_append, List.length_cons, List.length_nil]; omega)) ?_
      conv => enter [1]; whnf
      refine Ends.opt (get_set_ne hne (get_set_ne hne (get_set_ne hne (get_prev loc G _ _)))) ?_
      conv => enter [1]; whnf
      refine Ends.iteT hm ?_
      conv => enter [1]; whnf
      refine Ends.opt (get_set_eq (by simp only [List.length_set, List.length_append, List.length_cons, List.length_nil]; omega)) ?_
      conv => enter [1]; whnf
      refine Ends.opt (get_set_ne hne (get_set_ne hne (get_set_ne hne (get_set_ne hne (get_prev loc G _ _))))) ?_
      conv => enter [1]; whnf
      refine Ends.iteT hm ?_
      conv => enter [1]; whnf
      refine Ends.opt (get_set_eq (by simp only [List.length_set, List.length_append, List.length_cons, List.length_nil]; omega)) ?_
      conv => enter [1]; whnf
      refine Ends.opt (get_set_ne hne (get_set_ne hne (get_set_ne hne (get_set_ne hne (get_set_ne hne (get_prev loc G _ _)))))) ?_
      conv => enter [1]; whnf
      refine Ends.iteT hm ?_
      conv => enter [1]; whnf
      refine Ends.opt (get_set_eq (by simp only [List.length_set, List.length_append, List.length_cons, List.length_nil]; omega)) ?_
      conv => enter [1]; whnf
      refine Ends.opt (get_set_ne hne (get_set_ne hne (get_set_ne hne (get_set_ne hne (get_set_ne hne (get_set_ne hne (get_prev loc G _ _))))))) ?_
      conv => enter [1]; whnf
      refine Ends.iteT hm ?_
      conv => enter [1]; whnf
      refine Ends.opt (get_set_eq (by simp only [List.length_set, List.length_append, List.length_cons, List.length_nil]; omega)) ?_
      conv => enter [1]; whnf
      refine Ends.iteT hm ?_
      conv => enter [1]; whnf
      refine Ends.opt (get_set_eq (by simp only [List.length_set, List.length_append, List.length_cons, List.length_nil]; omega)) ?_
      conv => enter [1]; whnf
      have hbc := b2n_le (itS 69 false (cutN v false) false j).2.1
      have hst := right_step 69 (by decide) false _ x0 _ x7 (itS 69 false (cutN v false) false j).2.1 hr hb0 xv.symm ht
      have e1 : ((x0 : Nat) : Int) = ((b2n (itS 69 false (cutN v false) false (j + 1)).2.1 : Nat) : Int) := by
        show _ = ((b2n (stepC 69 (itS 69 false (cutN v false) false j).1 false) : Nat) : Int)
        rw [hst.2.1, b2n_dec hb0]
      have e3 : IntKind.i64.wrap ((j : Int) + 1) = ((j + 1 : Nat) : Int) := by rw [← i64N (j + 1) (by omega)]; rfl
      refine hL _ ⟨j + 1, G ++ [⟨bitsV [x0, x1, x2, x3, x4, x5, x6, x7], true⟩], [x1, x2, x3, x4, x5, x6, x7, x7], ((x7 : Nat) : Int), by omega, by omega, by simp; omega, rfl, ?_, ?_, ?_, ?_, ?_⟩
      · intro b hb
        simp only [List.mem_cons, List.not_mem_nil, or_false] at hb
        clear hL e1 e3 hst hv hl ht hsg hs i1
        omega
      · exact (ofN_append [x1, x2, x3, x4, x5, x6, x7] x7).trans hst.1.symm
      · intro _
        show ((x7 : Nat) : Int) = ((b2n (sgn (itS 69 false (cutN v false) false j).1 false) : Nat) : Int)
        rw [hsg, b2n_dec hb7]
      · rw [← e1, ← e3]
        rfl
      · refine congrArg (Mem.mk loc) ?_
        simp only [set_top]
        rfl
    · have hj : j = n := by have := of_decide_eq_false h; omega
      subst hj
      have hs2 := hs hz
      subst hs2
      have ho : FF mk k lo 13 [.sl (.hp G.length) 0 8 1] (G ++ [⟨bitsV [x0, x1, x2, x3, x4, x5, x6, x7], true⟩]) = some (.int .u16 ((itS 69 false (cutN v false) false j).1 : Nat), (G ++ [⟨bitsV [x0, x1, x2, x3, x4, x5, x6, x7], true⟩])) := by
        rw [← xv]
        exact of_F mk k lo (by omega) _ xl (by simp) G.length _ (get_top [] G _)
      have hMM := MM_le false
      have s1 := fun (H : List Blk) => signsR_F mk k lo (by omega) _ (show (itS 69 false (cutN v false) false j).1 < 65536 by omega) false H
      have hx7 : ((x7 : Nat) : Int) = ((b2n (sgn (itS 69 false (cutN v false) false j).1 false) : Nat) : Int) := by rw [hsg, b2n_dec hb7]
      have hg := get_top loc G (bitsV [x0, x1, x2, x3, x4, x5, x6, x7])
      clear hL hv hl ht xl xv hs
      refine Ends.call ho ?_
      conv => enter [1]; whnf
      refine Ends.call (s1 _) ?_
      conv => enter [1]; whnf
      refine Ends.ite (fun h => ?_) (fun h => ?_) <;> (conv => enter [1]; whnf) <;> (refine Ends.opt hg ?_; conv => enter [1]; whnf) <;> (refine Ends.ite (fun h2 => ?_) (fun h2 => ?_) <;> (conv => enter [1]; whnf)) <;> refine Ends.some' ?_
      all_goals (
        simp only [hx7, b2n_bne, b2n_one] at *
        simp only [finZ, h, h2, if_true, if_false, cond_true, cond_false])
      all_goals rfl
end Go.Proofs.Ytndgcjkmikhchaa.VM
