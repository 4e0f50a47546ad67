/- WorldApart by the plain machine: a list that is there. -/
import Derived.Test.YtielhghmihlfkaaWDb
namespace Go.Proofs.Ytielhghmihlfkaa.VM
open Go Go.RowKit
set_option linter.unusedVariables false
set_option linter.unusedSimpArgs false
set_option maxRecDepth 100000
set_option maxHeartbeats 3200000
theorem rest_of (l : List Ev) (m : Nat) : evsV l = evsV (l.take m) ++ evsV (l.drop m) := by
  rw [← evsV_append, List.take_append_drop]
theorem sc_ev (loc : List (List Val)) (X : List Ev) (r : List Val) (B : Blk) : sliceCells ⟨loc, [⟨evsV X ++ r, true⟩, B]⟩ 7 (.sl (.hp 0) 0 X.length 7) = some (evsV X) := by
  show part? 0 (X.length * 7) (evsV X ++ r) = some (evsV X)
  exact part_mid [] (evsV X) r rfl (evsV_len X).symm
theorem partEv0 {l : List Ev} {i : Nat} (h : i < l.length) {off : Nat} (ho : off = i * 7) : partV Try.prog 70 (evsV l) off = some (.agg (evV l[i])) := by
  have := partEv (r := []) h ho
  rwa [List.append_nil] at this
theorem worldApart_e (mk : Mk) (l : List Ev) (a : Int) (e : Ev) : Ends (FF mk 100 1 7 [.sl (.hp 0) 0 l.length 7, .int .i64 a, .agg (evV e)] [⟨evsV l, true⟩]) (fun r => r.1 = .bool true) := by
  obtain ⟨k, hk⟩ : ∃ k, k = 99 := ⟨_, rfl⟩
  show Ends (FF mk (99 + 1) 1 7 _ _) _
  rw [← hk]
  have hm : (if (20 : Int) < ((l.length : Int)) then (20 : Int) else ((l.length : Int))) = (((l.take 20).length : Nat) : Int) := by rw [List.length_take]; split <;> omega
  rw [rest_of l 20]
  conv => enter [1]; whnf
  rw [hm]
  have hX : (l.take 20).length ≤ 20 ∧ (l.take 20).length ≤ l.length := by rw [List.length_take]; omega
  generalize l.length = nl at *
  generalize evsV (l.drop 20) = ra at *
  generalize l.take 20 = X at *
  clear hm
  refine Ends.iteT (decide_eq_true (by omega)) ?_
  rw [show ((X.length : Int) - 0).toNat = X.length by omega]
  conv => enter [1]; whnf
  refine Ends.iteT (by simp only [decide_eq_true_eq, ne_eq]; rw [w64]; omega) ?_
  obtain ⟨i, hi, hi2⟩ : ∃ i : Nat, (IntKind.i64.wrap ((BitVec.ofInt IntKind.i64.bits a &&& BitVec.ofInt IntKind.i64.bits 255).toNat : Nat)).tmod (IntKind.i64.wrap ((X.length : Int) + 1)) = (i : Int) ∧ i ≤ X.length := by
    rw [and64_255, w64, tmod_pos _ _ (by omega), if_pos (by omega)]
    have h1 := Int.emod_nonneg (a % 256) (show ((X.length : Int) + 1 + 9223372036854775808) % 18446744073709551616 - 9223372036854775808 ≠ 0 by omega)
    have h2 := Int.emod_lt_of_pos (a % 256) (show 0 < ((X.length : Int) + 1 + 9223372036854775808) % 18446744073709551616 - 9223372036854775808 by omega)
    exact ⟨_, (Int.toNat_of_nonneg h1).symm, by omega⟩
  rw [hi]
  conv => enter [1]; whnf
  refine Ends.opt (sc_ev _ X ra _) ?_
  conv => enter [1]; whnf
  refine Ends.iteT (decide_eq_true (evsV_len X).symm) ?_
  conv => enter [1]; whnf
  refine Ends.iteT (evs_shared X) ?_
  conv => enter [1]; whnf
  refine Ends.iteT (decide_eq_true (by omega)) ?_
  conv => enter [1]; whnf
  refine Ends.force ?_
  conv => enter [1]; whnf
  refine Ends.ite (fun h => ?_) (fun h => ?_) <;> (conv => enter [1]; whnf)
  · have h1 : i < X.length := by have := of_decide_eq_true h; omega
    refine Ends.iteT (decide_eq_true (by omega)) ?_
    conv => enter [1]; whnf
    refine Ends.opt (partEv0 h1 (by omega)) ?_
    conv => enter [1]; whnf
    refine Ends.iteF (by with_reducible exact badEv mk) ?_
    conv => enter [1]; whnf
    refine Ends.ite (fun h2 => ?_) (fun h2 => ?_) <;> (conv => enter [1]; whnf) <;> (refine Ends.iteT (decide_eq_true (by omega)) ?_; conv => enter [1]; whnf) <;> (refine Ends.opt (put_ev h1 e (by omega)) ?_; conv => enter [1]; whnf) <;> (refine Ends.force ?_; conv => enter [1]; whnf) <;> (refine Ends.iteT h ?_; conv => enter [1]; whnf)
    · have he : X[i] ≠ e := (evEq_no _ _).1 (by have h' : (!evEq X[i] e) = true := h2; simpa using h')
      refine Ends.call (out_F _ _ _ (by omega) _) ?_
      conv => enter [1]; whnf
      refine Ends.call (stop_F _ _ _ (by omega) _) ?_
      conv => enter [1]; whnf
      refine Ends.call (int_F _ _ _ (by omega) _) ?_
      conv => enter [1]; whnf
      refine Ends.callE (aw12 mk k (by omega) _ _ _) (fun v H' hv => ?_)
      obtain ⟨hv, G, hG⟩ := hv
      obtain rfl : v = _ := hv
      obtain rfl : H' = _ := hG
      conv => enter [1]; whnf
      refine Ends.callE (apart_G mk k 1 X (X.set i e) ra [] 0 2 _ _ _ _ ?_ ?_ ?_ ?_ ?_ ?_ ?_ _ ?_ ?_) (fun v H' hv => ?_)
      · first | rfl | omega
      · first | rfl | omega
      · first | rfl | omega
      · first | rfl | (simp only [List.length_set]; omega) | (rw [List.length_take]; omega) | omega
      · first | omega | (simp only [List.length_set, List.length_take]; omega)
      · omega
      · first | omega | (simp only [List.length_set, List.length_take]; omega)
      · intro loc; rfl
      · intro loc; rw [List.append_nil]; rfl
      obtain ⟨hH, z, hz, hp⟩ := hv
      obtain rfl : v = _ := hz
      obtain rfl : H' = _ := hH
      have hz2 : z = (i : Int) := (parts_set h1 e hp).2 he
      subst hz2
      conv => enter [1]; whnf
      first
        | (refine Ends.iteT (by first | (simp; done) | fail "open") ?_; conv => enter [1]; whnf)
        | (refine Ends.iteT (by first | (simp [show ¬ ((i : Int) < 0) by omega]; done) | fail "open") ?_; conv => enter [1]; whnf)
        | skip
      refine Ends.callE (same_G mk k 1 X (X.set i e) ra [] 0 2 _ _ _ _ ?_ ?_ ?_ ?_ ?_ ?_ ?_ _ ?_ ?_) (fun v H' hv => ?_)
      · first | rfl | omega
      · first | rfl | omega
      · first | rfl | omega
      · first | rfl | (simp only [List.length_set]; omega) | (rw [List.length_take]; omega) | omega
      · first | omega | (simp only [List.length_set, List.length_take]; omega)
      · omega
      · first | omega | (simp only [List.length_set, List.length_take]; omega)
      · intro loc; rfl
      · intro loc; rw [List.append_nil]; rfl
      obtain ⟨hH, b, hb, hp2⟩ := hv
      obtain rfl : v = _ := hb
      obtain rfl : H' = _ := hH
      have hz2 : b = false := by cases b with | false => rfl | true => exact absurd (by have hx := hp2.1 rfl; have := congrArg (fun l => l[i]?) hx; simp only [List.getElem?_set_self h1, List.getElem?_eq_getElem h1, Option.some.injEq] at this; exact this) he
      subst hz2
      conv => enter [1]; whnf
      first
        | (refine Ends.iteT (by first | (simp; done) | fail "open") ?_; conv => enter [1]; whnf)
        | (refine Ends.iteT (by first | (simp [show ¬ ((i : Int) < 0) by omega]; done) | fail "open") ?_; conv => enter [1]; whnf)
        | skip
      refine Ends.iteT (decide_eq_true (by omega)) ?_
      conv => enter [1]; whnf
      refine Ends.callE (apart_G mk k 1 X (X.take i) ra (evsV (X.drop i) ++ ra) 0 0 _ _ _ _ ?_ ?_ ?_ ?_ ?_ ?_ ?_ _ ?_ ?_) (fun v H' hv => ?_)
      · first | rfl | omega
      · first | rfl | omega
      · first | rfl | omega
      · first | rfl | (simp only [List.length_set]; omega) | (rw [List.length_take]; omega) | omega
      · first | omega | (simp only [List.length_set, List.length_take]; omega)
      · omega
      · first | omega | (simp only [List.length_set, List.length_take]; omega)
      · intro loc; rfl
      · intro loc; rw [← List.append_assoc, ← rest_of]; rfl
      obtain ⟨hH, z, hz, hp3⟩ := hv
      obtain rfl : v = _ := hz
      obtain rfl : H' = _ := hH
      have hz2 : z = (i : Int) := parts_take h1 hp3
      subst hz2
      conv => enter [1]; whnf
      first
        | (refine Ends.iteT (by first | (simp; done) | fail "open") ?_; conv => enter [1]; whnf)
        | (refine Ends.iteT (by first | (simp [show ¬ ((i : Int) < 0) by omega]; done) | fail "open") ?_; conv => enter [1]; whnf)
        | skip
      refine Ends.call (in_F _ _ _ (by omega) _) ?_
      conv => enter [1]; whnf
      first
        | (refine Ends.iteT (by first | (simp; done) | fail "open") ?_; conv => enter [1]; whnf)
        | skip
      refine Ends.call (used_F _ _ _ (by omega) _) ?_
      conv => enter [1]; whnf
      first
        | (refine Ends.iteT (by first | (simp; done) | fail "open") ?_; conv => enter [1]; whnf)
        | skip
      refine Ends.call (events_F _ _ _ (by omega) _) ?_
      conv => enter [1]; whnf
      first
        | (refine Ends.iteT (by first | (simp; done) | fail "open") ?_; conv => enter [1]; whnf)
        | skip
      refine Ends.some' ?_
      rfl
    · have he : X[i] = e := (evEq_iff _ _).1 (by have h' : (!evEq X[i] e) = false := h2; simpa using h')
      have hs : X.set i e = X := by rw [← he]; exact List.set_getElem_self h1
      refine Ends.call (out_F _ _ _ (by omega) _) ?_
      conv => enter [1]; whnf
      refine Ends.call (stop_F _ _ _ (by omega) _) ?_
      conv => enter [1]; whnf
      refine Ends.call (int_F _ _ _ (by omega) _) ?_
      conv => enter [1]; whnf
      refine Ends.callE (aw12 mk k (by omega) _ _ _) (fun v H' hv => ?_)
      obtain ⟨hv, G, hG⟩ := hv
      obtain rfl : v = _ := hv
      obtain rfl : H' = _ := hG
      conv => enter [1]; whnf
      refine Ends.callE (apart_G mk k 1 X (X.set i e) ra [] 0 2 _ _ _ _ ?_ ?_ ?_ ?_ ?_ ?_ ?_ _ ?_ ?_) (fun v H' hv => ?_)
      · first | rfl | omega
      · first | rfl | omega
      · first | rfl | omega
      · first | rfl | (simp only [List.length_set]; omega) | (rw [List.length_take]; omega) | omega
      · first | omega | (simp only [List.length_set, List.length_take]; omega)
      · omega
      · first | omega | (simp only [List.length_set, List.length_take]; omega)
      · intro loc; rfl
      · intro loc; rw [List.append_nil]; rfl
      obtain ⟨hH, z, hz, hp⟩ := hv
      obtain rfl : v = _ := hz
      obtain rfl : H' = _ := hH
      have hz2 : z = -1 := (parts_set h1 e hp).1 he
      subst hz2
      conv => enter [1]; whnf
      first
        | (refine Ends.iteT (by first | (simp; done) | fail "open") ?_; conv => enter [1]; whnf)
        | (refine Ends.iteT (by first | (simp [show ¬ ((i : Int) < 0) by omega]; done) | fail "open") ?_; conv => enter [1]; whnf)
        | skip
      refine Ends.callE (same_G mk k 1 X (X.set i e) ra [] 0 2 _ _ _ _ ?_ ?_ ?_ ?_ ?_ ?_ ?_ _ ?_ ?_) (fun v H' hv => ?_)
      · first | rfl | omega
      · first | rfl | omega
      · first | rfl | omega
      · first | rfl | (simp only [List.length_set]; omega) | (rw [List.length_take]; omega) | omega
      · first | omega | (simp only [List.length_set, List.length_take]; omega)
      · omega
      · first | omega | (simp only [List.length_set, List.length_take]; omega)
      · intro loc; rfl
      · intro loc; rw [List.append_nil]; rfl
      obtain ⟨hH, b, hb, hp2⟩ := hv
      obtain rfl : v = _ := hb
      obtain rfl : H' = _ := hH
      have hz2 : b = true := hp2.2 hs.symm
      subst hz2
      conv => enter [1]; whnf
      first
        | (refine Ends.iteT (by first | (simp; done) | fail "open") ?_; conv => enter [1]; whnf)
        | (refine Ends.iteT (by first | (simp [show ¬ ((i : Int) < 0) by omega]; done) | fail "open") ?_; conv => enter [1]; whnf)
        | skip
      refine Ends.iteT (decide_eq_true (by omega)) ?_
      conv => enter [1]; whnf
      refine Ends.callE (apart_G mk k 1 X (X.take i) ra (evsV (X.drop i) ++ ra) 0 0 _ _ _ _ ?_ ?_ ?_ ?_ ?_ ?_ ?_ _ ?_ ?_) (fun v H' hv => ?_)
      · first | rfl | omega
      · first | rfl | omega
      · first | rfl | omega
      · first | rfl | (simp only [List.length_set]; omega) | (rw [List.length_take]; omega) | omega
      · first | omega | (simp only [List.length_set, List.length_take]; omega)
      · omega
      · first | omega | (simp only [List.length_set, List.length_take]; omega)
      · intro loc; rfl
      · intro loc; rw [← List.append_assoc, ← rest_of]; rfl
      obtain ⟨hH, z, hz, hp3⟩ := hv
      obtain rfl : v = _ := hz
      obtain rfl : H' = _ := hH
      have hz2 : z = (i : Int) := parts_take h1 hp3
      subst hz2
      conv => enter [1]; whnf
      first
        | (refine Ends.iteT (by first | (simp; done) | fail "open") ?_; conv => enter [1]; whnf)
        | (refine Ends.iteT (by first | (simp [show ¬ ((i : Int) < 0) by omega]; done) | fail "open") ?_; conv => enter [1]; whnf)
        | skip
      refine Ends.call (in_F _ _ _ (by omega) _) ?_
      conv => enter [1]; whnf
      first
        | (refine Ends.iteT (by first | (simp; done) | fail "open") ?_; conv => enter [1]; whnf)
        | skip
      refine Ends.call (used_F _ _ _ (by omega) _) ?_
      conv => enter [1]; whnf
      first
        | (refine Ends.iteT (by first | (simp; done) | fail "open") ?_; conv => enter [1]; whnf)
        | skip
      refine Ends.call (events_F _ _ _ (by omega) _) ?_
      conv => enter [1]; whnf
      first
        | (refine Ends.iteT (by first | (simp; done) | fail "open") ?_; conv => enter [1]; whnf)
        | skip
      refine Ends.some' ?_
      rfl
  · have h1 : i = X.length := by have := of_decide_eq_false h; omega
    refine Ends.iteF h ?_
    conv => enter [1]; whnf
    refine Ends.call (out_F _ _ _ (by omega) _) ?_
    conv => enter [1]; whnf
    refine Ends.call (stop_F _ _ _ (by omega) _) ?_
    conv => enter [1]; whnf
    refine Ends.call (int_F _ _ _ (by omega) _) ?_
    conv => enter [1]; whnf
    refine Ends.callE (aw12 mk k (by omega) _ _ _) (fun v H' hv => ?_)
    obtain ⟨hv, G, hG⟩ := hv
    obtain rfl : v = _ := hv
    obtain rfl : H' = _ := hG
    conv => enter [1]; whnf
    refine Ends.callE (apart_G mk k 1 X X ra [] 0 2 _ _ _ _ ?_ ?_ ?_ ?_ ?_ ?_ ?_ _ ?_ ?_) (fun v H' hv => ?_)
    · first | rfl | omega
    · first | rfl | omega
    · first | rfl | omega
    · first | rfl | omega
    · omega
    · omega
    · omega
    · intro loc; rfl
    · intro loc; rw [List.append_nil]; rfl
    obtain ⟨hH, z, hz, hp⟩ := hv
    obtain rfl : v = _ := hz
    obtain rfl : H' = _ := hH
    have hz2 : z = -1 := parts_self hp
    subst hz2
    conv => enter [1]; whnf
    first
      | (refine Ends.iteT (by first | (simp; done) | fail "open") ?_; conv => enter [1]; whnf)
      | (refine Ends.iteT (by first | (simp [show ¬ ((i : Int) < 0) by omega]; done) | fail "open") ?_; conv => enter [1]; whnf)
      | skip
    refine Ends.callE (same_G mk k 1 X X ra [] 0 2 _ _ _ _ ?_ ?_ ?_ ?_ ?_ ?_ ?_ _ ?_ ?_) (fun v H' hv => ?_)
    · first | rfl | omega
    · first | rfl | omega
    · first | rfl | omega
    · first | rfl | omega
    · omega
    · omega
    · omega
    · intro loc; rfl
    · intro loc; rw [List.append_nil]; rfl
    obtain ⟨hH, b, hb, hp2⟩ := hv
    obtain rfl : v = _ := hb
    obtain rfl : H' = _ := hH
    have hz2 : b = true := hp2.2 rfl
    subst hz2
    conv => enter [1]; whnf
    first
      | (refine Ends.iteT (by first | (simp; done) | fail "open") ?_; conv => enter [1]; whnf)
      | (refine Ends.iteT (by first | (simp [show ¬ ((i : Int) < 0) by omega]; done) | fail "open") ?_; conv => enter [1]; whnf)
      | skip
    refine Ends.iteT (decide_eq_true (by omega)) ?_
    conv => enter [1]; whnf
    refine Ends.callE (apart_G mk k 1 X (X.take i) ra (evsV (X.drop i) ++ ra) 0 0 _ _ _ _ ?_ ?_ ?_ ?_ ?_ ?_ ?_ _ ?_ ?_) (fun v H' hv => ?_)
    · first | rfl | omega
    · first | rfl | omega
    · first | rfl | omega
    · first | rfl | (simp only [List.length_set]; omega) | (rw [List.length_take]; omega) | omega
    · first | omega | (simp only [List.length_set, List.length_take]; omega)
    · omega
    · first | omega | (simp only [List.length_set, List.length_take]; omega)
    · intro loc; rfl
    · intro loc; rw [← List.append_assoc, ← rest_of]; rfl
    obtain ⟨hH, z, hz, hp3⟩ := hv
    obtain rfl : v = _ := hz
    obtain rfl : H' = _ := hH
    have hz2 : z = -1 := parts_self (by rwa [List.take_of_length_le (by omega)] at hp3)
    subst hz2
    conv => enter [1]; whnf
    first
      | (refine Ends.iteT (by first | (simp; done) | fail "open") ?_; conv => enter [1]; whnf)
      | (refine Ends.iteT (by first | (simp [show ¬ ((i : Int) < 0) by omega]; done) | fail "open") ?_; conv => enter [1]; whnf)
      | skip
    refine Ends.call (in_F _ _ _ (by omega) _) ?_
    conv => enter [1]; whnf
    first
      | (refine Ends.iteT (by first | (simp; done) | fail "open") ?_; conv => enter [1]; whnf)
      | skip
    refine Ends.call (used_F _ _ _ (by omega) _) ?_
    conv => enter [1]; whnf
    first
      | (refine Ends.iteT (by first | (simp; done) | fail "open") ?_; conv => enter [1]; whnf)
      | skip
    refine Ends.call (events_F _ _ _ (by omega) _) ?_
    conv => enter [1]; whnf
    first
      | (refine Ends.iteT (by first | (simp; done) | fail "open") ?_; conv => enter [1]; whnf)
      | skip
    refine Ends.some' ?_
    rfl
end Go.Proofs.Ytielhghmihlfkaa.VM
