/- Lists of events by the plain machine: whether they are alike, and where they part. -/
import Derived.Test.YtfllmggfbfjheaaVX
namespace Go.Proofs.Ytfllmggfbfjheaa.VM
open Go Go.RowKit
set_option linter.unusedVariables false
set_option linter.unusedSimpArgs false
set_option maxRecDepth 40000
set_option maxHeartbeats 1600000
structure Ev where
  a0 : Int
  a1 : Int
  a2 : Int
  a3 : Int
  a4 : Int
  a5 : Int
  a6 : Int
def evV (e : Ev) : List Val := [.int .i64 e.a0, .int .u16 e.a1, .int .u16 e.a2, .int .u16 e.a3, .int .u16 e.a4, .int .u16 e.a5, .int .u16 e.a6]
def evEq (x y : Ev) : Bool := x.a0 == y.a0 && (x.a1 == y.a1 && (x.a2 == y.a2 && (x.a3 == y.a3 && (x.a4 == y.a4 && (x.a5 == y.a5 && (x.a6 == y.a6 && true))))))
theorem evEq_iff (x y : Ev) : evEq x y = true ↔ x = y := by
  obtain ⟨a0, a1, a2, a3, a4, a5, a6⟩ := x
  obtain ⟨b0, b1, b2, b3, b4, b5, b6⟩ := y
  simp [evEq]
theorem evEq_no (x y : Ev) : evEq x y = false ↔ x ≠ y := by
  rw [← Bool.not_eq_true, evEq_iff]
/-- The cells of a list of events. -/
def evsV (l : List Ev) : List Val := (l.map evV).flatten
theorem evsV_len (l : List Ev) : (evsV l).length = l.length * 7 := by
  induction l with
  | nil => rfl
  | cons x l ih =>
    have : (evsV (x :: l)) = evV x ++ evsV l := rfl
    rw [this, List.length_append, ih, List.length_cons, Nat.succ_mul]
    show 7 + _ = _; omega
theorem evsV_append (x y : List Ev) : evsV (x ++ y) = evsV x ++ evsV y := by simp [evsV]
theorem takeN_all {α : Type} : ∀ (l r : List α), takeN l.length (l ++ r) = some l
  | [], r => by cases r <;> rfl
  | x :: l, r => by
    show (takeN l.length (l ++ r)).map (x :: ·) = _
    rw [takeN_all l r]; rfl
theorem dropN_all {α : Type} : ∀ (l r : List α), dropN l.length (l ++ r) = r
  | [], r => by cases r <;> rfl
  | x :: l, r => dropN_all l r
theorem part_mid {α : Type} (a b c : List α) {off n : Nat} (h1 : off = a.length) (h2 : n = b.length) : part? off n (a ++ (b ++ c)) = some b := by
  subst h1; subst h2
  unfold part?
  rw [dropN_all, takeN_all]
theorem putAt_mid : ∀ (a b c v : List Val) (h : v.length = b.length), putAt a.length v (a ++ (b ++ c)) = some (a ++ (v ++ c))
  | [], [], c, [], _ => by cases c <;> rfl
  | [], b :: bs, c, v :: vs, h => by
    have := putAt_mid [] bs c vs (by simpa using h)
    show (putAt 0 vs (bs ++ c)).map (v :: ·) = _
    rw [show putAt 0 vs (bs ++ c) = some (vs ++ c) from this]; rfl
  | a :: l, b, c, [], h => by
    have : b = [] := by cases b <;> simp_all
    subst this; rfl
  | a :: l, b, c, v :: vs, h => by
    have := putAt_mid l b c (v :: vs) h
    show (putAt l.length (v :: vs) (l ++ (b ++ c))).map (a :: ·) = _
    rw [this]; rfl
  | [], [], _, _ :: _, h => by cases h
  | [], _ :: _, _, [], h => by cases h
theorem evs_split {l : List Ev} {i : Nat} (h : i < l.length) (r : List Val) : evsV l ++ r = evsV (l.take i) ++ (evV l[i] ++ (evsV (l.drop (i + 1)) ++ r)) := by
  conv => lhs; rw [← List.take_append_drop i l, List.drop_eq_getElem_cons h]
  rw [evsV_append, List.append_assoc]
  rfl
theorem part_ev {l : List Ev} {r : List Val} {i : Nat} (h : i < l.length) {off : Nat} (ho : off = i * 7) : part? off 7 (evsV l ++ r) = some (evV l[i]) := by
  rw [evs_split h r]
  exact part_mid _ _ _ (by rw [ho, evsV_len, List.length_take, Nat.min_eq_left (by omega)]) rfl
theorem aggEv : aggB Try.prog 70 = some true := by kernel_rfl
theorem sizeEv : sizeB Try.prog 70 = some 7 := by kernel_rfl
theorem partEv {l : List Ev} {r : List Val} {i : Nat} (h : i < l.length) {off : Nat} (ho : off = i * 7) : partV Try.prog 70 (evsV l ++ r) off = some (.agg (evV l[i])) := by
  unfold partV
  rw [aggEv, sizeEv]
  simp only [part_ev h ho, Option.map_some]
theorem badEv (mk : Mk) : mk.bad Try.prog 70 = false := (mk.bad_ok _ _).trans (by kernel_rfl)
/-- Where two lists part. -/
def PartsAt (A B : List Ev) (z : Int) : Prop := (z = -1 ∧ A = B) ∨ ∃ j : Nat, z = j ∧ (∀ i, i < j → A[i]? = B[i]?) ∧ A[j]? ≠ B[j]?
theorem apart_F (mk : Mk) (k lo : Nat) (A B : List Ev) (ra rb : List Val) (p q : Nat) (hk : A.length + B.length + 3 ≤ k) (ha : A.length < 1000) (hb : B.length < 1000) (H : List Blk)
    (hA : ∀ loc, Mem.get ⟨loc, H⟩ (.hp p) = some (evsV A ++ ra)) (hB : ∀ loc, Mem.get ⟨loc, H⟩ (.hp q) = some (evsV B ++ rb)) :
    Ends (FF mk k lo 29 [.sl (.hp p) 0 A.length 7, .sl (.hp q) 0 B.length 7] H) (fun r => r.2 = H ∧ ∃ z, r.1 = .int .i64 z ∧ PartsAt A B z) := by
  obtain ⟨k, rfl⟩ : ∃ m, k = m + 1 := ⟨k - 1, by omega⟩
  have hm : (if ((B.length : Int)) > ((A.length : Int)) then ((B.length : Int)) else ((A.length : Int))) = ((max A.length B.length : Nat) : Int) := by split <;> omega
  have hk2 : max A.length B.length < k + 1 := by omega
  conv => enter [1]; whnf
  rw [hm]
  generalize hM : max A.length B.length = mx at *
  have hmx : A.length ≤ mx ∧ B.length ≤ mx := by omega
  refine Ends.loop (fun m T M => ∃ j : Nat, j ≤ mx ∧ mx - j < m ∧ (∀ i, i < j → A[i]? = B[i]?) ∧ T = [.sl (.hp p) 0 A.length 7, .sl (.hp q) 0 B.length 7, .undef, .undef, .undef, .undef, .undef, .undef, .undef, .undef, .int .i64 mx, .int .i64 j, .undef, .undef, .undef, .undef, .undef, .undef, .undef, .undef, .undef, .undef, .undef, .undef, .undef, .undef, .undef, .undef, .undef, .undef, .undef, .undef, .undef, .undef, .undef, .undef, .undef] ∧ M = ⟨[], H⟩) (fun T M ⟨j, _, h, _⟩ => by omega) ?_ _ _ ⟨0, by omega, by omega, fun i h => absurd h (Nat.not_lt_zero _), rfl, rfl⟩
  rintro m T M L ⟨j, j1, j2, hj, rfl, rfl⟩ hL
  conv => enter [1]; whnf
  refine Ends.ite (fun h => ?_) (fun h => ?_) <;> (conv => enter [1]; whnf)
  · have h1 : j < mx := by have := of_decide_eq_true h; omega
    by_cases h2 : j < A.length ∧ j < B.length
    · have f1 : ¬ ((A.length : Int) ≤ (j : Int)) := by omega
      have f2 : ¬ ((B.length : Int) ≤ (j : Int)) := by omega
      repeat' (first
        | refine Ends.some' ?_
        | (refine Ends.force ?_; conv => enter [1]; whnf)
        | (refine Ends.forceN ?_; conv => enter [1]; whnf)
        | (refine Ends.forceLs ?_; conv => enter [1]; whnf)
        | (refine Ends.iteF (by with_reducible exact (badEv mk)) ?_; conv => enter [1]; whnf)
        | (refine Ends.opt (hA _) ?_; conv => enter [1]; whnf)
        | (refine Ends.opt (hB _) ?_; conv => enter [1]; whnf)
        | (refine Ends.opt (partEv h2.1 (by omega)) ?_; conv => enter [1]; whnf)
        | (refine Ends.opt (partEv h2.2 (by omega)) ?_; conv => enter [1]; whnf)
        | (refine Ends.iteT (by first | with_reducible assumption | (simp [*]; done) | (apply decide_eq_true; omega) | fail "open") ?_; conv => enter [1]; whnf)
        | (refine Ends.iteF (by first | with_reducible assumption | (simp [*]; done) | (apply decide_eq_false; omega) | fail "open") ?_; conv => enter [1]; whnf)
        | (refine Ends.ite (fun h => ?_) (fun h => ?_) <;> (conv => enter [1]; whnf)))
      · have he : evEq A[j] B[j] = false := by
          have h' : (!evEq A[j] B[j]) = true := h
          simpa using h'
        refine ⟨rfl, (j : Int), rfl, .inr ⟨j, rfl, hj, ?_⟩⟩
        rw [List.getElem?_eq_getElem h2.1, List.getElem?_eq_getElem h2.2]
        exact fun z => (evEq_no _ _).1 he (Option.some.inj z)
      · have he : evEq A[j] B[j] = true := by
          have h' : (!evEq A[j] B[j]) = false := h
          simpa using h'
        refine hL _ ⟨j + 1, by omega, by omega, fun i hi => ?_, ?_, rfl⟩
        · by_cases e : i = j
          · subst e
            rw [List.getElem?_eq_getElem h2.1, List.getElem?_eq_getElem h2.2, (evEq_iff _ _).1 he]
          · exact hj i (by omega)
        · have e3 : IntKind.i64.wrap ((j : Int) + 1) = ((j + 1 : Nat) : Int) := by rw [w64]; omega
          rw [← e3]
          rfl
    · have hne : A[j]? ≠ B[j]? := by
        by_cases h3 : j < A.length
        · rw [List.getElem?_eq_getElem h3, List.getElem?_eq_none (by omega)]; simp
        · rw [List.getElem?_eq_none (by omega), List.getElem?_eq_getElem (show j < B.length by omega)]; simp
      by_cases h3 : j < A.length
      · have f1 : ¬ ((A.length : Int) ≤ (j : Int)) := by omega
        have f2 : ((B.length : Int) ≤ (j : Int)) := by omega
        repeat' (first
          | refine Ends.some' ?_
          | (refine Ends.force ?_; conv => enter [1]; whnf)
          | (refine Ends.forceN ?_; conv => enter [1]; whnf)
          | (refine Ends.forceLs ?_; conv => enter [1]; whnf)
          | (refine Ends.iteT (by first | with_reducible assumption | (simp [*]; done) | (apply decide_eq_true; omega) | fail "open") ?_; conv => enter [1]; whnf)
          | (refine Ends.iteF (by first | with_reducible assumption | (simp [*]; done) | (apply decide_eq_false; omega) | fail "open") ?_; conv => enter [1]; whnf)
          | (refine Ends.ite (fun h => ?_) (fun h => ?_) <;> (conv => enter [1]; whnf)))
        exact ⟨rfl, (j : Int), rfl, .inr ⟨j, rfl, hj, hne⟩⟩
      · have f1 : ((A.length : Int) ≤ (j : Int)) := by omega
        repeat' (first
          | refine Ends.some' ?_
          | (refine Ends.force ?_; conv => enter [1]; whnf)
          | (refine Ends.forceN ?_; conv => enter [1]; whnf)
          | (refine Ends.forceLs ?_; conv => enter [1]; whnf)
          | (refine Ends.iteT (by first | with_reducible assumption | (simp [*]; done) | (apply decide_eq_true; omega) | fail "open") ?_; conv => enter [1]; whnf)
          | (refine Ends.iteF (by first | with_reducible assumption | (simp [*]; done) | (apply decide_eq_false; omega) | fail "open") ?_; conv => enter [1]; whnf)
          | (refine Ends.ite (fun h => ?_) (fun h => ?_) <;> (conv => enter [1]; whnf)))
        exact ⟨rfl, (j : Int), rfl, .inr ⟨j, rfl, hj, hne⟩⟩
  · have h1 : j = mx := by have := of_decide_eq_false h; omega
    refine Ends.some' ?_
    refine ⟨rfl, -1, rfl, .inl ⟨rfl, List.ext_getElem? fun i => ?_⟩⟩
    by_cases hi : i < mx
    · exact hj i (by omega)
    · rw [List.getElem?_eq_none (by omega), List.getElem?_eq_none (by omega)]
theorem equal_F (mk : Mk) (k lo : Nat) (A B : List Ev) (ra rb : List Val) (p q : Nat) (hk : A.length + 3 ≤ k) (ha : A.length < 1000) (hb : B.length < 1000) (H : List Blk)
    (hA : ∀ loc, Mem.get ⟨loc, H⟩ (.hp p) = some (evsV A ++ ra)) (hB : ∀ loc, Mem.get ⟨loc, H⟩ (.hp q) = some (evsV B ++ rb)) :
    Ends (FF mk k lo 38 [.sl (.hp p) 0 A.length 7, .sl (.hp q) 0 B.length 7] H) (fun r => r.2 = H ∧ ∃ z, r.1 = .bool z ∧ (z = true ↔ A = B)) := by
  obtain ⟨k, rfl⟩ : ∃ m, k = m + 1 := ⟨k - 1, by omega⟩
  conv => enter [1]; whnf
  by_cases hl : A.length = B.length
  · have f0 : ((A.length : Int)) = ((B.length : Int)) := by omega
    refine Ends.iteF (by simp [f0]) ?_
    conv => enter [1]; whnf
    refine Ends.loop (fun m T M => ∃ j : Nat, j ≤ A.length ∧ A.length - j < m ∧ (∀ i, i < j → A[i]? = B[i]?) ∧ T = [.sl (.hp p) 0 A.length 7, .sl (.hp q) 0 B.length 7, .undef, .undef, .undef, .undef, .undef, .undef, .undef, .undef, .undef, .undef, .int .i64 A.length, .int .i64 j, .undef, .undef, .undef, .undef, .undef, .undef, .undef, .undef, .undef, .undef, .undef, .undef] ∧ M = ⟨[], H⟩) (fun T M ⟨j, _, h, _⟩ => by omega) ?_ _ _ ⟨0, by omega, by omega, fun i h => absurd h (Nat.not_lt_zero _), rfl, rfl⟩
    rintro m T M L ⟨j, j1, j2, hj, rfl, rfl⟩ hL
    conv => enter [1]; whnf
    refine Ends.ite (fun h => ?_) (fun h => ?_) <;> (conv => enter [1]; whnf)
    · have h2 : j < A.length := by have := of_decide_eq_true h; omega
      have h3 : j < B.length := by omega
      repeat' (first
        | refine Ends.some' ?_
        | (refine Ends.force ?_; conv => enter [1]; whnf)
        | (refine Ends.forceN ?_; conv => enter [1]; whnf)
        | (refine Ends.forceLs ?_; conv => enter [1]; whnf)
        | (refine Ends.iteF (by with_reducible exact (badEv mk)) ?_; conv => enter [1]; whnf)
        | (refine Ends.opt (hA _) ?_; conv => enter [1]; whnf)
        | (refine Ends.opt (hB _) ?_; conv => enter [1]; whnf)
        | (refine Ends.opt (partEv h2 (by omega)) ?_; conv => enter [1]; whnf)
        | (refine Ends.opt (partEv h3 (by omega)) ?_; conv => enter [1]; whnf)
        | (refine Ends.iteT (by first | with_reducible assumption | (simp [*]; done) | (apply decide_eq_true; omega) | fail "open") ?_; conv => enter [1]; whnf)
        | (refine Ends.iteF (by first | with_reducible assumption | (simp [*]; done) | (apply decide_eq_false; omega) | fail "open") ?_; conv => enter [1]; whnf)
        | (refine Ends.ite (fun h => ?_) (fun h => ?_) <;> (conv => enter [1]; whnf)))
      · have he : evEq A[j] B[j] = false := by
          have h' : (!evEq A[j] B[j]) = true := by assumption
          simpa using h'
        refine ⟨rfl, false, rfl, ?_⟩
        constructor
        · intro z; cases z
        · intro z
          subst z
          exact absurd rfl ((evEq_no _ _).1 he)
      · have he : evEq A[j] B[j] = true := by
          have h' : (!evEq A[j] B[j]) = false := by assumption
          simpa using h'
        refine hL _ ⟨j + 1, by omega, by omega, fun i hi => ?_, ?_, rfl⟩
        · by_cases e : i = j
          · subst e
            rw [List.getElem?_eq_getElem h2, List.getElem?_eq_getElem h3, (evEq_iff _ _).1 he]
          · exact hj i (by omega)
        · have e3 : IntKind.i64.wrap ((j : Int) + 1) = ((j + 1 : Nat) : Int) := by rw [w64]; omega
          rw [← e3]
          rfl
    · have h1 : j = A.length := by have := of_decide_eq_false h; omega
      refine Ends.some' ?_
      refine ⟨rfl, true, rfl, fun _ => List.ext_getElem? fun i => ?_, fun _ => rfl⟩
      by_cases hi : i < A.length
      · exact hj i (by omega)
      · rw [List.getElem?_eq_none (by omega), List.getElem?_eq_none (by omega)]
  · have f0 : ¬ ((A.length : Int)) = ((B.length : Int)) := by omega
    refine Ends.iteT (by simp [f0]) ?_
    conv => enter [1]; whnf
    refine Ends.some' ?_
    refine ⟨rfl, false, rfl, ⟨(fun z => by cases z), fun z => absurd (congrArg List.length z) hl⟩⟩
theorem same_F (mk : Mk) (k lo : Nat) (A B : List Ev) (ra rb : List Val) (p q : Nat) (hk : A.length + 4 ≤ k) (ha : A.length < 1000) (hb : B.length < 1000) (H : List Blk)
    (hA : ∀ loc, Mem.get ⟨loc, H⟩ (.hp p) = some (evsV A ++ ra)) (hB : ∀ loc, Mem.get ⟨loc, H⟩ (.hp q) = some (evsV B ++ rb)) :
    Ends (FF mk k lo 27 [.sl (.hp p) 0 A.length 7, .sl (.hp q) 0 B.length 7] H) (fun r => r.2 = H ∧ ∃ z, r.1 = .bool z ∧ (z = true ↔ A = B)) := by
  obtain ⟨k, rfl⟩ : ∃ m, k = m + 1 := ⟨k - 1, by omega⟩
  conv => enter [1]; whnf
  refine Ends.callE (equal_F mk k _ A B ra rb p q (by omega) ha hb H hA hB) (fun v H' hv => ?_)
  obtain ⟨rfl, z, hz, hab⟩ := hv
  obtain rfl : v = _ := hz
  conv => enter [1]; whnf
  exact Ends.some' ⟨rfl, z, rfl, hab⟩
end Go.Proofs.Ytfllmggfbfjheaa.VM
