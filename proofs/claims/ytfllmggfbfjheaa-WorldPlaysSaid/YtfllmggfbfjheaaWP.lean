/- A world by the plain machine: its replies, and what happened. -/
import Derived.Test.YtfllmggfbfjheaaWDa
import Derived.Test.YtfllmggfbfjheaaWB
namespace Go.Proofs.Ytfllmggfbfjheaa.VM
open Go Go.RowKit
set_option linter.unusedVariables false
set_option linter.unusedSimpArgs false
set_option maxRecDepth 40000
set_option maxHeartbeats 1600000
/-- What there was is what it was. -/
def Grown (H H' : List Blk) : Prop := ∃ G, H' = H ++ G
theorem Grown.refl (H : List Blk) : Grown H H := ⟨[], by simp⟩
theorem Grown.trans {A B C : List Blk} (h : Grown A B) (h' : Grown B C) : Grown A C := by
  obtain ⟨X, rfl⟩ := h; obtain ⟨Y, rfl⟩ := h'; exact ⟨X ++ Y, by simp⟩
theorem Grown.len {A B : List Blk} (h : Grown A B) : A.length ≤ B.length := by
  obtain ⟨X, rfl⟩ := h; simp
theorem Grown.at {A B : List Blk} (h : Grown A B) {b : Nat} {k : Blk} (e : A[b]? = some k) : B[b]? = some k := by
  obtain ⟨X, rfl⟩ := h
  rw [List.getElem?_append_left (List.getElem?_eq_some_iff.1 e).1]; exact e
theorem Grown.one (A : List Blk) (k : Blk) : Grown A (A ++ [k]) := ⟨[k], rfl⟩
theorem Grown.set {H A : List Blk} (h : Grown H A) {i : Nat} (hi : H.length ≤ i) (X : Blk) : Grown H (A.set i X) := by
  obtain ⟨G, rfl⟩ := h
  exact ⟨G.set (i - H.length) X, by rw [List.set_append_right _ _ hi]⟩
theorem get_at {H : List Blk} {b : Nat} {cs : List Val} (h : H[b]? = some ⟨cs, true⟩) (loc : List (List Val)) : Mem.get ⟨loc, H⟩ (.hp b) = some cs := by simp [Mem.get, h]
theorem may_hp {lo q : Nat} (h : lo ≤ q) : mayWrite lo (.hp q) = true := by simpa [mayWrite] using h
theorem at_lt {H : List Blk} {b : Nat} {k : Blk} (h : H[b]? = some k) : b < H.length := (List.getElem?_eq_some_iff.1 h).1
theorem snoc_top {A : List Blk} {n : Nat} {k : Blk} (h : n = A.length) : (A ++ [k])[n]? = some k := by subst h; simp
theorem drop0 {α : Type} (x : List α) : dropN 0 x = x := by cases x <;> rfl
theorem set_self {α : Type} {l : List α} {i : Nat} {x : α} (h : l[i]? = some x) : l.set i x = l := by
  apply List.ext_getElem?
  intro j
  by_cases e : i = j
  · subst e; rw [List.getElem?_set_self (List.getElem?_eq_some_iff.1 h).1, h]
  · rw [List.getElem?_set_ne e]
theorem beqF {a b : Nat} (h : a ≠ b) : Nat.beq a b = false := by simpa [← Bool.not_eq_true, Nat.beq_eq] using h
theorem w64s (x : Int) (h0 : 0 ≤ x) (h1 : x < 9223372036854775808) : IntKind.i64.wrap x = x := by rw [w64]; omega
theorem Ends.forceC {R : Type} {v : Val} {K : Val → Option R} {Φ : R → Prop} (h : Ends (K v) Φ) : Ends (forceC v K) Φ := by rw [forceC_eq]; exact h
/-- The cells of words. -/
def uV (l : List Int) : List Val := l.map fun n => .int .u16 n
theorem uV_len (l : List Int) : (uV l).length = l.length := by simp [uV]
theorem aggU16 : aggB Try.prog 65 = some false := by kernel_rfl
theorem sizeU16 : sizeB Try.prog 65 = some 1 := by kernel_rfl
theorem part_u {l : List Int} (i : Nat) (h : i < l.length) {off : Nat} (ho : off = i) : partV Try.prog 65 (uV l) off = some (.int .u16 (l.getD i 0)) := by
  subst ho
  unfold partV
  rw [aggU16, sizeU16]
  show getAt off (uV l) = _
  rw [getAt_eq]
  simp [uV, List.getD_eq_getElem?_getD, h]
theorem uV_shared (l : List Int) : (uV l).all shared = true := by
  unfold uV
  rw [List.all_map, List.all_eq_true]
  intro b hb
  rfl
/-- A world: its own block; its replies; what happened. -/
structure HasW (H : List Blk) (wb : Nat) (R : List Int) (rv : Val) (n : Nat) (E : List Ev) (lv : Val) (eb : Nat) : Prop where
  hw : H[wb]? = some ⟨[rv, .int .i64 n, lv], true⟩
  hr : (rv = .nils ∧ R = []) ∨ ∃ b, rv = .sl (.hp b) 0 R.length 1 ∧ b ≠ wb ∧ b ≠ eb ∧ H[b]? = some ⟨uV R, true⟩
  he : (lv = .nils ∧ E = []) ∨ (lv = .sl (.hp eb) 0 E.length 7 ∧ eb ≠ wb ∧ H[eb]? = some ⟨evsV E, true⟩)
  hn : n ≤ R.length
/-- What is kept but for a world's own blocks. -/
def KeepW (H H' : List Blk) (wb eb : Nat) : Prop := H.length ≤ H'.length ∧ ∀ b k, H[b]? = some k → b ≠ wb → b ≠ eb → H'[b]? = some k
theorem HasW.len {H : List Blk} {wb : Nat} {R : List Int} {rv : Val} {n : Nat} {E : List Ev} {lv : Val} {eb : Nat} (h : HasW H wb R rv n E lv eb) : wb < H.length := at_lt h.hw
theorem next_F (mk : Mk) (k lo : Nat) (hk : 1 ≤ k) {H : List Blk} {wb : Nat} {R : List Int} {rv : Val} {n : Nat} {E : List Ev} {lv : Val} {eb : Nat} (h : HasW H wb R rv n E lv eb) (hlo : lo ≤ wb) (at0 : Nat) (ha : n = min at0 R.length) (hR : R.length < 4611686018427387904) :
    Ends (FF mk k lo 34 [.ptr (.hp wb) 0] H) fun r => r.1 = .int .u16 (R.getD at0 0) ∧ HasW r.2 wb R rv (min (at0 + 1) R.length) E lv eb ∧ KeepW H r.2 wb eb := by
  obtain ⟨k, rfl⟩ : ∃ m, k = m + 1 := ⟨k - 1, by omega⟩
  have hl := h.len
  have hw := h.hw
  rcases h.he with ⟨hlv, _⟩ | ⟨hlv, _⟩ <;> subst hlv
  · rcases h.hr with ⟨rfl, rfl⟩ | ⟨b, rfl, hb, hbe, hbr⟩
    · have hn : n = 0 := by simpa using ha
      subst hn
      conv => enter [1]; whnf
      refine Ends.opt (get_at hw _) ?_
      conv => enter [1]; whnf
      refine Ends.opt (get_at hw _) ?_
      conv => enter [1]; whnf
      exact Ends.some' ⟨rfl, by simpa using h, Nat.le_refl _, fun _ _ e _ _ => e⟩
    · conv => enter [1]; whnf
      refine Ends.opt (get_at hw _) ?_
      conv => enter [1]; whnf
      refine Ends.opt (get_at hw _) ?_
      conv => enter [1]; whnf
      by_cases c : R.length ≤ at0
      · refine Ends.iteT (decide_eq_true (by omega)) ?_
        conv => enter [1]; whnf
        refine Ends.some' ⟨?_, ?_, Nat.le_refl _, fun _ _ e _ _ => e⟩
        · rw [List.getD_eq_getElem?_getD, List.getElem?_eq_none c]; rfl
        · rw [show min (at0 + 1) R.length = n by omega]; exact h
      · refine Ends.iteF (decide_eq_false (by omega)) ?_
        conv => enter [1]; whnf
        have hn : n = at0 := by omega
        subst hn
        refine Ends.opt (get_at hw _) ?_
        conv => enter [1]; whnf
        refine Ends.iteT (may_hp hlo) ?_
        conv => enter [1]; whnf
        refine Ends.opt (get_at hw _) ?_
        conv => enter [1]; whnf
        have e1 : IntKind.i64.wrap ((n : Int) + 1) = ((n + 1 : Nat) : Int) := by rw [w64s _ (by omega) (by omega)]; omega
        rw [e1]
        have hw2 : (H.set wb ⟨[.sl (.hp b) 0 R.length 1, .int .i64 ((n + 1 : Nat) : Int), .nils], true⟩)[wb]? = some ⟨[.sl (.hp b) 0 R.length 1, .int .i64 ((n + 1 : Nat) : Int), .nils], true⟩ := by rw [List.getElem?_set_self hl]
        have hb2 : (H.set wb ⟨[.sl (.hp b) 0 R.length 1, .int .i64 ((n + 1 : Nat) : Int), .nils], true⟩)[b]? = some ⟨uV R, true⟩ := by rw [List.getElem?_set_ne (Ne.symm hb)]; exact hbr
        have hlen : (H.set wb ⟨[.sl (.hp b) 0 R.length 1, .int .i64 ((n + 1 : Nat) : Int), .nils], true⟩).length = H.length := List.length_set
        have hkp : KeepW H (H.set wb ⟨[.sl (.hp b) 0 R.length 1, .int .i64 ((n + 1 : Nat) : Int), .nils], true⟩) wb eb := ⟨by omega, fun c k e h1 _ => by rw [List.getElem?_set_ne (Ne.symm h1)]; exact e⟩
        have hW2 : HasW (H.set wb ⟨[.sl (.hp b) 0 R.length 1, .int .i64 ((n + 1 : Nat) : Int), .nils], true⟩) wb R (.sl (.hp b) 0 R.length 1) (n + 1) E (.nils) eb := by
          refine ⟨hw2, .inr ⟨b, rfl, hb, hbe, hb2⟩, ?_, by omega⟩
          rcases h.he with he | ⟨he1, he2, he3⟩
          · exact .inl he
          · exact .inr ⟨he1, he2, by rw [List.getElem?_set_ne (Ne.symm he2)]; exact he3⟩
        generalize H.set wb ⟨[.sl (.hp b) 0 R.length 1, .int .i64 ((n + 1 : Nat) : Int), .nils], true⟩ = H2 at *
        refine Ends.opt (get_at hw2 _) ?_
        conv => enter [1]; whnf
        refine Ends.opt (get_at hw2 _) ?_
        conv => enter [1]; whnf
        have e2 : IntKind.i64.wrap (((n + 1 : Nat) : Int) - 1) = (n : Int) := by rw [w64s _ (by omega) (by omega)]; omega
        rw [e2]
        refine Ends.iteT (decide_eq_true (by omega)) ?_
        conv => enter [1]; whnf
        refine Ends.opt (get_at hb2 _) ?_
        conv => enter [1]; whnf
        refine Ends.opt (part_u n (by omega) (by omega)) ?_
        conv => enter [1]; whnf
        refine Ends.some' ⟨rfl, ?_, hkp⟩
        rw [show min (n + 1) R.length = n + 1 by omega]; exact hW2
  · rcases h.hr with ⟨rfl, rfl⟩ | ⟨b, rfl, hb, hbe, hbr⟩
    · have hn : n = 0 := by simpa using ha
      subst hn
      conv => enter [1]; whnf
      refine Ends.opt (get_at hw _) ?_
      conv => enter [1]; whnf
      refine Ends.opt (get_at hw _) ?_
      conv => enter [1]; whnf
      exact Ends.some' ⟨rfl, by simpa using h, Nat.le_refl _, fun _ _ e _ _ => e⟩
    · conv => enter [1]; whnf
      refine Ends.opt (get_at hw _) ?_
      conv => enter [1]; whnf
      refine Ends.opt (get_at hw _) ?_
      conv => enter [1]; whnf
      by_cases c : R.length ≤ at0
      · refine Ends.iteT (decide_eq_true (by omega)) ?_
        conv => enter [1]; whnf
        refine Ends.some' ⟨?_, ?_, Nat.le_refl _, fun _ _ e _ _ => e⟩
        · rw [List.getD_eq_getElem?_getD, List.getElem?_eq_none c]; rfl
        · rw [show min (at0 + 1) R.length = n by omega]; exact h
      · refine Ends.iteF (decide_eq_false (by omega)) ?_
        conv => enter [1]; whnf
        have hn : n = at0 := by omega
        subst hn
        refine Ends.opt (get_at hw _) ?_
        conv => enter [1]; whnf
        refine Ends.iteT (may_hp hlo) ?_
        conv => enter [1]; whnf
        refine Ends.opt (get_at hw _) ?_
        conv => enter [1]; whnf
        have e1 : IntKind.i64.wrap ((n : Int) + 1) = ((n + 1 : Nat) : Int) := by rw [w64s _ (by omega) (by omega)]; omega
        rw [e1]
        have hw2 : (H.set wb ⟨[.sl (.hp b) 0 R.length 1, .int .i64 ((n + 1 : Nat) : Int), .sl (.hp eb) 0 E.length 7], true⟩)[wb]? = some ⟨[.sl (.hp b) 0 R.length 1, .int .i64 ((n + 1 : Nat) : Int), .sl (.hp eb) 0 E.length 7], true⟩ := by rw [List.getElem?_set_self hl]
        have hb2 : (H.set wb ⟨[.sl (.hp b) 0 R.length 1, .int .i64 ((n + 1 : Nat) : Int), .sl (.hp eb) 0 E.length 7], true⟩)[b]? = some ⟨uV R, true⟩ := by rw [List.getElem?_set_ne (Ne.symm hb)]; exact hbr
        have hlen : (H.set wb ⟨[.sl (.hp b) 0 R.length 1, .int .i64 ((n + 1 : Nat) : Int), .sl (.hp eb) 0 E.length 7], true⟩).length = H.length := List.length_set
        have hkp : KeepW H (H.set wb ⟨[.sl (.hp b) 0 R.length 1, .int .i64 ((n + 1 : Nat) : Int), .sl (.hp eb) 0 E.length 7], true⟩) wb eb := ⟨by omega, fun c k e h1 _ => by rw [List.getElem?_set_ne (Ne.symm h1)]; exact e⟩
        have hW2 : HasW (H.set wb ⟨[.sl (.hp b) 0 R.length 1, .int .i64 ((n + 1 : Nat) : Int), .sl (.hp eb) 0 E.length 7], true⟩) wb R (.sl (.hp b) 0 R.length 1) (n + 1) E (.sl (.hp eb) 0 E.length 7) eb := by
          refine ⟨hw2, .inr ⟨b, rfl, hb, hbe, hb2⟩, ?_, by omega⟩
          rcases h.he with he | ⟨he1, he2, he3⟩
          · exact .inl he
          · exact .inr ⟨he1, he2, by rw [List.getElem?_set_ne (Ne.symm he2)]; exact he3⟩
        generalize H.set wb ⟨[.sl (.hp b) 0 R.length 1, .int .i64 ((n + 1 : Nat) : Int), .sl (.hp eb) 0 E.length 7], true⟩ = H2 at *
        refine Ends.opt (get_at hw2 _) ?_
        conv => enter [1]; whnf
        refine Ends.opt (get_at hw2 _) ?_
        conv => enter [1]; whnf
        have e2 : IntKind.i64.wrap (((n + 1 : Nat) : Int) - 1) = (n : Int) := by rw [w64s _ (by omega) (by omega)]; omega
        rw [e2]
        refine Ends.iteT (decide_eq_true (by omega)) ?_
        conv => enter [1]; whnf
        refine Ends.opt (get_at hb2 _) ?_
        conv => enter [1]; whnf
        refine Ends.opt (part_u n (by omega) (by omega)) ?_
        conv => enter [1]; whnf
        refine Ends.some' ⟨rfl, ?_, hkp⟩
        rw [show min (n + 1) R.length = n + 1 by omega]; exact hW2
theorem evs_shared (l : List Ev) : (evsV l).all shared = true := by
  rw [List.all_eq_true]
  intro v hv
  simp only [evsV, List.mem_flatten, List.mem_map] at hv
  obtain ⟨_, ⟨e, _, rfl⟩, hv⟩ := hv
  simp only [evV, List.mem_cons, List.not_mem_nil, or_false] at hv
  rcases hv with rfl | rfl | rfl | rfl | rfl | rfl | rfl <;> rfl
theorem KeepW.trans {A B C : List Blk} {wb e1 e2 : Nat} (h1 : KeepW A B wb e1) (h2 : KeepW B C wb e2) (he : e2 = e1 ∨ A.length ≤ e2) : KeepW A C wb e1 := by
  refine ⟨Nat.le_trans h1.1 h2.1, fun b k e n1 n2 => h2.2 b k (h1.2 b k e n1 n2) n1 ?_⟩
  rcases he with rfl | he
  · exact n2
  · have := at_lt e; omega
theorem note_F (mk : Mk) (k lo : Nat) (hk : 1 ≤ k) {H : List Blk} {wb : Nat} {R : List Int} {rv : Val} {n : Nat} {E : List Ev} {lv : Val} {eb : Nat} (h : HasW H wb R rv n E lv eb) (hlo : lo ≤ wb) (hle : lo ≤ eb) (hE : E.length < 1000) (e : Ev) :
    Ends (FF mk k lo 36 [.ptr (.hp wb) 0, .agg (evV e)] H) fun r => r.1 = .tup [] ∧ ∃ lv' eb', HasW r.2 wb R rv n (E ++ [e]) lv' eb' ∧ KeepW H r.2 wb eb ∧ H.length ≤ eb' := by
  obtain ⟨k, rfl⟩ : ∃ m, k = m + 1 := ⟨k - 1, by omega⟩
  have hl := h.len
  have hw := h.hw
  rcases h.hr with ⟨hrv, hR0⟩ | ⟨rb, hrv, hrb1, hrb2, hrb3⟩ <;> subst hrv
  · rcases h.he with ⟨hlv, hE0⟩ | ⟨hlv, he2, he3⟩ <;> subst hlv
    · subst hE0
      conv => enter [1]; whnf
      refine Ends.opt (get_at hw _) ?_
      conv => enter [1]; whnf
      refine Ends.opt (get_at hw _) ?_
      conv => enter [1]; whnf
      have hwB : (H ++ [⟨evV e, true⟩])[wb]? = some ⟨[.nils, .int .i64 (n : Int), .nils], true⟩ := (Grown.one H _).at hw
      refine Ends.iteT (may_hp hlo) ?_
      conv => enter [1]; whnf
      refine Ends.opt (get_at hwB _) ?_
      conv => enter [1]; whnf
      refine Ends.some' ⟨rfl, _, H.length, ⟨?_, .inl ⟨rfl, hR0⟩, .inr ⟨rfl, by omega, ?_⟩, h.hn⟩, ?_, Nat.le_refl _⟩
      · rw [List.getElem?_set_self (by rw [List.length_append]; omega)]; rfl
      · rw [List.getElem?_set_ne (by omega), snoc_top rfl]; rfl
      · exact ⟨by rw [List.length_set, List.length_append]; omega, fun b k e n1 _ => by rw [List.getElem?_set_ne (Ne.symm n1)]; exact (Grown.one H _).at e⟩
    · conv => enter [1]; whnf
      refine Ends.opt (get_at hw _) ?_
      conv => enter [1]; whnf
      refine Ends.iteT (decide_eq_true (by omega)) ?_
      conv => enter [1]; whnf
      refine Ends.opt (get_at hw _) ?_
      conv => enter [1]; whnf
      have hel := at_lt he3
      refine Ends.iteT (may_hp hle) ?_
      conv => enter [1]; whnf
      refine Ends.iteT (decide_eq_true (by omega)) ?_
      conv => enter [1]; whnf
      refine Ends.opt (get_at he3 _) ?_
      conv => enter [1]; whnf
      refine Ends.iteT (decide_eq_true (by rw [evsV_len]; omega)) ?_
      conv => enter [1]; whnf
      refine Ends.force ?_
      conv => enter [1]; whnf
      refine Ends.iteT (may_hp hlo) ?_
      conv => enter [1]; whnf
      have hwB : (H.set eb ⟨[], false⟩ ++ [(⟨dropN 0 (evsV E) ++ evV e, true⟩ : Blk)])[wb]? = some ⟨[.nils, .int .i64 (n : Int), .sl (.hp eb) 0 E.length 7], true⟩ := (Grown.one _ _).at (by rw [List.getElem?_set_ne he2]; exact hw)
      refine Ends.opt (get_at hwB _) ?_
      conv => enter [1]; whnf
      have z1 : Nat.beq wb eb = false := beqF (Ne.symm he2)
      have z2 : Nat.beq eb wb = false := beqF he2
      have z3 : Nat.beq wb H.length = false := beqF (by omega)
      have z4 : Nat.beq H.length wb = false := beqF (by omega)
      first
        | (refine Ends.iteT (by simp [freeB, freeOne, commB, disjB, newsOf, wrsOf, rdsOf, outOf, isLoc, Base.eqB, z1, z2, z3, z4]; done) ?_; conv => enter [1]; whnf)
        | skip
      refine Ends.some' ⟨rfl, .sl (.hp H.length) 0 (E ++ [e]).length 7, H.length, ⟨?_, .inl ⟨rfl, hR0⟩, .inr ⟨rfl, by omega, ?_⟩, h.hn⟩, ?_, Nat.le_refl _⟩
      · rw [List.getElem?_set_self (by rw [List.length_append, List.length_set]; omega), List.length_append]; rfl
      · rw [List.getElem?_set_ne (by omega), snoc_top (by rw [List.length_set]), evsV_append, drop0]; rfl
      · exact ⟨by rw [List.length_set, List.length_append, List.length_set]; omega, fun b k e n1 n2 => by rw [List.getElem?_set_ne (Ne.symm n1)]; exact (Grown.one _ _).at (by rw [List.getElem?_set_ne (Ne.symm n2)]; exact e)⟩
  · rcases h.he with ⟨hlv, hE0⟩ | ⟨hlv, he2, he3⟩ <;> subst hlv
    · subst hE0
      conv => enter [1]; whnf
      refine Ends.opt (get_at hw _) ?_
      conv => enter [1]; whnf
      refine Ends.opt (get_at hw _) ?_
      conv => enter [1]; whnf
      have hwB : (H ++ [⟨evV e, true⟩])[wb]? = some ⟨[.sl (.hp rb) 0 R.length 1, .int .i64 (n : Int), .nils], true⟩ := (Grown.one H _).at hw
      refine Ends.iteT (may_hp hlo) ?_
      conv => enter [1]; whnf
      refine Ends.opt (get_at hwB _) ?_
      conv => enter [1]; whnf
      refine Ends.some' ⟨rfl, _, H.length, ⟨?_, .inr ⟨rb, rfl, hrb1, ?_, ?_⟩, .inr ⟨rfl, by omega, ?_⟩, h.hn⟩, ?_, Nat.le_refl _⟩
      · rw [List.getElem?_set_self (by rw [List.length_append]; omega)]; rfl
      · have := at_lt hrb3; omega
      · rw [List.getElem?_set_ne (Ne.symm hrb1)]; exact (Grown.one H _).at hrb3
      · rw [List.getElem?_set_ne (by omega), snoc_top rfl]; rfl
      · exact ⟨by rw [List.length_set, List.length_append]; omega, fun b k e n1 _ => by rw [List.getElem?_set_ne (Ne.symm n1)]; exact (Grown.one H _).at e⟩
    · conv => enter [1]; whnf
      refine Ends.opt (get_at hw _) ?_
      conv => enter [1]; whnf
      refine Ends.iteT (decide_eq_true (by omega)) ?_
      conv => enter [1]; whnf
      refine Ends.opt (get_at hw _) ?_
      conv => enter [1]; whnf
      have hel := at_lt he3
      refine Ends.iteT (may_hp hle) ?_
      conv => enter [1]; whnf
      refine Ends.iteT (decide_eq_true (by omega)) ?_
      conv => enter [1]; whnf
      refine Ends.opt (get_at he3 _) ?_
      conv => enter [1]; whnf
      refine Ends.iteT (decide_eq_true (by rw [evsV_len]; omega)) ?_
      conv => enter [1]; whnf
      refine Ends.force ?_
      conv => enter [1]; whnf
      refine Ends.iteT (may_hp hlo) ?_
      conv => enter [1]; whnf
      have hwB : (H.set eb ⟨[], false⟩ ++ [(⟨dropN 0 (evsV E) ++ evV e, true⟩ : Blk)])[wb]? = some ⟨[.sl (.hp rb) 0 R.length 1, .int .i64 (n : Int), .sl (.hp eb) 0 E.length 7], true⟩ := (Grown.one _ _).at (by rw [List.getElem?_set_ne he2]; exact hw)
      refine Ends.opt (get_at hwB _) ?_
      conv => enter [1]; whnf
      have z1 : Nat.beq wb eb = false := beqF (Ne.symm he2)
      have z2 : Nat.beq eb wb = false := beqF he2
      have z3 : Nat.beq wb H.length = false := beqF (by omega)
      have z4 : Nat.beq H.length wb = false := beqF (by omega)
      first
        | (refine Ends.iteT (by simp [freeB, freeOne, commB, disjB, newsOf, wrsOf, rdsOf, outOf, isLoc, Base.eqB, z1, z2, z3, z4]; done) ?_; conv => enter [1]; whnf)
        | skip
      refine Ends.some' ⟨rfl, .sl (.hp H.length) 0 (E ++ [e]).length 7, H.length, ⟨?_, .inr ⟨rb, rfl, hrb1, ?_, ?_⟩, .inr ⟨rfl, by omega, ?_⟩, h.hn⟩, ?_, Nat.le_refl _⟩
      · rw [List.getElem?_set_self (by rw [List.length_append, List.length_set]; omega), List.length_append]; rfl
      · have := at_lt hrb3; omega
      · rw [List.getElem?_set_ne (Ne.symm hrb1)]; exact (Grown.one _ _).at (by rw [List.getElem?_set_ne (Ne.symm hrb2)]; exact hrb3)
      · rw [List.getElem?_set_ne (by omega), snoc_top (by rw [List.length_set]), evsV_append, drop0]; rfl
      · exact ⟨by rw [List.length_set, List.length_append, List.length_set]; omega, fun b k e n1 n2 => by rw [List.getElem?_set_ne (Ne.symm n1)]; exact (Grown.one _ _).at (by rw [List.getElem?_set_ne (Ne.symm n2)]; exact e)⟩
theorem HasW.keep {H : List Blk} {wb : Nat} {R : List Int} {rv : Val} {n : Nat} {E : List Ev} {lv : Val} {eb : Nat} (h : HasW H wb R rv n E lv eb) {H' : List Blk} (g : Grown H H') : HasW H' wb R rv n E lv eb := by
  refine ⟨g.at h.hw, ?_, ?_, h.hn⟩
  · rcases h.hr with a | ⟨b, a1, a2, a3, a4⟩
    · exact .inl a
    · exact .inr ⟨b, a1, a2, a3, g.at a4⟩
  · rcases h.he with a | ⟨a1, a2, a3⟩
    · exact .inl a
    · exact .inr ⟨a1, a2, g.at a3⟩
def EvOk (H H' : List Blk) (wb : Nat) (R : List Int) (rv : Val) (n : Nat) (E : List Ev) (eb : Nat) : Prop := ∃ lv' eb', HasW H' wb R rv n E lv' eb' ∧ KeepW H H' wb eb ∧ H.length ≤ eb'
def ev3 (k a b : Int) : Ev := ⟨k, a, b, 0, 0, 0, 0⟩
theorem win_F (mk : Mk) (k lo : Nat) (hk : 3 ≤ k) {H : List Blk} {wb : Nat} {R : List Int} {rv : Val} {n : Nat} {E : List Ev} {lv : Val} {eb : Nat} (h : HasW H wb R rv n E lv eb) (hlo : lo ≤ wb) (hle : lo ≤ eb) (hE : E.length < 1000) (at0 : Nat) (ha : n = min at0 R.length) (hR : R.length < 4611686018427387904) (p : Int) (w : Bool) (hu : ∀ i, U16 (R.getD i 0)) :
    Ends (FF mk k lo 21 [.ptr (.hp wb) 0, .int .u16 p, .bool w] H) fun r => r.1 = .int .u16 (if w then R.getD at0 0 else R.getD at0 0 % 256) ∧ EvOk H r.2 wb R rv (min (at0 + 1) R.length) (E ++ [ev3 1 p (if w then R.getD at0 0 else R.getD at0 0 % 256)]) eb := by
  obtain ⟨k, rfl⟩ : ∃ m, k = m + 1 := ⟨k - 1, by omega⟩
  have hu0 := hu at0
  conv => enter [1]; whnf
  refine Ends.callE (next_F mk k lo (by omega) h hlo at0 ha hR) (fun v H1 hv => ?_)
  obtain ⟨hv, h1, k1⟩ := hv
  replace hv : v = .int .u16 (R.getD at0 0) := hv
  subst hv
  replace h1 : HasW H1 wb R rv (min (at0 + 1) R.length) E lv eb := h1
  replace k1 : KeepW H H1 wb eb := k1
  generalize R.getD at0 0 = y at *
  cases w
  · conv => enter [1]; whnf
    refine Ends.call (low_F mk _ _ (by omega) _ _) ?_
    conv => enter [1]; whnf
    have e1 : IntKind.u16.wrap (y % 256) = y % 256 := by rw [wu16]; omega
    rw [e1]
    refine Ends.callE (note_F mk k lo (by omega) h1 hlo hle hE (ev3 1 p (y % 256))) (fun v H2 hv => ?_)
    obtain ⟨hv, lv2, eb2, h2, k2, hl2⟩ := hv
    replace hv : v = .tup [] := hv
    subst hv
    conv => enter [1]; whnf
    exact Ends.some' ⟨rfl, lv2, eb2, h2, k1.trans k2 (.inl rfl), Nat.le_trans k1.1 hl2⟩
  · conv => enter [1]; whnf
    refine Ends.callE (note_F mk k lo (by omega) h1 hlo hle hE (ev3 1 p y)) (fun v H2 hv => ?_)
    obtain ⟨hv, lv2, eb2, h2, k2, hl2⟩ := hv
    replace hv : v = .tup [] := hv
    subst hv
    conv => enter [1]; whnf
    exact Ends.some' ⟨rfl, lv2, eb2, h2, k1.trans k2 (.inl rfl), Nat.le_trans k1.1 hl2⟩
theorem wout_F (mk : Mk) (k lo : Nat) (hk : 3 ≤ k) {H : List Blk} {wb : Nat} {R : List Int} {rv : Val} {n : Nat} {E : List Ev} {lv : Val} {eb : Nat} (h : HasW H wb R rv n E lv eb) (hlo : lo ≤ wb) (hle : lo ≤ eb) (hE : E.length < 1000) (p y : Int) :
    Ends (FF mk k lo 22 [.ptr (.hp wb) 0, .int .u16 p, .int .u16 y] H) fun r => r.1 = .tup [] ∧ EvOk H r.2 wb R rv n (E ++ [ev3 2 p y]) eb := by
  obtain ⟨k, rfl⟩ : ∃ m, k = m + 1 := ⟨k - 1, by omega⟩
  conv => enter [1]; whnf
  refine Ends.callE (note_F mk k lo (by omega) h hlo hle hE (ev3 2 p y)) (fun v H2 hv => ?_)
  obtain ⟨hv, lv2, eb2, h2, k2, hl2⟩ := hv
  replace hv : v = .tup [] := hv
  subst hv
  conv => enter [1]; whnf
  exact Ends.some' ⟨rfl, lv2, eb2, h2, k2, hl2⟩
theorem wstop_F (mk : Mk) (k lo : Nat) (hk : 3 ≤ k) {H : List Blk} {wb : Nat} {R : List Int} {rv : Val} {n : Nat} {E : List Ev} {lv : Val} {eb : Nat} (h : HasW H wb R rv n E lv eb) (hlo : lo ≤ wb) (hle : lo ≤ eb) (hE : E.length < 1000) (p : Int) :
    Ends (FF mk k lo 24 [.ptr (.hp wb) 0, .int .i64 p] H) fun r => r.1 = .tup [] ∧ EvOk H r.2 wb R rv n (E ++ [ev3 p 0 0]) eb := by
  obtain ⟨k, rfl⟩ : ∃ m, k = m + 1 := ⟨k - 1, by omega⟩
  conv => enter [1]; whnf
  refine Ends.callE (note_F mk k lo (by omega) h hlo hle hE (ev3 p 0 0)) (fun v H2 hv => ?_)
  obtain ⟨hv, lv2, eb2, h2, k2, hl2⟩ := hv
  replace hv : v = .tup [] := hv
  subst hv
  conv => enter [1]; whnf
  exact Ends.some' ⟨rfl, lv2, eb2, h2, k2, hl2⟩
theorem wused_F (mk : Mk) (k lo : Nat) (hk : 1 ≤ k) {H : List Blk} {wb : Nat} {R : List Int} {rv : Val} {n : Nat} {E : List Ev} {lv : Val} {eb : Nat} (h : HasW H wb R rv n E lv eb) :
    FF mk k lo 25 [.ptr (.hp wb) 0] H = some (.int .i64 n, H) := by
  obtain ⟨k, rfl⟩ : ∃ m, k = m + 1 := ⟨k - 1, by omega⟩
  refine eq_of_ends ?_
  conv => enter [1]; whnf
  refine Ends.opt (get_at h.hw _) ?_
  conv => enter [1]; whnf
  exact Ends.some' rfl
end Go.Proofs.Ytfllmggfbfjheaa.VM
