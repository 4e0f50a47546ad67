/- MemPlays by the plain machine: rounds. -/
import Derived.Test.YtfflejhodmcoeaaMM
namespace Go.Proofs.Ytfflejhodmcoeaa.VM
open Go Go.RowKit
set_option linter.unusedVariables false
set_option linter.unusedSimpArgs false
set_option maxRecDepth 40000
set_option maxHeartbeats 3200000
theorem HasMem.ap {N : Nat} {H : List Blk} {p q s : Nat} {f g : Nat → Int} (h : HasMem N H p q s f g) {r : Nat} (B C : Blk) (h1 : r ≠ p) (h2 : r ≠ q) (h3 : r ≠ s) : HasMem N (H.set r B ++ [C]) p q s f g := by
  have hg : Grown (H.set r B) (H.set r B ++ [C]) := Grown.one _ _
  have a : HasMem N (H.set r B) p q s f g := ⟨h.n, by rw [List.getElem?_set_ne h1]; exact h.hp, by rw [List.getElem?_set_ne h2]; exact h.hq, by rw [List.getElem?_set_ne h3]; exact h.hs, h.pq, h.ps, h.qs⟩
  exact a.grow hg
theorem actsV_len (l : List ActV) : (actsV l).length = l.length * 5 := by
  induction l with
  | nil => rfl
  | cons x l ih =>
    have : (actsV (x :: l)) = actV x ++ actsV l := rfl
    rw [this, List.length_append, ih, List.length_cons, Nat.succ_mul]
    show 5 + _ = _; omega
theorem actsV_append (x y : List ActV) : actsV (x ++ y) = actsV x ++ actsV y := by simp [actsV]
theorem part_act {l : List ActV} {i : Nat} (h : i < l.length) {off : Nat} (ho : off = i * 5) : part? off 5 (actsV l) = some (actV l[i]) := by
  have e : actsV l = actsV (l.take i) ++ (actV l[i] ++ actsV (l.drop (i + 1))) := by
    conv => lhs; rw [← List.take_append_drop i l, List.drop_eq_getElem_cons h]
    rw [actsV_append]
    rfl
  rw [e]
  exact part_mid _ _ _ (by rw [ho, actsV_len, List.length_take, Nat.min_eq_left (by omega)]) rfl
theorem aggAct : aggB Try.prog 28 = some true := by kernel_rfl
theorem sizeAct : sizeB Try.prog 28 = some 5 := by kernel_rfl
theorem partAct {l : List ActV} {i : Nat} (h : i < l.length) {off : Nat} (ho : off = i * 5) : partV Try.prog 28 (actsV l) off = some (.agg (actV l[i])) := by
  unfold partV
  rw [aggAct, sizeAct]
  simp only [part_act h ho, Option.map_some]
theorem loc_top (loc : List (List Val)) (H : List Blk) (cs : List Val) : Mem.get ⟨loc ++ [cs], H⟩ (.lo loc.length) = some cs := by simp [Mem.get]
theorem loc_set (loc : List (List Val)) (H : List Blk) (c cs : List Val) : Mem.get ⟨(loc ++ [c]).set loc.length cs, H⟩ (.lo loc.length) = some cs := by simp [Mem.get]
theorem sc_lo (loc : List (List Val)) (H : List Blk) (cs : List Val) (m : Nat) (hn : cs.length = m * 3) : sliceCells ⟨loc ++ [cs], H⟩ 3 (.sl (.lo loc.length) 0 m 3) = some cs := by
  show (Mem.get ⟨loc ++ [cs], H⟩ (.lo loc.length)).bind (part? 0 (m * 3)) = _
  rw [loc_top]
  have := part_mid [] cs [] (off := 0) (n := m * 3) rfl hn.symm
  simpa using this
theorem u8_updI {f : Nat → Int} {i : Nat} {x : Int} (hf : ∀ i, U8 (f i)) (hx : U8 x) : ∀ j, U8 (updI f i x j) := by
  intro j
  unfold updI
  split
  · exact hx
  · exact hf j
theorem u8_wrap (x : Int) : U8 (IntKind.u8.wrap x) := by unfold U8; rw [wu8]; omega
theorem updI_over (g : Nat → Int) (a b : Nat) : updI (updI (updI (updI g a 0) b 0) a 1) b 2 = updI (updI g a 1) b 2 := by
  funext x
  unfold updI
  by_cases h1 : x = b
  · rw [if_pos h1, if_pos h1]
  · rw [if_neg h1, if_neg h1]
    by_cases h2 : x = a
    · rw [if_pos h2, if_neg h1, if_pos h2]
    · rw [if_neg h2, if_neg h2, if_neg h1, if_neg h2]
theorem u8_byte {n : Int} (h : U8 n) : ∃ b : UInt8, n = (b.toNat : Int) := by
  unfold U8 at h
  refine ⟨UInt8.ofNat n.toNat, ?_⟩
  rw [UInt8.toNat_ofNat']
  omega
theorem fX_ld (f : Nat → Int) (a : Nat) (l : List UInt8) : ∀ k, k ≤ l.length → fX f ((List.range k).map (fun i => (⟨a + i, ((l.getD i 0).toNat : Int), 0⟩ : Wr))) = ldF f a l k
  | 0, _ => (ldF_zero f a l).symm
  | k + 1, h => by
    rw [List.range_succ, List.map_append, fX_append, fX_ld f a l k (by omega)]
    show updI (ldF f a l k) (a + k) ((l.getD k 0).toNat : Int) = _
    rw [show l.getD k 0 = l[k] from by simp [List.getD_eq_getElem?_getD, show k < l.length by omega]]
    exact ldF_succ f a l k (by omega)
theorem gX_ld (g : Nat → Int) (a : Nat) (l : List UInt8) : ∀ k, gX g ((List.range k).map (fun i => (⟨a + i, ((l.getD i 0).toNat : Int), 0⟩ : Wr))) = ldG g a k
  | 0 => (ldG_zero g a).symm
  | k + 1 => by
    rw [List.range_succ, List.map_append, gX_append, gX_ld g a l k]
    exact ldG_succ g a k
theorem u8_ldF {f : Nat → Int} {a : Nat} {l : List UInt8} {k : Nat} (hf : ∀ i, U8 (f i)) : ∀ i, U8 (ldF f a l k i) := by
  intro i
  unfold ldF
  split
  · exact u8_nat _
  · exact hf i
/-- A loop within a loop: what comes behind it is not told out. -/
theorem Ends.loopK {R : Type} {body : St → (Out → St → Option R) → Option R} {keep : List Nat} {K : Out → St → Option R} {Φ : R → Prop} (I : Nat → List Val → Mem → Prop) (h0 : ∀ T M, ¬ I 0 T M)
    (h : ∀ n T M (L : St → Option R) (KK : Out → St → Option R), (∀ o s', KK o s' = K o s') → I (n + 1) T M → (∀ s', I n (maskFrom keep 0 s'.T) s'.M → Ends (L s') Φ) → Ends (body ⟨T, M⟩ fun o s' => match o with | .normal => L s' | o => KK o s') Φ) :
    ∀ n s, I n (maskFrom keep 0 s.T) s.M → Ends (VM.loopK body keep n s K) Φ :=
  Ends.loop I h0 fun n T M L hI hL => h n T M L K (fun _ _ => rfl) hI hL
theorem ltT {x : Int} {n : Nat} (hx : x = (n : Int)) (h : n < 1048576) : (bif (true == true) then decide (x < 1048576) else false) = true := by
  show decide (x < 1048576) = true
  exact decide_eq_true (by omega)
theorem ltF {x : Int} {n : Nat} (hx : x = (n : Int)) (h : ¬ n < 1048576) : (bif (true == true) then decide (x < 1048576) else false) = false := by
  show decide (x < 1048576) = false
  exact decide_eq_false (by omega)
theorem memPlays_l (mk : Mk) (K lo : Nat) (hK : K = 400) {N : Nat} (hN : N = 1048576) (l : List ActV) (hu : ∀ a ∈ l, U16 a.sg ∧ U16 a.o ∧ U16 a.v) (H : List Blk) (hlo : lo ≤ H.length) (hH1 : 1 ≤ H.length) (hH : H[0]? = some ⟨actsV l, true⟩) :
    Ends (FF mk (K + 1) lo 3 [.sl (.hp 0) 0 l.length 5] H) (fun r => r.1 = .bool true) := by
  conv => enter [1]; whnf
  refine Ends.callE (mnew_E mk K lo (by omega) hN H) (fun v H1 hv => ?_)
  obtain ⟨hv, g1, l1, h1⟩ := hv
  replace hv : v = .ptr (.hp (H.length + 2)) 0 := hv
  subst hv
  replace g1 : Grown H H1 := g1
  replace l1 : H1.length = H.length + 3 := l1
  replace h1 : HasMem N H1 (H.length + 2) H.length (H.length + 1) (fun _ => 0) (fun _ => 0) := h1
  conv => enter [1]; whnf
  refine Ends.loop (fun m T M => ∃ (j : Nat) (X : List Wr) (r : Nat) (H' : List Blk) (loc : List (List Val)), j ≤ 40 ∧ 40 - j < m ∧ X.length ≤ 3 * j ∧ HasMem N H' (H.length + 2) H.length (H.length + 1) (fX (fun _ => 0) X) (gX (fun _ => 0) X) ∧ H'[r]? = some ⟨wrsV X, true⟩ ∧ H.length + 3 ≤ r ∧ Grown H H' ∧ (∀ i, U8 (fX (fun _ => 0) X i)) ∧ T = [.sl (.hp 0) 0 l.length 5, .undef, .undef, .ptr (.hp (H.length + 2)) 0, .sl (.hp r) 0 X.length 3, .int .i64 j, .undef, .undef, .undef, .undef, .undef, .undef, .undef, .undef, .undef, .undef, .undef, .undef, .undef, .undef, .undef, .undef, .undef, .undef, .undef, .undef, .undef, .undef, .undef, .undef, .undef, .undef, .undef, .undef, .undef, .undef, .undef, .undef, .undef, .undef, .undef, .undef, .undef, .undef, .undef, .undef, .undef, .undef, .undef, .undef, .undef, .undef, .undef, .undef, .undef, .undef, .undef, .undef, .undef, .undef, .undef, .undef, .undef, .undef, .undef, .undef, .undef, .undef, .undef, .undef, .undef, .undef, .undef, .undef, .undef, .undef, .undef, .undef, .undef, .undef, .undef, .undef, .undef, .undef, .undef, .undef, .undef, .undef, .undef, .undef, .undef, .undef, .undef, .undef, .undef, .undef, .undef, .undef, .undef, .undef, .undef, .undef, .undef, .undef, .undef, .undef, .undef, .undef, .undef, .undef, .undef, .undef, .undef, .undef, .undef, .undef, .undef, .undef, .undef, .undef, .undef, .undef, .undef, .undef, .undef, .undef, .undef, .undef, .undef, .undef, .undef, .undef, .undef, .undef, .undef, .undef, .undef, .undef, .undef, .undef, .undef, .undef, .undef, .undef, .undef, .undef, .undef, .undef, .undef, .undef, .undef, .undef, .undef, .undef, .undef, .undef, .undef, .undef, .undef, .undef, .undef, .undef, .undef, .undef, .undef, .undef, .undef, .undef, .undef, .undef, .undef, .undef, .undef, .undef, .undef, .undef, .undef, .undef, .undef, .undef, .undef, .undef, .undef, .undef, .undef, .undef, .undef, .undef, .undef, .undef, .undef, .undef, .undef, .undef, .undef, .undef, .undef, .undef, .undef, .undef, .undef, .undef, .undef, .undef, .undef, .undef, .undef, .undef, .undef, .undef, .undef, .undef, .undef, .undef, .undef, .undef, .undef, .undef, .undef, .undef, .undef, .undef, .undef, .undef, .undef, .undef, .undef, .undef, .undef] ∧ M = ⟨loc, H'⟩) (fun T M ⟨j, X, r, H', loc, _, h, _⟩ => by omega) ?_ _ _ ⟨0, [], H1.length, _, [], by omega, by omega, by simp, h1.grow (Grown.one _ _), by simp [wrsV], by omega, g1.trans (Grown.one _ _), (fun i => by unfold U8 fX; exact ⟨Int.le_refl 0, by decide⟩), rfl, rfl⟩
  rintro m T M L ⟨j, X, r, H', loc, j1, j2, j3, h, hr, hrr, hG, hU, rfl, rfl⟩ hL
  conv => enter [1]; whnf
  have fin : ∀ (Z : List (List Val)), True := fun _ => trivial
  by_cases c1 : ¬ j < l.length
  · refine Ends.iteF (by simp; omega) ?_
    conv => enter [1]; whnf
    refine Ends.callE (awake02_F mk K lo (by omega) H' (by have := hG.len; omega)) (fun v H4 hv => ?_)
    obtain ⟨hv, g4⟩ := hv
    replace hv : v = .bool true := hv
    subst hv
    conv => enter [1]; whnf
    exact Ends.some' rfl
  replace c1 : j < l.length := by omega
  refine Ends.iteT (by simp; omega) ?_
  conv => enter [1]; whnf
  by_cases c2 : ¬ j < 40
  · refine Ends.iteF (by simp; omega) ?_
    conv => enter [1]; whnf
    refine Ends.callE (awake02_F mk K lo (by omega) H' (by have := hG.len; omega)) (fun v H4 hv => ?_)
    obtain ⟨hv, g4⟩ := hv
    replace hv : v = .bool true := hv
    subst hv
    conv => enter [1]; whnf
    exact Ends.some' rfl
  replace c2 : j < 40 := by omega
  refine Ends.iteT (by simp; omega) ?_
  conv => enter [1]; whnf
  refine Ends.iteT (decide_eq_true (by omega)) ?_
  conv => enter [1]; whnf
  refine Ends.opt (get_at (hG.at hH) _) ?_
  conv => enter [1]; whnf
  obtain ⟨a, ha⟩ : ∃ a, a = l[j] := ⟨_, rfl⟩
  have hpa : ∀ off, off = j * 5 → partV Try.prog 28 (actsV l) off = some (.agg (actV a)) := fun off ho => by rw [ha]; exact partAct c1 ho
  obtain ⟨u1, u2, u3⟩ : U16 a.sg ∧ U16 a.o ∧ U16 a.v := by rw [ha]; exact hu _ (List.getElem_mem c1)
  refine Ends.opt (hpa _ (by omega)) ?_
  clear ha hpa
  have hnear := fun k lo hk H => near02_F mk k lo hk a u1 u2 (j : Int) H
  conv => enter [1]; whnf
  refine Ends.forceN ?_
  conv => enter [1]; whnf
  refine Ends.forceLs ?_
  conv => enter [1]; whnf
  refine Ends.opt (loc_top _ _ _) ?_
  conv => enter [1]; whnf
  refine Ends.forceLs ?_
  conv => enter [1]; whnf
  refine Ends.opt (loc_set _ _ _ _) ?_
  conv => enter [1]; whnf
  refine Ends.callE (hnear K lo (by omega) H') (fun v1 H2 hv => ?_)
  obtain ⟨hv2, s2, o2, hv, us, uo⟩ := hv
  replace hv2 : H2 = H' := hv2
  replace hv : v1 = .tup [.int .u16 s2, .int .u16 o2] := hv
  subst hv2; subst hv
  conv => enter [1]; whnf
  refine Ends.call (rlin_F mk K lo (by omega) s2 o2 us uo _) ?_
  conv => enter [1]; whnf
  refine Ends.call (rlin_F mk K lo (by omega) s2 (nxt o2) us (nxt_u16 o2) _) ?_
  conv => enter [1]; whnf
  have hA : linN s2 o2 < 1048576 := by have := linZ_lt s2 o2; unfold linN; omega
  have hB : linN s2 (nxt o2) < 1048576 := by have := linZ_lt s2 (nxt o2); unfold linN; omega
  have hHl := hG.len
  refine Ends.forceN ?_
  conv => enter [1]; whnf
  refine Ends.opt (loc_set _ _ _ _) ?_
  conv => enter [1]; whnf
  rw [and64_7]
  by_cases k0 : a.w % 8 = 0
  · have q0 : ((a.w % 8) == 0) = true := beq_iff_eq.2 k0
    rw [q0]
    conv => enter [1]; whnf
    by_cases hT : a.t = true
    · rw [hT]
      refine Ends.forceN ?_
      conv => enter [1]; whnf
      refine Ends.opt (loc_set _ _ _ _) ?_
      conv => enter [1]; whnf
      refine Ends.forceN ?_
      conv => enter [1]; whnf
      refine Ends.opt (loc_set _ _ _ _) ?_
      conv => enter [1]; whnf
      have hms := msetw_F mk K lo (by omega) h (by omega) (by omega) s2 o2 a.v true us uo u3
      rw [if_pos rfl] at hms
      refine Ends.call hms ?_
      conv => enter [1]; whnf
      refine Ends.forceN ?_
      conv => enter [1]; whnf
      refine Ends.opt (loc_set _ _ _ _) ?_
      conv => enter [1]; whnf
      refine Ends.forceN ?_
      conv => enter [1]; whnf
      refine Ends.opt (loc_set _ _ _ _) ?_
      conv => enter [1]; whnf
      have e6 : IntKind.u8.wrap (a.v.tmod 256) = a.v % 256 := by unfold U16 at u3; rw [Int.tmod_eq_emod_of_nonneg u3.1, wu8]; omega
      have e7 : IntKind.u8.wrap (IntKind.u16.wrap (a.v.tdiv 256)) = a.v / 256 := by unfold U16 at u3; rw [Int.tdiv_eq_ediv_of_nonneg u3.1, wu16, wu8]; omega
      have hx : U8 (a.v % 256) := by unfold U8; omega
      have hy : U8 (a.v / 256) := by unfold U8; unfold U16 at u3; omega
      refine Ends.forceN ?_
      conv => enter [1]; whnf
      refine Ends.opt (loc_set _ _ _ _) ?_
      conv => enter [1]; whnf
      rw [e6, e7]
      refine Ends.forceN ?_
      conv => enter [1]; whnf
      refine Ends.forceLs ?_
      conv => enter [1]; whnf
      refine Ends.opt (sc_lo _ _ _ 2 rfl) ?_
      conv => enter [1]; whnf
      refine Ends.iteT (may_hp (by omega)) ?_
      conv => enter [1]; whnf
      refine Ends.iteT (decide_eq_true (by omega)) ?_
      conv => enter [1]; whnf
      refine Ends.opt (get_at ((putMem_ne N H2 _ _ (by omega) (by omega)).trans hr) _) ?_
      conv => enter [1]; whnf
      refine Ends.iteT (decide_eq_true (by rw [wrsV_len]; omega)) ?_
      conv => enter [1]; whnf
      refine Ends.force ?_
      have hL2 := putMem_len N H2 H.length (H.length + 1) (updI (updI (fX (fun _ => 0) X) (linN s2 o2) (a.v % 256)) (linN s2 (nxt o2)) (a.v / 256)) (updI (updI (updI (updI (gX (fun _ => 0) X) (linN s2 o2) 0) (linN s2 (nxt o2)) 0) (linN s2 o2) 1) (linN s2 (nxt o2)) 2)
      obtain ⟨X3, hX3⟩ : ∃ X3, X3 = X ++ [⟨linN s2 o2, a.v % 256, 1⟩, ⟨linN s2 (nxt o2), a.v / 256, 2⟩] := ⟨_, rfl⟩
      have hl3 : X.length + 2 = X3.length := by rw [hX3, List.length_append]; rfl
      have hF3 : fX (fun _ => 0) X3 = (updI (updI (fX (fun _ => 0) X) (linN s2 o2) (a.v % 256)) (linN s2 (nxt o2)) (a.v / 256)) := by rw [hX3, fX_append]; rfl
      have hG3' : gX (fun _ => 0) X3 = (updI (updI (updI (updI (gX (fun _ => 0) X) (linN s2 o2) 0) (linN s2 (nxt o2)) 0) (linN s2 o2) 1) (linN s2 (nxt o2)) 2) := by rw [hX3, gX_append]; exact (updI_over _ _ _).symm
      have h3 : HasMem N ((putMem N H2 H.length (H.length + 1) (updI (updI (fX (fun _ => 0) X) (linN s2 o2) (a.v % 256)) (linN s2 (nxt o2)) (a.v / 256)) (updI (updI (updI (updI (gX (fun _ => 0) X) (linN s2 o2) 0) (linN s2 (nxt o2)) 0) (linN s2 o2) 1) (linN s2 (nxt o2)) 2)).set r ⟨[], false⟩ ++ [(⟨dropN 0 (wrsV X) ++ [.int .i64 (linN s2 o2 : Int), .int .u8 (a.v % 256), .int .i64 1, .int .i64 (linN s2 (nxt o2) : Int), .int .u8 (a.v / 256), .int .i64 2], true⟩ : Blk)]) (H.length + 2) H.length (H.length + 1) (fX (fun _ => 0) X3) (gX (fun _ => 0) X3) := by rw [hF3, hG3']; exact (h.put _ _).ap _ _ (by omega) (by omega) (by omega)
      have hr3 : ((putMem N H2 H.length (H.length + 1) (updI (updI (fX (fun _ => 0) X) (linN s2 o2) (a.v % 256)) (linN s2 (nxt o2)) (a.v / 256)) (updI (updI (updI (updI (gX (fun _ => 0) X) (linN s2 o2) 0) (linN s2 (nxt o2)) 0) (linN s2 o2) 1) (linN s2 (nxt o2)) 2)).set r ⟨[], false⟩ ++ [(⟨dropN 0 (wrsV X) ++ [.int .i64 (linN s2 o2 : Int), .int .u8 (a.v % 256), .int .i64 1, .int .i64 (linN s2 (nxt o2) : Int), .int .u8 (a.v / 256), .int .i64 2], true⟩ : Blk)])[(putMem N H2 H.length (H.length + 1) (updI (updI (fX (fun _ => 0) X) (linN s2 o2) (a.v % 256)) (linN s2 (nxt o2)) (a.v / 256)) (updI (updI (updI (updI (gX (fun _ => 0) X) (linN s2 o2) 0) (linN s2 (nxt o2)) 0) (linN s2 o2) 1) (linN s2 (nxt o2)) 2)).length]? = some ⟨wrsV X3, true⟩ := by rw [snoc_top (by simp), hX3, wrsV_append]; rw [show dropN 0 (wrsV X) = wrsV X from drop0 _]; rfl
      have hGr : Grown H ((putMem N H2 H.length (H.length + 1) (updI (updI (fX (fun _ => 0) X) (linN s2 o2) (a.v % 256)) (linN s2 (nxt o2)) (a.v / 256)) (updI (updI (updI (updI (gX (fun _ => 0) X) (linN s2 o2) 0) (linN s2 (nxt o2)) 0) (linN s2 o2) 1) (linN s2 (nxt o2)) 2)).set r ⟨[], false⟩ ++ [(⟨dropN 0 (wrsV X) ++ [.int .i64 (linN s2 o2 : Int), .int .u8 (a.v % 256), .int .i64 1, .int .i64 (linN s2 (nxt o2) : Int), .int .u8 (a.v / 256), .int .i64 2], true⟩ : Blk)]) := ((putMem_grown hG (Nat.le_refl _) (by omega) _ _).set (by omega) _).trans (Grown.one _ _)
      have hU3 : ∀ i, U8 (fX (fun _ => 0) X3 i) := by rw [hF3]; exact u8_updI (u8_updI hU hx) hy
      have hr4 : H.length + 3 ≤ (putMem N H2 H.length (H.length + 1) (updI (updI (fX (fun _ => 0) X) (linN s2 o2) (a.v % 256)) (linN s2 (nxt o2)) (a.v / 256)) (updI (updI (updI (updI (gX (fun _ => 0) X) (linN s2 o2) 0) (linN s2 (nxt o2)) 0) (linN s2 o2) 1) (linN s2 (nxt o2)) 2)).length := by rw [hL2]; exact Nat.le_trans hrr (Nat.le_of_lt (at_lt hr))
      conv => enter [1]; whnf
      rw [hl3]
      generalize ((putMem N H2 H.length (H.length + 1) (updI (updI (fX (fun _ => 0) X) (linN s2 o2) (a.v % 256)) (linN s2 (nxt o2)) (a.v / 256)) (updI (updI (updI (updI (gX (fun _ => 0) X) (linN s2 o2) 0) (linN s2 (nxt o2)) 0) (linN s2 o2) 1) (linN s2 (nxt o2)) 2)).set r ⟨[], false⟩ ++ [(⟨dropN 0 (wrsV X) ++ [.int .i64 (linN s2 o2 : Int), .int .u8 (a.v % 256), .int .i64 1, .int .i64 (linN s2 (nxt o2) : Int), .int .u8 (a.v / 256), .int .i64 2], true⟩ : Blk)]) = H3 at *
      generalize (putMem N H2 H.length (H.length + 1) (updI (updI (fX (fun _ => 0) X) (linN s2 o2) (a.v % 256)) (linN s2 (nxt o2)) (a.v / 256)) (updI (updI (updI (updI (gX (fun _ => 0) X) (linN s2 o2) 0) (linN s2 (nxt o2)) 0) (linN s2 o2) 1) (linN s2 (nxt o2)) 2)).length = r3 at *
      clear hF3 hG3'
      have p1 := pget_F mk K lo X3 r3 (linN s2 o2) hA (by omega) (by omega) H3 hr3
      have p2 := pget_F mk K lo X3 r3 (linN s2 (nxt o2)) hB (by omega) (by omega) H3 hr3
      have w1 := mword_F mk K lo (by omega) h3 hU3 s2 o2 us uo
      have y1 := mbyte_F mk K lo (by omega) h3 s2 o2 us uo
      have a1 := mat_F mk K lo (by omega) h3 (IntKind.u32.wrap (linN s2 o2 : Int)) (by rw [wu32]; omega)
      have b1 := mplain_F mk K lo (by omega) h3 (IntKind.u32.wrap (linN s2 o2 : Int)) (by rw [wu32]; omega)
      have eA : (IntKind.u32.wrap (linN s2 o2 : Int) % 1048576).toNat = linN s2 o2 := by rw [wu32]; omega
      rw [eA] at a1 b1
      unfold tok at w1
      have ua := hU3 (linN s2 o2)
      have ub := hU3 (linN s2 (nxt o2))
      generalize fX (fun _ => 0) X3 (linN s2 o2) = fa at p1 w1 y1 a1 ua
      generalize fX (fun _ => 0) X3 (linN s2 (nxt o2)) = fb at p2 w1 ub
      generalize gX (fun _ => 0) X3 (linN s2 o2) = ga at p1 w1 y1 b1
      generalize gX (fun _ => 0) X3 (linN s2 (nxt o2)) = gb at p2 w1
      have hff : (fa != fa) = false := bne_self_eq_false fa
      have hvv : ((fa + 256 * fb) != IntKind.u16.wrap (IntKind.u16.wrap fa + IntKind.u16.wrap (256 * IntKind.u16.wrap fb))) = false := by
        unfold U8 at ua ub
        have e5 : IntKind.u16.wrap (IntKind.u16.wrap fa + IntKind.u16.wrap (256 * IntKind.u16.wrap fb)) = fa + 256 * fb := by
          rw [wu16 fa, wu16 fb, Int.emod_eq_of_lt (a := fa) (by omega) (by omega), Int.emod_eq_of_lt (a := fb) (by omega) (by omega), wu16 (256 * fb), Int.emod_eq_of_lt (a := 256 * fb) (by omega) (by omega), wu16]; omega
        rw [e5]; exact bne_self_eq_false _
      refine Ends.call p1 ?_
      conv => enter [1]; whnf
      refine Ends.call p2 ?_
      conv => enter [1]; whnf
      refine Ends.call w1 ?_
      conv => enter [1]; whnf
      refine Ends.forceN ?_
      conv => enter [1]; whnf
      refine Ends.forceLs ?_
      conv => enter [1]; whnf
      refine Ends.opt (loc_top _ _ _) ?_
      conv => enter [1]; whnf
      refine Ends.forceLs ?_
      conv => enter [1]; whnf
      refine Ends.call y1 ?_
      conv => enter [1]; whnf
      by_cases z1 : ga = 1
      · have e1 : (ga == 1) = true := beq_iff_eq.2 (by omega)
        have e0 : (ga == 0) = false := beq_eq_false_iff_ne.2 (by omega)
        try (first
          | (refine Ends.iteT (by first | (simp [hff, e1, e0, hvv]; done) | fail "open") ?_; conv => enter [1]; whnf)
          | (refine Ends.iteF (by first | (simp [hff, e1, e0, hvv]; done) | fail "open") ?_; conv => enter [1]; whnf))
        try (first
          | (refine Ends.iteT (by first | (simp [hff, e1, e0, hvv]; done) | fail "open") ?_; conv => enter [1]; whnf)
          | (refine Ends.iteF (by first | (simp [hff, e1, e0, hvv]; done) | fail "open") ?_; conv => enter [1]; whnf))
        try (first
          | (refine Ends.iteT (by first | (simp [hff, e1, e0, hvv]; done) | fail "open") ?_; conv => enter [1]; whnf)
          | (refine Ends.iteF (by first | (simp [hff, e1, e0, hvv]; done) | fail "open") ?_; conv => enter [1]; whnf))
        refine Ends.call a1 ?_
        conv => enter [1]; whnf
        try (first
          | (refine Ends.iteT (by first | (simp [hff, e1, e0, hvv]; done) | fail "open") ?_; conv => enter [1]; whnf)
          | (refine Ends.iteF (by first | (simp [hff, e1, e0, hvv]; done) | fail "open") ?_; conv => enter [1]; whnf))
        refine Ends.call b1 ?_
        conv => enter [1]; whnf
        try (first
          | (refine Ends.iteT (by first | (simp [hff, e1, e0, hvv]; done) | fail "open") ?_; conv => enter [1]; whnf)
          | (refine Ends.iteF (by first | (simp [hff, e1, e0, hvv]; done) | fail "open") ?_; conv => enter [1]; whnf))
        refine Ends.forceN ?_
        conv => enter [1]; whnf
        refine Ends.opt (loc_set _ _ _ _) ?_
        conv => enter [1]; whnf
        try (first
          | (refine Ends.iteT (by first | (simp [hff, e1, e0, hvv]; done) | fail "open") ?_; conv => enter [1]; whnf)
          | (refine Ends.iteF (by first | (simp [hff, e1, e0, hvv]; done) | fail "open") ?_; conv => enter [1]; whnf))
        refine Ends.forceN ?_
        conv => enter [1]; whnf
        refine Ends.opt (loc_set _ _ _ _) ?_
        conv => enter [1]; whnf
        try (first
          | (refine Ends.iteT (by first | (simp [hff, e1, e0, hvv]; done) | fail "open") ?_; conv => enter [1]; whnf)
          | (refine Ends.iteF (by first | (simp [hff, e1, e0, hvv]; done) | fail "open") ?_; conv => enter [1]; whnf))
        by_cases z2 : gb = 2
        · have d2 : (gb == 2) = true := beq_iff_eq.2 (by omega)
          repeat' (first
            | (refine Ends.iteT (by first | (simp [hff, e1, e0, d2, hvv]; done) | fail "open") ?_; conv => enter [1]; whnf)
            | (refine Ends.iteF (by first | (simp [hff, e1, e0, d2, hvv]; done) | fail "open") ?_; conv => enter [1]; whnf))
          refine hL _ ⟨j + 1, X3, r3, H3, _, by omega, by omega, by omega, h3, hr3, by omega, hGr, hU3, ?_, rfl⟩
          have e3 : IntKind.i64.wrap ((j : Int) + 1) = ((j + 1 : Nat) : Int) := by rw [w64]; omega
          rw [e3]
          rfl
        · have d2 : (gb == 2) = false := beq_eq_false_iff_ne.2 (by omega)
          repeat' (first
            | (refine Ends.iteT (by first | (simp [hff, e1, e0, d2, hvv]; done) | fail "open") ?_; conv => enter [1]; whnf)
            | (refine Ends.iteF (by first | (simp [hff, e1, e0, d2, hvv]; done) | fail "open") ?_; conv => enter [1]; whnf))
          refine hL _ ⟨j + 1, X3, r3, H3, _, by omega, by omega, by omega, h3, hr3, by omega, hGr, hU3, ?_, rfl⟩
          have e3 : IntKind.i64.wrap ((j : Int) + 1) = ((j + 1 : Nat) : Int) := by rw [w64]; omega
          rw [e3]
          rfl
      · have e1 : (ga == 1) = false := beq_eq_false_iff_ne.2 (by omega)
        try (first
          | (refine Ends.iteT (by first | (simp [hff, e1, hvv]; done) | fail "open") ?_; conv => enter [1]; whnf)
          | (refine Ends.iteF (by first | (simp [hff, e1, hvv]; done) | fail "open") ?_; conv => enter [1]; whnf))
        try (first
          | (refine Ends.iteT (by first | (simp [hff, e1, hvv]; done) | fail "open") ?_; conv => enter [1]; whnf)
          | (refine Ends.iteF (by first | (simp [hff, e1, hvv]; done) | fail "open") ?_; conv => enter [1]; whnf))
        try (first
          | (refine Ends.iteT (by first | (simp [hff, e1, hvv]; done) | fail "open") ?_; conv => enter [1]; whnf)
          | (refine Ends.iteF (by first | (simp [hff, e1, hvv]; done) | fail "open") ?_; conv => enter [1]; whnf))
        refine Ends.call a1 ?_
        conv => enter [1]; whnf
        try (first
          | (refine Ends.iteT (by first | (simp [hff, e1, hvv]; done) | fail "open") ?_; conv => enter [1]; whnf)
          | (refine Ends.iteF (by first | (simp [hff, e1, hvv]; done) | fail "open") ?_; conv => enter [1]; whnf))
        refine Ends.call b1 ?_
        conv => enter [1]; whnf
        try (first
          | (refine Ends.iteT (by first | (simp [hff, e1, hvv]; done) | fail "open") ?_; conv => enter [1]; whnf)
          | (refine Ends.iteF (by first | (simp [hff, e1, hvv]; done) | fail "open") ?_; conv => enter [1]; whnf))
        refine Ends.forceN ?_
        conv => enter [1]; whnf
        refine Ends.opt (loc_set _ _ _ _) ?_
        conv => enter [1]; whnf
        try (first
          | (refine Ends.iteT (by first | (simp [hff, e1, hvv]; done) | fail "open") ?_; conv => enter [1]; whnf)
          | (refine Ends.iteF (by first | (simp [hff, e1, hvv]; done) | fail "open") ?_; conv => enter [1]; whnf))
        refine Ends.forceN ?_
        conv => enter [1]; whnf
        refine Ends.opt (loc_set _ _ _ _) ?_
        conv => enter [1]; whnf
        try (first
          | (refine Ends.iteT (by first | (simp [hff, e1, hvv]; done) | fail "open") ?_; conv => enter [1]; whnf)
          | (refine Ends.iteF (by first | (simp [hff, e1, hvv]; done) | fail "open") ?_; conv => enter [1]; whnf))
        by_cases z0 : ga = 0
        · have e0 : (ga == 0) = true := beq_iff_eq.2 (by omega)
          repeat' (first
            | (refine Ends.iteT (by first | (simp [hff, e1, e0, hvv]; done) | fail "open") ?_; conv => enter [1]; whnf)
            | (refine Ends.iteF (by first | (simp [hff, e1, e0, hvv]; done) | fail "open") ?_; conv => enter [1]; whnf))
          refine hL _ ⟨j + 1, X3, r3, H3, _, by omega, by omega, by omega, h3, hr3, by omega, hGr, hU3, ?_, rfl⟩
          have e3 : IntKind.i64.wrap ((j : Int) + 1) = ((j + 1 : Nat) : Int) := by rw [w64]; omega
          rw [e3]
          rfl
        · have e0 : (ga == 0) = false := beq_eq_false_iff_ne.2 (by omega)
          repeat' (first
            | (refine Ends.iteT (by first | (simp [hff, e1, e0, hvv]; done) | fail "open") ?_; conv => enter [1]; whnf)
            | (refine Ends.iteF (by first | (simp [hff, e1, e0, hvv]; done) | fail "open") ?_; conv => enter [1]; whnf))
          refine hL _ ⟨j + 1, X3, r3, H3, _, by omega, by omega, by omega, h3, hr3, by omega, hGr, hU3, ?_, rfl⟩
          have e3 : IntKind.i64.wrap ((j : Int) + 1) = ((j + 1 : Nat) : Int) := by rw [w64]; omega
          rw [e3]
          rfl
    replace hT : a.t = false := by simpa using hT
    rw [hT]
    refine Ends.forceN ?_
    conv => enter [1]; whnf
    refine Ends.opt (loc_set _ _ _ _) ?_
    conv => enter [1]; whnf
    refine Ends.forceN ?_
    conv => enter [1]; whnf
    refine Ends.opt (loc_set _ _ _ _) ?_
    conv => enter [1]; whnf
    have hms := msetw_F mk K lo (by omega) h (by omega) (by omega) s2 o2 a.v false us uo u3
    rw [if_neg (by decide)] at hms
    refine Ends.call hms ?_
    conv => enter [1]; whnf
    refine Ends.forceN ?_
    conv => enter [1]; whnf
    refine Ends.opt (loc_set _ _ _ _) ?_
    conv => enter [1]; whnf
    refine Ends.forceN ?_
    conv => enter [1]; whnf
    refine Ends.opt (loc_set _ _ _ _) ?_
    conv => enter [1]; whnf
    have e6 : IntKind.u8.wrap (a.v.tmod 256) = a.v % 256 := by unfold U16 at u3; rw [Int.tmod_eq_emod_of_nonneg u3.1, wu8]; omega
    have e7 : IntKind.u8.wrap (IntKind.u16.wrap (a.v.tdiv 256)) = a.v / 256 := by unfold U16 at u3; rw [Int.tdiv_eq_ediv_of_nonneg u3.1, wu16, wu8]; omega
    have hx : U8 (a.v % 256) := by unfold U8; omega
    have hy : U8 (a.v / 256) := by unfold U8; unfold U16 at u3; omega
    refine Ends.forceN ?_
    conv => enter [1]; whnf
    refine Ends.opt (loc_set _ _ _ _) ?_
    conv => enter [1]; whnf
    rw [e6, e7]
    refine Ends.forceN ?_
    conv => enter [1]; whnf
    refine Ends.forceLs ?_
    conv => enter [1]; whnf
    refine Ends.opt (sc_lo _ _ _ 2 rfl) ?_
    conv => enter [1]; whnf
    refine Ends.iteT (may_hp (by omega)) ?_
    conv => enter [1]; whnf
    refine Ends.iteT (decide_eq_true (by omega)) ?_
    conv => enter [1]; whnf
    refine Ends.opt (get_at ((putMem_ne N H2 _ _ (by omega) (by omega)).trans hr) _) ?_
    conv => enter [1]; whnf
    refine Ends.iteT (decide_eq_true (by rw [wrsV_len]; omega)) ?_
    conv => enter [1]; whnf
    refine Ends.force ?_
    have hL2 := putMem_len N H2 H.length (H.length + 1) (updI (updI (fX (fun _ => 0) X) (linN s2 o2) (a.v % 256)) (linN s2 (nxt o2)) (a.v / 256)) (updI (updI (gX (fun _ => 0) X) (linN s2 o2) 0) (linN s2 (nxt o2)) 0)
    obtain ⟨X3, hX3⟩ : ∃ X3, X3 = X ++ [⟨linN s2 o2, a.v % 256, 0⟩, ⟨linN s2 (nxt o2), a.v / 256, 0⟩] := ⟨_, rfl⟩
    have hl3 : X.length + 2 = X3.length := by rw [hX3, List.length_append]; rfl
    have hF3 : fX (fun _ => 0) X3 = (updI (updI (fX (fun _ => 0) X) (linN s2 o2) (a.v % 256)) (linN s2 (nxt o2)) (a.v / 256)) := by rw [hX3, fX_append]; rfl
    have hG3' : gX (fun _ => 0) X3 = (updI (updI (gX (fun _ => 0) X) (linN s2 o2) 0) (linN s2 (nxt o2)) 0) := by rw [hX3, gX_append]; rfl
    have h3 : HasMem N ((putMem N H2 H.length (H.length + 1) (updI (updI (fX (fun _ => 0) X) (linN s2 o2) (a.v % 256)) (linN s2 (nxt o2)) (a.v / 256)) (updI (updI (gX (fun _ => 0) X) (linN s2 o2) 0) (linN s2 (nxt o2)) 0)).set r ⟨[], false⟩ ++ [(⟨dropN 0 (wrsV X) ++ [.int .i64 (linN s2 o2 : Int), .int .u8 (a.v % 256), .int .i64 0, .int .i64 (linN s2 (nxt o2) : Int), .int .u8 (a.v / 256), .int .i64 0], true⟩ : Blk)]) (H.length + 2) H.length (H.length + 1) (fX (fun _ => 0) X3) (gX (fun _ => 0) X3) := by rw [hF3, hG3']; exact (h.put _ _).ap _ _ (by omega) (by omega) (by omega)
    have hr3 : ((putMem N H2 H.length (H.length + 1) (updI (updI (fX (fun _ => 0) X) (linN s2 o2) (a.v % 256)) (linN s2 (nxt o2)) (a.v / 256)) (updI (updI (gX (fun _ => 0) X) (linN s2 o2) 0) (linN s2 (nxt o2)) 0)).set r ⟨[], false⟩ ++ [(⟨dropN 0 (wrsV X) ++ [.int .i64 (linN s2 o2 : Int), .int .u8 (a.v % 256), .int .i64 0, .int .i64 (linN s2 (nxt o2) : Int), .int .u8 (a.v / 256), .int .i64 0], true⟩ : Blk)])[(putMem N H2 H.length (H.length + 1) (updI (updI (fX (fun _ => 0) X) (linN s2 o2) (a.v % 256)) (linN s2 (nxt o2)) (a.v / 256)) (updI (updI (gX (fun _ => 0) X) (linN s2 o2) 0) (linN s2 (nxt o2)) 0)).length]? = some ⟨wrsV X3, true⟩ := by rw [snoc_top (by simp), hX3, wrsV_append]; rw [show dropN 0 (wrsV X) = wrsV X from drop0 _]; rfl
    have hGr : Grown H ((putMem N H2 H.length (H.length + 1) (updI (updI (fX (fun _ => 0) X) (linN s2 o2) (a.v % 256)) (linN s2 (nxt o2)) (a.v / 256)) (updI (updI (gX (fun _ => 0) X) (linN s2 o2) 0) (linN s2 (nxt o2)) 0)).set r ⟨[], false⟩ ++ [(⟨dropN 0 (wrsV X) ++ [.int .i64 (linN s2 o2 : Int), .int .u8 (a.v % 256), .int .i64 0, .int .i64 (linN s2 (nxt o2) : Int), .int .u8 (a.v / 256), .int .i64 0], true⟩ : Blk)]) := ((putMem_grown hG (Nat.le_refl _) (by omega) _ _).set (by omega) _).trans (Grown.one _ _)
    have hU3 : ∀ i, U8 (fX (fun _ => 0) X3 i) := by rw [hF3]; exact u8_updI (u8_updI hU hx) hy
    have hr4 : H.length + 3 ≤ (putMem N H2 H.length (H.length + 1) (updI (updI (fX (fun _ => 0) X) (linN s2 o2) (a.v % 256)) (linN s2 (nxt o2)) (a.v / 256)) (updI (updI (gX (fun _ => 0) X) (linN s2 o2) 0) (linN s2 (nxt o2)) 0)).length := by rw [hL2]; exact Nat.le_trans hrr (Nat.le_of_lt (at_lt hr))
    conv => enter [1]; whnf
    rw [hl3]
    generalize ((putMem N H2 H.length (H.length + 1) (updI (updI (fX (fun _ => 0) X) (linN s2 o2) (a.v % 256)) (linN s2 (nxt o2)) (a.v / 256)) (updI (updI (gX (fun _ => 0) X) (linN s2 o2) 0) (linN s2 (nxt o2)) 0)).set r ⟨[], false⟩ ++ [(⟨dropN 0 (wrsV X) ++ [.int .i64 (linN s2 o2 : Int), .int .u8 (a.v % 256), .int .i64 0, .int .i64 (linN s2 (nxt o2) : Int), .int .u8 (a.v / 256), .int .i64 0], true⟩ : Blk)]) = H3 at *
    generalize (putMem N H2 H.length (H.length + 1) (updI (updI (fX (fun _ => 0) X) (linN s2 o2) (a.v % 256)) (linN s2 (nxt o2)) (a.v / 256)) (updI (updI (gX (fun _ => 0) X) (linN s2 o2) 0) (linN s2 (nxt o2)) 0)).length = r3 at *
    clear hF3 hG3'
    have p1 := pget_F mk K lo X3 r3 (linN s2 o2) hA (by omega) (by omega) H3 hr3
    have p2 := pget_F mk K lo X3 r3 (linN s2 (nxt o2)) hB (by omega) (by omega) H3 hr3
    have w1 := mword_F mk K lo (by omega) h3 hU3 s2 o2 us uo
    have y1 := mbyte_F mk K lo (by omega) h3 s2 o2 us uo
    have a1 := mat_F mk K lo (by omega) h3 (IntKind.u32.wrap (linN s2 o2 : Int)) (by rw [wu32]; omega)
    have b1 := mplain_F mk K lo (by omega) h3 (IntKind.u32.wrap (linN s2 o2 : Int)) (by rw [wu32]; omega)
    have eA : (IntKind.u32.wrap (linN s2 o2 : Int) % 1048576).toNat = linN s2 o2 := by rw [wu32]; omega
    rw [eA] at a1 b1
    unfold tok at w1
    have ua := hU3 (linN s2 o2)
    have ub := hU3 (linN s2 (nxt o2))
    generalize fX (fun _ => 0) X3 (linN s2 o2) = fa at p1 w1 y1 a1 ua
    generalize fX (fun _ => 0) X3 (linN s2 (nxt o2)) = fb at p2 w1 ub
    generalize gX (fun _ => 0) X3 (linN s2 o2) = ga at p1 w1 y1 b1
    generalize gX (fun _ => 0) X3 (linN s2 (nxt o2)) = gb at p2 w1
    have hff : (fa != fa) = false := bne_self_eq_false fa
    have hvv : ((fa + 256 * fb) != IntKind.u16.wrap (IntKind.u16.wrap fa + IntKind.u16.wrap (256 * IntKind.u16.wrap fb))) = false := by
      unfold U8 at ua ub
      have e5 : IntKind.u16.wrap (IntKind.u16.wrap fa + IntKind.u16.wrap (256 * IntKind.u16.wrap fb)) = fa + 256 * fb := by
        rw [wu16 fa, wu16 fb, Int.emod_eq_of_lt (a := fa) (by omega) (by omega), Int.emod_eq_of_lt (a := fb) (by omega) (by omega), wu16 (256 * fb), Int.emod_eq_of_lt (a := 256 * fb) (by omega) (by omega), wu16]; omega
      rw [e5]; exact bne_self_eq_false _
    refine Ends.call p1 ?_
    conv => enter [1]; whnf
    refine Ends.call p2 ?_
    conv => enter [1]; whnf
    refine Ends.call w1 ?_
    conv => enter [1]; whnf
    refine Ends.forceN ?_
    conv => enter [1]; whnf
    refine Ends.forceLs ?_
    conv => enter [1]; whnf
    refine Ends.opt (loc_top _ _ _) ?_
    conv => enter [1]; whnf
    refine Ends.forceLs ?_
    conv => enter [1]; whnf
    refine Ends.call y1 ?_
    conv => enter [1]; whnf
    by_cases z1 : ga = 1
    · have e1 : (ga == 1) = true := beq_iff_eq.2 (by omega)
      have e0 : (ga == 0) = false := beq_eq_false_iff_ne.2 (by omega)
      try (first
        | (refine Ends.iteT (by first | (simp [hff, e1, e0, hvv]; done) | fail "open") ?_; conv => enter [1]; whnf)
        | (refine Ends.iteF (by first | (simp [hff, e1, e0, hvv]; done) | fail "open") ?_; conv => enter [1]; whnf))
      try (first
        | (refine Ends.iteT (by first | (simp [hff, e1, e0, hvv]; done) | fail "open") ?_; conv => enter [1]; whnf)
        | (refine Ends.iteF (by first | (simp [hff, e1, e0, hvv]; done) | fail "open") ?_; conv => enter [1]; whnf))
      try (first
        | (refine Ends.iteT (by first | (simp [hff, e1, e0, hvv]; done) | fail "open") ?_; conv => enter [1]; whnf)
        | (refine Ends.iteF (by first | (simp [hff, e1, e0, hvv]; done) | fail "open") ?_; conv => enter [1]; whnf))
      refine Ends.call a1 ?_
      conv => enter [1]; whnf
      try (first
        | (refine Ends.iteT (by first | (simp [hff, e1, e0, hvv]; done) | fail "open") ?_; conv => enter [1]; whnf)
        | (refine Ends.iteF (by first | (simp [hff, e1, e0, hvv]; done) | fail "open") ?_; conv => enter [1]; whnf))
      refine Ends.call b1 ?_
      conv => enter [1]; whnf
      try (first
        | (refine Ends.iteT (by first | (simp [hff, e1, e0, hvv]; done) | fail "open") ?_; conv => enter [1]; whnf)
        | (refine Ends.iteF (by first | (simp [hff, e1, e0, hvv]; done) | fail "open") ?_; conv => enter [1]; whnf))
      refine Ends.forceN ?_
      conv => enter [1]; whnf
      refine Ends.opt (loc_set _ _ _ _) ?_
      conv => enter [1]; whnf
      try (first
        | (refine Ends.iteT (by first | (simp [hff, e1, e0, hvv]; done) | fail "open") ?_; conv => enter [1]; whnf)
        | (refine Ends.iteF (by first | (simp [hff, e1, e0, hvv]; done) | fail "open") ?_; conv => enter [1]; whnf))
      refine Ends.forceN ?_
      conv => enter [1]; whnf
      refine Ends.opt (loc_set _ _ _ _) ?_
      conv => enter [1]; whnf
      try (first
        | (refine Ends.iteT (by first | (simp [hff, e1, e0, hvv]; done) | fail "open") ?_; conv => enter [1]; whnf)
        | (refine Ends.iteF (by first | (simp [hff, e1, e0, hvv]; done) | fail "open") ?_; conv => enter [1]; whnf))
      by_cases z2 : gb = 2
      · have d2 : (gb == 2) = true := beq_iff_eq.2 (by omega)
        repeat' (first
          | (refine Ends.iteT (by first | (simp [hff, e1, e0, d2, hvv]; done) | fail "open") ?_; conv => enter [1]; whnf)
          | (refine Ends.iteF (by first | (simp [hff, e1, e0, d2, hvv]; done) | fail "open") ?_; conv => enter [1]; whnf))
        refine hL _ ⟨j + 1, X3, r3, H3, _, by omega, by omega, by omega, h3, hr3, by omega, hGr, hU3, ?_, rfl⟩
        have e3 : IntKind.i64.wrap ((j : Int) + 1) = ((j + 1 : Nat) : Int) := by rw [w64]; omega
        rw [e3]
        rfl
      · have d2 : (gb == 2) = false := beq_eq_false_iff_ne.2 (by omega)
        repeat' (first
          | (refine Ends.iteT (by first | (simp [hff, e1, e0, d2, hvv]; done) | fail "open") ?_; conv => enter [1]; whnf)
          | (refine Ends.iteF (by first | (simp [hff, e1, e0, d2, hvv]; done) | fail "open") ?_; conv => enter [1]; whnf))
        refine hL _ ⟨j + 1, X3, r3, H3, _, by omega, by omega, by omega, h3, hr3, by omega, hGr, hU3, ?_, rfl⟩
        have e3 : IntKind.i64.wrap ((j : Int) + 1) = ((j + 1 : Nat) : Int) := by rw [w64]; omega
        rw [e3]
        rfl
    · have e1 : (ga == 1) = false := beq_eq_false_iff_ne.2 (by omega)
      try (first
        | (refine Ends.iteT (by first | (simp [hff, e1, hvv]; done) | fail "open") ?_; conv => enter [1]; whnf)
        | (refine Ends.iteF (by first | (simp [hff, e1, hvv]; done) | fail "open") ?_; conv => enter [1]; whnf))
      try (first
        | (refine Ends.iteT (by first | (simp [hff, e1, hvv]; done) | fail "open") ?_; conv => enter [1]; whnf)
        | (refine Ends.iteF (by first | (simp [hff, e1, hvv]; done) | fail "open") ?_; conv => enter [1]; whnf))
      try (first
        | (refine Ends.iteT (by first | (simp [hff, e1, hvv]; done) | fail "open") ?_; conv => enter [1]; whnf)
        | (refine Ends.iteF (by first | (simp [hff, e1, hvv]; done) | fail "open") ?_; conv => enter [1]; whnf))
      refine Ends.call a1 ?_
      conv => enter [1]; whnf
      try (first
        | (refine Ends.iteT (by first | (simp [hff, e1, hvv]; done) | fail "open") ?_; conv => enter [1]; whnf)
        | (refine Ends.iteF (by first | (simp [hff, e1, hvv]; done) | fail "open") ?_; conv => enter [1]; whnf))
      refine Ends.call b1 ?_
      conv => enter [1]; whnf
      try (first
        | (refine Ends.iteT (by first | (simp [hff, e1, hvv]; done) | fail "open") ?_; conv => enter [1]; whnf)
        | (refine Ends.iteF (by first | (simp [hff, e1, hvv]; done) | fail "open") ?_; conv => enter [1]; whnf))
      refine Ends.forceN ?_
      conv => enter [1]; whnf
      refine Ends.opt (loc_set _ _ _ _) ?_
      conv => enter [1]; whnf
      try (first
        | (refine Ends.iteT (by first | (simp [hff, e1, hvv]; done) | fail "open") ?_; conv => enter [1]; whnf)
        | (refine Ends.iteF (by first | (simp [hff, e1, hvv]; done) | fail "open") ?_; conv => enter [1]; whnf))
      refine Ends.forceN ?_
      conv => enter [1]; whnf
      refine Ends.opt (loc_set _ _ _ _) ?_
      conv => enter [1]; whnf
      try (first
        | (refine Ends.iteT (by first | (simp [hff, e1, hvv]; done) | fail "open") ?_; conv => enter [1]; whnf)
        | (refine Ends.iteF (by first | (simp [hff, e1, hvv]; done) | fail "open") ?_; conv => enter [1]; whnf))
      by_cases z0 : ga = 0
      · have e0 : (ga == 0) = true := beq_iff_eq.2 (by omega)
        repeat' (first
          | (refine Ends.iteT (by first | (simp [hff, e1, e0, hvv]; done) | fail "open") ?_; conv => enter [1]; whnf)
          | (refine Ends.iteF (by first | (simp [hff, e1, e0, hvv]; done) | fail "open") ?_; conv => enter [1]; whnf))
        refine hL _ ⟨j + 1, X3, r3, H3, _, by omega, by omega, by omega, h3, hr3, by omega, hGr, hU3, ?_, rfl⟩
        have e3 : IntKind.i64.wrap ((j : Int) + 1) = ((j + 1 : Nat) : Int) := by rw [w64]; omega
        rw [e3]
        rfl
      · have e0 : (ga == 0) = false := beq_eq_false_iff_ne.2 (by omega)
        repeat' (first
          | (refine Ends.iteT (by first | (simp [hff, e1, e0, hvv]; done) | fail "open") ?_; conv => enter [1]; whnf)
          | (refine Ends.iteF (by first | (simp [hff, e1, e0, hvv]; done) | fail "open") ?_; conv => enter [1]; whnf))
        refine hL _ ⟨j + 1, X3, r3, H3, _, by omega, by omega, by omega, h3, hr3, by omega, hGr, hU3, ?_, rfl⟩
        have e3 : IntKind.i64.wrap ((j : Int) + 1) = ((j + 1 : Nat) : Int) := by rw [w64]; omega
        rw [e3]
        rfl
  have q0 : ((a.w % 8) == 0) = false := beq_eq_false_iff_ne.2 k0
  rw [q0]
  conv => enter [1]; whnf
  by_cases k1 : a.w % 8 = 1
  · have q1 : ((a.w % 8) == 1) = true := beq_iff_eq.2 k1
    rw [q1]
    conv => enter [1]; whnf
    by_cases hT : a.t = true
    · rw [hT]
      refine Ends.forceN ?_
      conv => enter [1]; whnf
      refine Ends.opt (loc_set _ _ _ _) ?_
      conv => enter [1]; whnf
      refine Ends.forceN ?_
      conv => enter [1]; whnf
      refine Ends.opt (loc_set _ _ _ _) ?_
      conv => enter [1]; whnf
      have hms := msetw_F mk K lo (by omega) h (by omega) (by omega) s2 o2 a.v true us uo u3
      rw [if_pos rfl] at hms
      refine Ends.call hms ?_
      conv => enter [1]; whnf
      refine Ends.forceN ?_
      conv => enter [1]; whnf
      refine Ends.opt (loc_set _ _ _ _) ?_
      conv => enter [1]; whnf
      refine Ends.forceN ?_
      conv => enter [1]; whnf
      refine Ends.opt (loc_set _ _ _ _) ?_
      conv => enter [1]; whnf
      have e6 : IntKind.u8.wrap (a.v.tmod 256) = a.v % 256 := by unfold U16 at u3; rw [Int.tmod_eq_emod_of_nonneg u3.1, wu8]; omega
      have e7 : IntKind.u8.wrap (IntKind.u16.wrap (a.v.tdiv 256)) = a.v / 256 := by unfold U16 at u3; rw [Int.tdiv_eq_ediv_of_nonneg u3.1, wu16, wu8]; omega
      have hx : U8 (a.v % 256) := by unfold U8; omega
      have hy : U8 (a.v / 256) := by unfold U8; unfold U16 at u3; omega
      refine Ends.forceN ?_
      conv => enter [1]; whnf
      refine Ends.opt (loc_set _ _ _ _) ?_
      conv => enter [1]; whnf
      rw [e6, e7]
      refine Ends.forceN ?_
      conv => enter [1]; whnf
      refine Ends.forceLs ?_
      conv => enter [1]; whnf
      refine Ends.opt (sc_lo _ _ _ 2 rfl) ?_
      conv => enter [1]; whnf
      refine Ends.iteT (may_hp (by omega)) ?_
      conv => enter [1]; whnf
      refine Ends.iteT (decide_eq_true (by omega)) ?_
      conv => enter [1]; whnf
      refine Ends.opt (get_at ((putMem_ne N H2 _ _ (by omega) (by omega)).trans hr) _) ?_
      conv => enter [1]; whnf
      refine Ends.iteT (decide_eq_true (by rw [wrsV_len]; omega)) ?_
      conv => enter [1]; whnf
      refine Ends.force ?_
      have hL2 := putMem_len N H2 H.length (H.length + 1) (updI (updI (fX (fun _ => 0) X) (linN s2 o2) (a.v % 256)) (linN s2 (nxt o2)) (a.v / 256)) (updI (updI (updI (updI (gX (fun _ => 0) X) (linN s2 o2) 0) (linN s2 (nxt o2)) 0) (linN s2 o2) 1) (linN s2 (nxt o2)) 2)
      obtain ⟨X3, hX3⟩ : ∃ X3, X3 = X ++ [⟨linN s2 o2, a.v % 256, 1⟩, ⟨linN s2 (nxt o2), a.v / 256, 2⟩] := ⟨_, rfl⟩
      have hl3 : X.length + 2 = X3.length := by rw [hX3, List.length_append]; rfl
      have hF3 : fX (fun _ => 0) X3 = (updI (updI (fX (fun _ => 0) X) (linN s2 o2) (a.v % 256)) (linN s2 (nxt o2)) (a.v / 256)) := by rw [hX3, fX_append]; rfl
      have hG3' : gX (fun _ => 0) X3 = (updI (updI (updI (updI (gX (fun _ => 0) X) (linN s2 o2) 0) (linN s2 (nxt o2)) 0) (linN s2 o2) 1) (linN s2 (nxt o2)) 2) := by rw [hX3, gX_append]; exact (updI_over _ _ _).symm
      have h3 : HasMem N ((putMem N H2 H.length (H.length + 1) (updI (updI (fX (fun _ => 0) X) (linN s2 o2) (a.v % 256)) (linN s2 (nxt o2)) (a.v / 256)) (updI (updI (updI (updI (gX (fun _ => 0) X) (linN s2 o2) 0) (linN s2 (nxt o2)) 0) (linN s2 o2) 1) (linN s2 (nxt o2)) 2)).set r ⟨[], false⟩ ++ [(⟨dropN 0 (wrsV X) ++ [.int .i64 (linN s2 o2 : Int), .int .u8 (a.v % 256), .int .i64 1, .int .i64 (linN s2 (nxt o2) : Int), .int .u8 (a.v / 256), .int .i64 2], true⟩ : Blk)]) (H.length + 2) H.length (H.length + 1) (fX (fun _ => 0) X3) (gX (fun _ => 0) X3) := by rw [hF3, hG3']; exact (h.put _ _).ap _ _ (by omega) (by omega) (by omega)
      have hr3 : ((putMem N H2 H.length (H.length + 1) (updI (updI (fX (fun _ => 0) X) (linN s2 o2) (a.v % 256)) (linN s2 (nxt o2)) (a.v / 256)) (updI (updI (updI (updI (gX (fun _ => 0) X) (linN s2 o2) 0) (linN s2 (nxt o2)) 0) (linN s2 o2) 1) (linN s2 (nxt o2)) 2)).set r ⟨[], false⟩ ++ [(⟨dropN 0 (wrsV X) ++ [.int .i64 (linN s2 o2 : Int), .int .u8 (a.v % 256), .int .i64 1, .int .i64 (linN s2 (nxt o2) : Int), .int .u8 (a.v / 256), .int .i64 2], true⟩ : Blk)])[(putMem N H2 H.length (H.length + 1) (updI (updI (fX (fun _ => 0) X) (linN s2 o2) (a.v % 256)) (linN s2 (nxt o2)) (a.v / 256)) (updI (updI (updI (updI (gX (fun _ => 0) X) (linN s2 o2) 0) (linN s2 (nxt o2)) 0) (linN s2 o2) 1) (linN s2 (nxt o2)) 2)).length]? = some ⟨wrsV X3, true⟩ := by rw [snoc_top (by simp), hX3, wrsV_append]; rw [show dropN 0 (wrsV X) = wrsV X from drop0 _]; rfl
      have hGr : Grown H ((putMem N H2 H.length (H.length + 1) (updI (updI (fX (fun _ => 0) X) (linN s2 o2) (a.v % 256)) (linN s2 (nxt o2)) (a.v / 256)) (updI (updI (updI (updI (gX (fun _ => 0) X) (linN s2 o2) 0) (linN s2 (nxt o2)) 0) (linN s2 o2) 1) (linN s2 (nxt o2)) 2)).set r ⟨[], false⟩ ++ [(⟨dropN 0 (wrsV X) ++ [.int .i64 (linN s2 o2 : Int), .int .u8 (a.v % 256), .int .i64 1, .int .i64 (linN s2 (nxt o2) : Int), .int .u8 (a.v / 256), .int .i64 2], true⟩ : Blk)]) := ((putMem_grown hG (Nat.le_refl _) (by omega) _ _).set (by omega) _).trans (Grown.one _ _)
      have hU3 : ∀ i, U8 (fX (fun _ => 0) X3 i) := by rw [hF3]; exact u8_updI (u8_updI hU hx) hy
      have hr4 : H.length + 3 ≤ (putMem N H2 H.length (H.length + 1) (updI (updI (fX (fun _ => 0) X) (linN s2 o2) (a.v % 256)) (linN s2 (nxt o2)) (a.v / 256)) (updI (updI (updI (updI (gX (fun _ => 0) X) (linN s2 o2) 0) (linN s2 (nxt o2)) 0) (linN s2 o2) 1) (linN s2 (nxt o2)) 2)).length := by rw [hL2]; exact Nat.le_trans hrr (Nat.le_of_lt (at_lt hr))
      conv => enter [1]; whnf
      rw [hl3]
      generalize ((putMem N H2 H.length (H.length + 1) (updI (updI (fX (fun _ => 0) X) (linN s2 o2) (a.v % 256)) (linN s2 (nxt o2)) (a.v / 256)) (updI (updI (updI (updI (gX (fun _ => 0) X) (linN s2 o2) 0) (linN s2 (nxt o2)) 0) (linN s2 o2) 1) (linN s2 (nxt o2)) 2)).set r ⟨[], false⟩ ++ [(⟨dropN 0 (wrsV X) ++ [.int .i64 (linN s2 o2 : Int), .int .u8 (a.v % 256), .int .i64 1, .int .i64 (linN s2 (nxt o2) : Int), .int .u8 (a.v / 256), .int .i64 2], true⟩ : Blk)]) = H3 at *
      generalize (putMem N H2 H.length (H.length + 1) (updI (updI (fX (fun _ => 0) X) (linN s2 o2) (a.v % 256)) (linN s2 (nxt o2)) (a.v / 256)) (updI (updI (updI (updI (gX (fun _ => 0) X) (linN s2 o2) 0) (linN s2 (nxt o2)) 0) (linN s2 o2) 1) (linN s2 (nxt o2)) 2)).length = r3 at *
      clear hF3 hG3'
      have p1 := pget_F mk K lo X3 r3 (linN s2 o2) hA (by omega) (by omega) H3 hr3
      have p2 := pget_F mk K lo X3 r3 (linN s2 (nxt o2)) hB (by omega) (by omega) H3 hr3
      have w1 := mword_F mk K lo (by omega) h3 hU3 s2 o2 us uo
      have y1 := mbyte_F mk K lo (by omega) h3 s2 o2 us uo
      have a1 := mat_F mk K lo (by omega) h3 (IntKind.u32.wrap (linN s2 o2 : Int)) (by rw [wu32]; omega)
      have b1 := mplain_F mk K lo (by omega) h3 (IntKind.u32.wrap (linN s2 o2 : Int)) (by rw [wu32]; omega)
      have eA : (IntKind.u32.wrap (linN s2 o2 : Int) % 1048576).toNat = linN s2 o2 := by rw [wu32]; omega
      rw [eA] at a1 b1
      unfold tok at w1
      have ua := hU3 (linN s2 o2)
      have ub := hU3 (linN s2 (nxt o2))
      generalize fX (fun _ => 0) X3 (linN s2 o2) = fa at p1 w1 y1 a1 ua
      generalize fX (fun _ => 0) X3 (linN s2 (nxt o2)) = fb at p2 w1 ub
      generalize gX (fun _ => 0) X3 (linN s2 o2) = ga at p1 w1 y1 b1
      generalize gX (fun _ => 0) X3 (linN s2 (nxt o2)) = gb at p2 w1
      have hff : (fa != fa) = false := bne_self_eq_false fa
      have hvv : ((fa + 256 * fb) != IntKind.u16.wrap (IntKind.u16.wrap fa + IntKind.u16.wrap (256 * IntKind.u16.wrap fb))) = false := by
        unfold U8 at ua ub
        have e5 : IntKind.u16.wrap (IntKind.u16.wrap fa + IntKind.u16.wrap (256 * IntKind.u16.wrap fb)) = fa + 256 * fb := by
          rw [wu16 fa, wu16 fb, Int.emod_eq_of_lt (a := fa) (by omega) (by omega), Int.emod_eq_of_lt (a := fb) (by omega) (by omega), wu16 (256 * fb), Int.emod_eq_of_lt (a := 256 * fb) (by omega) (by omega), wu16]; omega
        rw [e5]; exact bne_self_eq_false _
      refine Ends.call p1 ?_
      conv => enter [1]; whnf
      refine Ends.call p2 ?_
      conv => enter [1]; whnf
      refine Ends.call w1 ?_
      conv => enter [1]; whnf
      refine Ends.forceN ?_
      conv => enter [1]; whnf
      refine Ends.forceLs ?_
      conv => enter [1]; whnf
      refine Ends.opt (loc_top _ _ _) ?_
      conv => enter [1]; whnf
      refine Ends.forceLs ?_
      conv => enter [1]; whnf
      refine Ends.call y1 ?_
      conv => enter [1]; whnf
      by_cases z1 : ga = 1
      · have e1 : (ga == 1) = true := beq_iff_eq.2 (by omega)
        have e0 : (ga == 0) = false := beq_eq_false_iff_ne.2 (by omega)
        try (first
          | (refine Ends.iteT (by first | (simp [hff, e1, e0, hvv]; done) | fail "open") ?_; conv => enter [1]; whnf)
          | (refine Ends.iteF (by first | (simp [hff, e1, e0, hvv]; done) | fail "open") ?_; conv => enter [1]; whnf))
        try (first
          | (refine Ends.iteT (by first | (simp [hff, e1, e0, hvv]; done) | fail "open") ?_; conv => enter [1]; whnf)
          | (refine Ends.iteF (by first | (simp [hff, e1, e0, hvv]; done) | fail "open") ?_; conv => enter [1]; whnf))
        try (first
          | (refine Ends.iteT (by first | (simp [hff, e1, e0, hvv]; done) | fail "open") ?_; conv => enter [1]; whnf)
          | (refine Ends.iteF (by first | (simp [hff, e1, e0, hvv]; done) | fail "open") ?_; conv => enter [1]; whnf))
        refine Ends.call a1 ?_
        conv => enter [1]; whnf
        try (first
          | (refine Ends.iteT (by first | (simp [hff, e1, e0, hvv]; done) | fail "open") ?_; conv => enter [1]; whnf)
          | (refine Ends.iteF (by first | (simp [hff, e1, e0, hvv]; done) | fail "open") ?_; conv => enter [1]; whnf))
        refine Ends.call b1 ?_
        conv => enter [1]; whnf
        try (first
          | (refine Ends.iteT (by first | (simp [hff, e1, e0, hvv]; done) | fail "open") ?_; conv => enter [1]; whnf)
          | (refine Ends.iteF (by first | (simp [hff, e1, e0, hvv]; done) | fail "open") ?_; conv => enter [1]; whnf))
        refine Ends.forceN ?_
        conv => enter [1]; whnf
        refine Ends.opt (loc_set _ _ _ _) ?_
        conv => enter [1]; whnf
        try (first
          | (refine Ends.iteT (by first | (simp [hff, e1, e0, hvv]; done) | fail "open") ?_; conv => enter [1]; whnf)
          | (refine Ends.iteF (by first | (simp [hff, e1, e0, hvv]; done) | fail "open") ?_; conv => enter [1]; whnf))
        refine Ends.forceN ?_
        conv => enter [1]; whnf
        refine Ends.opt (loc_set _ _ _ _) ?_
        conv => enter [1]; whnf
        try (first
          | (refine Ends.iteT (by first | (simp [hff, e1, e0, hvv]; done) | fail "open") ?_; conv => enter [1]; whnf)
          | (refine Ends.iteF (by first | (simp [hff, e1, e0, hvv]; done) | fail "open") ?_; conv => enter [1]; whnf))
        by_cases z2 : gb = 2
        · have d2 : (gb == 2) = true := beq_iff_eq.2 (by omega)
          repeat' (first
            | (refine Ends.iteT (by first | (simp [hff, e1, e0, d2, hvv]; done) | fail "open") ?_; conv => enter [1]; whnf)
            | (refine Ends.iteF (by first | (simp [hff, e1, e0, d2, hvv]; done) | fail "open") ?_; conv => enter [1]; whnf))
          refine hL _ ⟨j + 1, X3, r3, H3, _, by omega, by omega, by omega, h3, hr3, by omega, hGr, hU3, ?_, rfl⟩
          have e3 : IntKind.i64.wrap ((j : Int) + 1) = ((j + 1 : Nat) : Int) := by rw [w64]; omega
          rw [e3]
          rfl
        · have d2 : (gb == 2) = false := beq_eq_false_iff_ne.2 (by omega)
          repeat' (first
            | (refine Ends.iteT (by first | (simp [hff, e1, e0, d2, hvv]; done) | fail "open") ?_; conv => enter [1]; whnf)
            | (refine Ends.iteF (by first | (simp [hff, e1, e0, d2, hvv]; done) | fail "open") ?_; conv => enter [1]; whnf))
          refine hL _ ⟨j + 1, X3, r3, H3, _, by omega, by omega, by omega, h3, hr3, by omega, hGr, hU3, ?_, rfl⟩
          have e3 : IntKind.i64.wrap ((j : Int) + 1) = ((j + 1 : Nat) : Int) := by rw [w64]; omega
          rw [e3]
          rfl
      · have e1 : (ga == 1) = false := beq_eq_false_iff_ne.2 (by omega)
        try (first
          | (refine Ends.iteT (by first | (simp [hff, e1, hvv]; done) | fail "open") ?_; conv => enter [1]; whnf)
          | (refine Ends.iteF (by first | (simp [hff, e1, hvv]; done) | fail "open") ?_; conv => enter [1]; whnf))
        try (first
          | (refine Ends.iteT (by first | (simp [hff, e1, hvv]; done) | fail "open") ?_; conv => enter [1]; whnf)
          | (refine Ends.iteF (by first | (simp [hff, e1, hvv]; done) | fail "open") ?_; conv => enter [1]; whnf))
        try (first
          | (refine Ends.iteT (by first | (simp [hff, e1, hvv]; done) | fail "open") ?_; conv => enter [1]; whnf)
          | (refine Ends.iteF (by first | (simp [hff, e1, hvv]; done) | fail "open") ?_; conv => enter [1]; whnf))
        refine Ends.call a1 ?_
        conv => enter [1]; whnf
        try (first
          | (refine Ends.iteT (by first | (simp [hff, e1, hvv]; done) | fail "open") ?_; conv => enter [1]; whnf)
          | (refine Ends.iteF (by first | (simp [hff, e1, hvv]; done) | fail "open") ?_; conv => enter [1]; whnf))
        refine Ends.call b1 ?_
        conv => enter [1]; whnf
        try (first
          | (refine Ends.iteT (by first | (simp [hff, e1, hvv]; done) | fail "open") ?_; conv => enter [1]; whnf)
          | (refine Ends.iteF (by first | (simp [hff, e1, hvv]; done) | fail "open") ?_; conv => enter [1]; whnf))
        refine Ends.forceN ?_
        conv => enter [1]; whnf
        refine Ends.opt (loc_set _ _ _ _) ?_
        conv => enter [1]; whnf
        try (first
          | (refine Ends.iteT (by first | (simp [hff, e1, hvv]; done) | fail "open") ?_; conv => enter [1]; whnf)
          | (refine Ends.iteF (by first | (simp [hff, e1, hvv]; done) | fail "open") ?_; conv => enter [1]; whnf))
        refine Ends.forceN ?_
        conv => enter [1]; whnf
        refine Ends.opt (loc_set _ _ _ _) ?_
        conv => enter [1]; whnf
        try (first
          | (refine Ends.iteT (by first | (simp [hff, e1, hvv]; done) | fail "open") ?_; conv => enter [1]; whnf)
          | (refine Ends.iteF (by first | (simp [hff, e1, hvv]; done) | fail "open") ?_; conv => enter [1]; whnf))
        by_cases z0 : ga = 0
        · have e0 : (ga == 0) = true := beq_iff_eq.2 (by omega)
          repeat' (first
            | (refine Ends.iteT (by first | (simp [hff, e1, e0, hvv]; done) | fail "open") ?_; conv => enter [1]; whnf)
            | (refine Ends.iteF (by first | (simp [hff, e1, e0, hvv]; done) | fail "open") ?_; conv => enter [1]; whnf))
          refine hL _ ⟨j + 1, X3, r3, H3, _, by omega, by omega, by omega, h3, hr3, by omega, hGr, hU3, ?_, rfl⟩
          have e3 : IntKind.i64.wrap ((j : Int) + 1) = ((j + 1 : Nat) : Int) := by rw [w64]; omega
          rw [e3]
          rfl
        · have e0 : (ga == 0) = false := beq_eq_false_iff_ne.2 (by omega)
          repeat' (first
            | (refine Ends.iteT (by first | (simp [hff, e1, e0, hvv]; done) | fail "open") ?_; conv => enter [1]; whnf)
            | (refine Ends.iteF (by first | (simp [hff, e1, e0, hvv]; done) | fail "open") ?_; conv => enter [1]; whnf))
          refine hL _ ⟨j + 1, X3, r3, H3, _, by omega, by omega, by omega, h3, hr3, by omega, hGr, hU3, ?_, rfl⟩
          have e3 : IntKind.i64.wrap ((j : Int) + 1) = ((j + 1 : Nat) : Int) := by rw [w64]; omega
          rw [e3]
          rfl
    replace hT : a.t = false := by simpa using hT
    rw [hT]
    refine Ends.forceN ?_
    conv => enter [1]; whnf
    refine Ends.opt (loc_set _ _ _ _) ?_
    conv => enter [1]; whnf
    refine Ends.forceN ?_
    conv => enter [1]; whnf
    refine Ends.opt (loc_set _ _ _ _) ?_
    conv => enter [1]; whnf
    have hms := msetw_F mk K lo (by omega) h (by omega) (by omega) s2 o2 a.v false us uo u3
    rw [if_neg (by decide)] at hms
    refine Ends.call hms ?_
    conv => enter [1]; whnf
    refine Ends.forceN ?_
    conv => enter [1]; whnf
    refine Ends.opt (loc_set _ _ _ _) ?_
    conv => enter [1]; whnf
    refine Ends.forceN ?_
    conv => enter [1]; whnf
    refine Ends.opt (loc_set _ _ _ _) ?_
    conv => enter [1]; whnf
    have e6 : IntKind.u8.wrap (a.v.tmod 256) = a.v % 256 := by unfold U16 at u3; rw [Int.tmod_eq_emod_of_nonneg u3.1, wu8]; omega
    have e7 : IntKind.u8.wrap (IntKind.u16.wrap (a.v.tdiv 256)) = a.v / 256 := by unfold U16 at u3; rw [Int.tdiv_eq_ediv_of_nonneg u3.1, wu16, wu8]; omega
    have hx : U8 (a.v % 256) := by unfold U8; omega
    have hy : U8 (a.v / 256) := by unfold U8; unfold U16 at u3; omega
    refine Ends.forceN ?_
    conv => enter [1]; whnf
    refine Ends.opt (loc_set _ _ _ _) ?_
    conv => enter [1]; whnf
    rw [e6, e7]
    refine Ends.forceN ?_
    conv => enter [1]; whnf
    refine Ends.forceLs ?_
    conv => enter [1]; whnf
    refine Ends.opt (sc_lo _ _ _ 2 rfl) ?_
    conv => enter [1]; whnf
    refine Ends.iteT (may_hp (by omega)) ?_
    conv => enter [1]; whnf
    refine Ends.iteT (decide_eq_true (by omega)) ?_
    conv => enter [1]; whnf
    refine Ends.opt (get_at ((putMem_ne N H2 _ _ (by omega) (by omega)).trans hr) _) ?_
    conv => enter [1]; whnf
    refine Ends.iteT (decide_eq_true (by rw [wrsV_len]; omega)) ?_
    conv => enter [1]; whnf
    refine Ends.force ?_
    have hL2 := putMem_len N H2 H.length (H.length + 1) (updI (updI (fX (fun _ => 0) X) (linN s2 o2) (a.v % 256)) (linN s2 (nxt o2)) (a.v / 256)) (updI (updI (gX (fun _ => 0) X) (linN s2 o2) 0) (linN s2 (nxt o2)) 0)
    obtain ⟨X3, hX3⟩ : ∃ X3, X3 = X ++ [⟨linN s2 o2, a.v % 256, 0⟩, ⟨linN s2 (nxt o2), a.v / 256, 0⟩] := ⟨_, rfl⟩
    have hl3 : X.length + 2 = X3.length := by rw [hX3, List.length_append]; rfl
    have hF3 : fX (fun _ => 0) X3 = (updI (updI (fX (fun _ => 0) X) (linN s2 o2) (a.v % 256)) (linN s2 (nxt o2)) (a.v / 256)) := by rw [hX3, fX_append]; rfl
    have hG3' : gX (fun _ => 0) X3 = (updI (updI (gX (fun _ => 0) X) (linN s2 o2) 0) (linN s2 (nxt o2)) 0) := by rw [hX3, gX_append]; rfl
    have h3 : HasMem N ((putMem N H2 H.length (H.length + 1) (updI (updI (fX (fun _ => 0) X) (linN s2 o2) (a.v % 256)) (linN s2 (nxt o2)) (a.v / 256)) (updI (updI (gX (fun _ => 0) X) (linN s2 o2) 0) (linN s2 (nxt o2)) 0)).set r ⟨[], false⟩ ++ [(⟨dropN 0 (wrsV X) ++ [.int .i64 (linN s2 o2 : Int), .int .u8 (a.v % 256), .int .i64 0, .int .i64 (linN s2 (nxt o2) : Int), .int .u8 (a.v / 256), .int .i64 0], true⟩ : Blk)]) (H.length + 2) H.length (H.length + 1) (fX (fun _ => 0) X3) (gX (fun _ => 0) X3) := by rw [hF3, hG3']; exact (h.put _ _).ap _ _ (by omega) (by omega) (by omega)
    have hr3 : ((putMem N H2 H.length (H.length + 1) (updI (updI (fX (fun _ => 0) X) (linN s2 o2) (a.v % 256)) (linN s2 (nxt o2)) (a.v / 256)) (updI (updI (gX (fun _ => 0) X) (linN s2 o2) 0) (linN s2 (nxt o2)) 0)).set r ⟨[], false⟩ ++ [(⟨dropN 0 (wrsV X) ++ [.int .i64 (linN s2 o2 : Int), .int .u8 (a.v % 256), .int .i64 0, .int .i64 (linN s2 (nxt o2) : Int), .int .u8 (a.v / 256), .int .i64 0], true⟩ : Blk)])[(putMem N H2 H.length (H.length + 1) (updI (updI (fX (fun _ => 0) X) (linN s2 o2) (a.v % 256)) (linN s2 (nxt o2)) (a.v / 256)) (updI (updI (gX (fun _ => 0) X) (linN s2 o2) 0) (linN s2 (nxt o2)) 0)).length]? = some ⟨wrsV X3, true⟩ := by rw [snoc_top (by simp), hX3, wrsV_append]; rw [show dropN 0 (wrsV X) = wrsV X from drop0 _]; rfl
    have hGr : Grown H ((putMem N H2 H.length (H.length + 1) (updI (updI (fX (fun _ => 0) X) (linN s2 o2) (a.v % 256)) (linN s2 (nxt o2)) (a.v / 256)) (updI (updI (gX (fun _ => 0) X) (linN s2 o2) 0) (linN s2 (nxt o2)) 0)).set r ⟨[], false⟩ ++ [(⟨dropN 0 (wrsV X) ++ [.int .i64 (linN s2 o2 : Int), .int .u8 (a.v % 256), .int .i64 0, .int .i64 (linN s2 (nxt o2) : Int), .int .u8 (a.v / 256), .int .i64 0], true⟩ : Blk)]) := ((putMem_grown hG (Nat.le_refl _) (by omega) _ _).set (by omega) _).trans (Grown.one _ _)
    have hU3 : ∀ i, U8 (fX (fun _ => 0) X3 i) := by rw [hF3]; exact u8_updI (u8_updI hU hx) hy
    have hr4 : H.length + 3 ≤ (putMem N H2 H.length (H.length + 1) (updI (updI (fX (fun _ => 0) X) (linN s2 o2) (a.v % 256)) (linN s2 (nxt o2)) (a.v / 256)) (updI (updI (gX (fun _ => 0) X) (linN s2 o2) 0) (linN s2 (nxt o2)) 0)).length := by rw [hL2]; exact Nat.le_trans hrr (Nat.le_of_lt (at_lt hr))
    conv => enter [1]; whnf
    rw [hl3]
    generalize ((putMem N H2 H.length (H.length + 1) (updI (updI (fX (fun _ => 0) X) (linN s2 o2) (a.v % 256)) (linN s2 (nxt o2)) (a.v / 256)) (updI (updI (gX (fun _ => 0) X) (linN s2 o2) 0) (linN s2 (nxt o2)) 0)).set r ⟨[], false⟩ ++ [(⟨dropN 0 (wrsV X) ++ [.int .i64 (linN s2 o2 : Int), .int .u8 (a.v % 256), .int .i64 0, .int .i64 (linN s2 (nxt o2) : Int), .int .u8 (a.v / 256), .int .i64 0], true⟩ : Blk)]) = H3 at *
    generalize (putMem N H2 H.length (H.length + 1) (updI (updI (fX (fun _ => 0) X) (linN s2 o2) (a.v % 256)) (linN s2 (nxt o2)) (a.v / 256)) (updI (updI (gX (fun _ => 0) X) (linN s2 o2) 0) (linN s2 (nxt o2)) 0)).length = r3 at *
    clear hF3 hG3'
    have p1 := pget_F mk K lo X3 r3 (linN s2 o2) hA (by omega) (by omega) H3 hr3
    have p2 := pget_F mk K lo X3 r3 (linN s2 (nxt o2)) hB (by omega) (by omega) H3 hr3
    have w1 := mword_F mk K lo (by omega) h3 hU3 s2 o2 us uo
    have y1 := mbyte_F mk K lo (by omega) h3 s2 o2 us uo
    have a1 := mat_F mk K lo (by omega) h3 (IntKind.u32.wrap (linN s2 o2 : Int)) (by rw [wu32]; omega)
    have b1 := mplain_F mk K lo (by omega) h3 (IntKind.u32.wrap (linN s2 o2 : Int)) (by rw [wu32]; omega)
    have eA : (IntKind.u32.wrap (linN s2 o2 : Int) % 1048576).toNat = linN s2 o2 := by rw [wu32]; omega
    rw [eA] at a1 b1
    unfold tok at w1
    have ua := hU3 (linN s2 o2)
    have ub := hU3 (linN s2 (nxt o2))
    generalize fX (fun _ => 0) X3 (linN s2 o2) = fa at p1 w1 y1 a1 ua
    generalize fX (fun _ => 0) X3 (linN s2 (nxt o2)) = fb at p2 w1 ub
    generalize gX (fun _ => 0) X3 (linN s2 o2) = ga at p1 w1 y1 b1
    generalize gX (fun _ => 0) X3 (linN s2 (nxt o2)) = gb at p2 w1
    have hff : (fa != fa) = false := bne_self_eq_false fa
    have hvv : ((fa + 256 * fb) != IntKind.u16.wrap (IntKind.u16.wrap fa + IntKind.u16.wrap (256 * IntKind.u16.wrap fb))) = false := by
      unfold U8 at ua ub
      have e5 : IntKind.u16.wrap (IntKind.u16.wrap fa + IntKind.u16.wrap (256 * IntKind.u16.wrap fb)) = fa + 256 * fb := by
        rw [wu16 fa, wu16 fb, Int.emod_eq_of_lt (a := fa) (by omega) (by omega), Int.emod_eq_of_lt (a := fb) (by omega) (by omega), wu16 (256 * fb), Int.emod_eq_of_lt (a := 256 * fb) (by omega) (by omega), wu16]; omega
      rw [e5]; exact bne_self_eq_false _
    refine Ends.call p1 ?_
    conv => enter [1]; whnf
    refine Ends.call p2 ?_
    conv => enter [1]; whnf
    refine Ends.call w1 ?_
    conv => enter [1]; whnf
    refine Ends.forceN ?_
    conv => enter [1]; whnf
    refine Ends.forceLs ?_
    conv => enter [1]; whnf
    refine Ends.opt (loc_top _ _ _) ?_
    conv => enter [1]; whnf
    refine Ends.forceLs ?_
    conv => enter [1]; whnf
    refine Ends.call y1 ?_
    conv => enter [1]; whnf
    by_cases z1 : ga = 1
    · have e1 : (ga == 1) = true := beq_iff_eq.2 (by omega)
      have e0 : (ga == 0) = false := beq_eq_false_iff_ne.2 (by omega)
      try (first
        | (refine Ends.iteT (by first | (simp [hff, e1, e0, hvv]; done) | fail "open") ?_; conv => enter [1]; whnf)
        | (refine Ends.iteF (by first | (simp [hff, e1, e0, hvv]; done) | fail "open") ?_; conv => enter [1]; whnf))
      try (first
        | (refine Ends.iteT (by first | (simp [hff, e1, e0, hvv]; done) | fail "open") ?_; conv => enter [1]; whnf)
        | (refine Ends.iteF (by first | (simp [hff, e1, e0, hvv]; done) | fail "open") ?_; conv => enter [1]; whnf))
      try (first
        | (refine Ends.iteT (by first | (simp [hff, e1, e0, hvv]; done) | fail "open") ?_; conv => enter [1]; whnf)
        | (refine Ends.iteF (by first | (simp [hff, e1, e0, hvv]; done) | fail "open") ?_; conv => enter [1]; whnf))
      refine Ends.call a1 ?_
      conv => enter [1]; whnf
      try (first
        | (refine Ends.iteT (by first | (simp [hff, e1, e0, hvv]; done) | fail "open") ?_; conv => enter [1]; whnf)
        | (refine Ends.iteF (by first | (simp [hff, e1, e0, hvv]; done) | fail "open") ?_; conv => enter [1]; whnf))
      refine Ends.call b1 ?_
      conv => enter [1]; whnf
      try (first
        | (refine Ends.iteT (by first | (simp [hff, e1, e0, hvv]; done) | fail "open") ?_; conv => enter [1]; whnf)
        | (refine Ends.iteF (by first | (simp [hff, e1, e0, hvv]; done) | fail "open") ?_; conv => enter [1]; whnf))
      refine Ends.forceN ?_
      conv => enter [1]; whnf
      refine Ends.opt (loc_set _ _ _ _) ?_
      conv => enter [1]; whnf
      try (first
        | (refine Ends.iteT (by first | (simp [hff, e1, e0, hvv]; done) | fail "open") ?_; conv => enter [1]; whnf)
        | (refine Ends.iteF (by first | (simp [hff, e1, e0, hvv]; done) | fail "open") ?_; conv => enter [1]; whnf))
      refine Ends.forceN ?_
      conv => enter [1]; whnf
      refine Ends.opt (loc_set _ _ _ _) ?_
      conv => enter [1]; whnf
      try (first
        | (refine Ends.iteT (by first | (simp [hff, e1, e0, hvv]; done) | fail "open") ?_; conv => enter [1]; whnf)
        | (refine Ends.iteF (by first | (simp [hff, e1, e0, hvv]; done) | fail "open") ?_; conv => enter [1]; whnf))
      by_cases z2 : gb = 2
      · have d2 : (gb == 2) = true := beq_iff_eq.2 (by omega)
        repeat' (first
          | (refine Ends.iteT (by first | (simp [hff, e1, e0, d2, hvv]; done) | fail "open") ?_; conv => enter [1]; whnf)
          | (refine Ends.iteF (by first | (simp [hff, e1, e0, d2, hvv]; done) | fail "open") ?_; conv => enter [1]; whnf))
        refine hL _ ⟨j + 1, X3, r3, H3, _, by omega, by omega, by omega, h3, hr3, by omega, hGr, hU3, ?_, rfl⟩
        have e3 : IntKind.i64.wrap ((j : Int) + 1) = ((j + 1 : Nat) : Int) := by rw [w64]; omega
        rw [e3]
        rfl
      · have d2 : (gb == 2) = false := beq_eq_false_iff_ne.2 (by omega)
        repeat' (first
          | (refine Ends.iteT (by first | (simp [hff, e1, e0, d2, hvv]; done) | fail "open") ?_; conv => enter [1]; whnf)
          | (refine Ends.iteF (by first | (simp [hff, e1, e0, d2, hvv]; done) | fail "open") ?_; conv => enter [1]; whnf))
        refine hL _ ⟨j + 1, X3, r3, H3, _, by omega, by omega, by omega, h3, hr3, by omega, hGr, hU3, ?_, rfl⟩
        have e3 : IntKind.i64.wrap ((j : Int) + 1) = ((j + 1 : Nat) : Int) := by rw [w64]; omega
        rw [e3]
        rfl
    · have e1 : (ga == 1) = false := beq_eq_false_iff_ne.2 (by omega)
      try (first
        | (refine Ends.iteT (by first | (simp [hff, e1, hvv]; done) | fail "open") ?_; conv => enter [1]; whnf)
        | (refine Ends.iteF (by first | (simp [hff, e1, hvv]; done) | fail "open") ?_; conv => enter [1]; whnf))
      try (first
        | (refine Ends.iteT (by first | (simp [hff, e1, hvv]; done) | fail "open") ?_; conv => enter [1]; whnf)
        | (refine Ends.iteF (by first | (simp [hff, e1, hvv]; done) | fail "open") ?_; conv => enter [1]; whnf))
      try (first
        | (refine Ends.iteT (by first | (simp [hff, e1, hvv]; done) | fail "open") ?_; conv => enter [1]; whnf)
        | (refine Ends.iteF (by first | (simp [hff, e1, hvv]; done) | fail "open") ?_; conv => enter [1]; whnf))
      refine Ends.call a1 ?_
      conv => enter [1]; whnf
      try (first
        | (refine Ends.iteT (by first | (simp [hff, e1, hvv]; done) | fail "open") ?_; conv => enter [1]; whnf)
        | (refine Ends.iteF (by first | (simp [hff, e1, hvv]; done) | fail "open") ?_; conv => enter [1]; whnf))
      refine Ends.call b1 ?_
      conv => enter [1]; whnf
      try (first
        | (refine Ends.iteT (by first | (simp [hff, e1, hvv]; done) | fail "open") ?_; conv => enter [1]; whnf)
        | (refine Ends.iteF (by first | (simp [hff, e1, hvv]; done) | fail "open") ?_; conv => enter [1]; whnf))
      refine Ends.forceN ?_
      conv => enter [1]; whnf
      refine Ends.opt (loc_set _ _ _ _) ?_
      conv => enter [1]; whnf
      try (first
        | (refine Ends.iteT (by first | (simp [hff, e1, hvv]; done) | fail "open") ?_; conv => enter [1]; whnf)
        | (refine Ends.iteF (by first | (simp [hff, e1, hvv]; done) | fail "open") ?_; conv => enter [1]; whnf))
      refine Ends.forceN ?_
      conv => enter [1]; whnf
      refine Ends.opt (loc_set _ _ _ _) ?_
      conv => enter [1]; whnf
      try (first
        | (refine Ends.iteT (by first | (simp [hff, e1, hvv]; done) | fail "open") ?_; conv => enter [1]; whnf)
        | (refine Ends.iteF (by first | (simp [hff, e1, hvv]; done) | fail "open") ?_; conv => enter [1]; whnf))
      by_cases z0 : ga = 0
      · have e0 : (ga == 0) = true := beq_iff_eq.2 (by omega)
        repeat' (first
          | (refine Ends.iteT (by first | (simp [hff, e1, e0, hvv]; done) | fail "open") ?_; conv => enter [1]; whnf)
          | (refine Ends.iteF (by first | (simp [hff, e1, e0, hvv]; done) | fail "open") ?_; conv => enter [1]; whnf))
        refine hL _ ⟨j + 1, X3, r3, H3, _, by omega, by omega, by omega, h3, hr3, by omega, hGr, hU3, ?_, rfl⟩
        have e3 : IntKind.i64.wrap ((j : Int) + 1) = ((j + 1 : Nat) : Int) := by rw [w64]; omega
        rw [e3]
        rfl
      · have e0 : (ga == 0) = false := beq_eq_false_iff_ne.2 (by omega)
        repeat' (first
          | (refine Ends.iteT (by first | (simp [hff, e1, e0, hvv]; done) | fail "open") ?_; conv => enter [1]; whnf)
          | (refine Ends.iteF (by first | (simp [hff, e1, e0, hvv]; done) | fail "open") ?_; conv => enter [1]; whnf))
        refine hL _ ⟨j + 1, X3, r3, H3, _, by omega, by omega, by omega, h3, hr3, by omega, hGr, hU3, ?_, rfl⟩
        have e3 : IntKind.i64.wrap ((j : Int) + 1) = ((j + 1 : Nat) : Int) := by rw [w64]; omega
        rw [e3]
        rfl
  have q1 : ((a.w % 8) == 1) = false := beq_eq_false_iff_ne.2 k1
  rw [q1]
  conv => enter [1]; whnf
  by_cases k2 : a.w % 8 = 2
  · have q2 : ((a.w % 8) == 2) = true := beq_iff_eq.2 k2
    rw [q2]
    conv => enter [1]; whnf
    refine Ends.forceN ?_
    conv => enter [1]; whnf
    refine Ends.opt (loc_set _ _ _ _) ?_
    conv => enter [1]; whnf
    refine Ends.call (msetb_F mk K lo (by omega) h (by omega) (by omega) s2 o2 (IntKind.u8.wrap a.v) us uo) ?_
    conv => enter [1]; whnf
    refine Ends.forceN ?_
    conv => enter [1]; whnf
    refine Ends.opt (loc_set _ _ _ _) ?_
    conv => enter [1]; whnf
    refine Ends.forceN ?_
    conv => enter [1]; whnf
    refine Ends.forceLs ?_
    conv => enter [1]; whnf
    refine Ends.opt (sc_lo _ _ _ 1 rfl) ?_
    conv => enter [1]; whnf
    refine Ends.iteT (may_hp (by omega)) ?_
    conv => enter [1]; whnf
    refine Ends.iteT (decide_eq_true (by omega)) ?_
    conv => enter [1]; whnf
    refine Ends.opt (get_at ((putMem_ne N H2 _ _ (by omega) (by omega)).trans hr) _) ?_
    conv => enter [1]; whnf
    refine Ends.iteT (decide_eq_true (by rw [wrsV_len]; omega)) ?_
    conv => enter [1]; whnf
    refine Ends.force ?_
    have hL2 := putMem_len N H2 H.length (H.length + 1) (updI (fX (fun _ => 0) X) (linN s2 o2) (IntKind.u8.wrap a.v)) (updI (gX (fun _ => 0) X) (linN s2 o2) 0)
    obtain ⟨X3, hX3⟩ : ∃ X3, X3 = X ++ [⟨linN s2 o2, IntKind.u8.wrap a.v, 0⟩] := ⟨_, rfl⟩
    have hl3 : X.length + 1 = X3.length := by rw [hX3, List.length_append]; rfl
    have hF3 : fX (fun _ => 0) X3 = (updI (fX (fun _ => 0) X) (linN s2 o2) (IntKind.u8.wrap a.v)) := by rw [hX3, fX_append]; rfl
    have hG3' : gX (fun _ => 0) X3 = (updI (gX (fun _ => 0) X) (linN s2 o2) 0) := by rw [hX3, gX_append]; rfl
    have h3 : HasMem N ((putMem N H2 H.length (H.length + 1) (updI (fX (fun _ => 0) X) (linN s2 o2) (IntKind.u8.wrap a.v)) (updI (gX (fun _ => 0) X) (linN s2 o2) 0)).set r ⟨[], false⟩ ++ [(⟨dropN 0 (wrsV X) ++ [.int .i64 (linN s2 o2 : Int), .int .u8 (IntKind.u8.wrap a.v), .int .i64 0], true⟩ : Blk)]) (H.length + 2) H.length (H.length + 1) (fX (fun _ => 0) X3) (gX (fun _ => 0) X3) := by rw [hF3, hG3']; exact (h.put _ _).ap _ _ (by omega) (by omega) (by omega)
    have hr3 : ((putMem N H2 H.length (H.length + 1) (updI (fX (fun _ => 0) X) (linN s2 o2) (IntKind.u8.wrap a.v)) (updI (gX (fun _ => 0) X) (linN s2 o2) 0)).set r ⟨[], false⟩ ++ [(⟨dropN 0 (wrsV X) ++ [.int .i64 (linN s2 o2 : Int), .int .u8 (IntKind.u8.wrap a.v), .int .i64 0], true⟩ : Blk)])[(putMem N H2 H.length (H.length + 1) (updI (fX (fun _ => 0) X) (linN s2 o2) (IntKind.u8.wrap a.v)) (updI (gX (fun _ => 0) X) (linN s2 o2) 0)).length]? = some ⟨wrsV X3, true⟩ := by rw [snoc_top (by simp), hX3, wrsV_append]; rw [show dropN 0 (wrsV X) = wrsV X from drop0 _]; rfl
    have hGr : Grown H ((putMem N H2 H.length (H.length + 1) (updI (fX (fun _ => 0) X) (linN s2 o2) (IntKind.u8.wrap a.v)) (updI (gX (fun _ => 0) X) (linN s2 o2) 0)).set r ⟨[], false⟩ ++ [(⟨dropN 0 (wrsV X) ++ [.int .i64 (linN s2 o2 : Int), .int .u8 (IntKind.u8.wrap a.v), .int .i64 0], true⟩ : Blk)]) := ((putMem_grown hG (Nat.le_refl _) (by omega) _ _).set (by omega) _).trans (Grown.one _ _)
    have hU3 : ∀ i, U8 (fX (fun _ => 0) X3 i) := by rw [hF3]; exact u8_updI hU (u8_wrap _)
    have hr4 : H.length + 3 ≤ (putMem N H2 H.length (H.length + 1) (updI (fX (fun _ => 0) X) (linN s2 o2) (IntKind.u8.wrap a.v)) (updI (gX (fun _ => 0) X) (linN s2 o2) 0)).length := by rw [hL2]; exact Nat.le_trans hrr (Nat.le_of_lt (at_lt hr))
    conv => enter [1]; whnf
    rw [hl3]
    generalize ((putMem N H2 H.length (H.length + 1) (updI (fX (fun _ => 0) X) (linN s2 o2) (IntKind.u8.wrap a.v)) (updI (gX (fun _ => 0) X) (linN s2 o2) 0)).set r ⟨[], false⟩ ++ [(⟨dropN 0 (wrsV X) ++ [.int .i64 (linN s2 o2 : Int), .int .u8 (IntKind.u8.wrap a.v), .int .i64 0], true⟩ : Blk)]) = H3 at *
    generalize (putMem N H2 H.length (H.length + 1) (updI (fX (fun _ => 0) X) (linN s2 o2) (IntKind.u8.wrap a.v)) (updI (gX (fun _ => 0) X) (linN s2 o2) 0)).length = r3 at *
    clear hF3 hG3'
    have p1 := pget_F mk K lo X3 r3 (linN s2 o2) hA (by omega) (by omega) H3 hr3
    have p2 := pget_F mk K lo X3 r3 (linN s2 (nxt o2)) hB (by omega) (by omega) H3 hr3
    have w1 := mword_F mk K lo (by omega) h3 hU3 s2 o2 us uo
    have y1 := mbyte_F mk K lo (by omega) h3 s2 o2 us uo
    have a1 := mat_F mk K lo (by omega) h3 (IntKind.u32.wrap (linN s2 o2 : Int)) (by rw [wu32]; omega)
    have b1 := mplain_F mk K lo (by omega) h3 (IntKind.u32.wrap (linN s2 o2 : Int)) (by rw [wu32]; omega)
    have eA : (IntKind.u32.wrap (linN s2 o2 : Int) % 1048576).toNat = linN s2 o2 := by rw [wu32]; omega
    rw [eA] at a1 b1
    unfold tok at w1
    have ua := hU3 (linN s2 o2)
    have ub := hU3 (linN s2 (nxt o2))
    generalize fX (fun _ => 0) X3 (linN s2 o2) = fa at p1 w1 y1 a1 ua
    generalize fX (fun _ => 0) X3 (linN s2 (nxt o2)) = fb at p2 w1 ub
    generalize gX (fun _ => 0) X3 (linN s2 o2) = ga at p1 w1 y1 b1
    generalize gX (fun _ => 0) X3 (linN s2 (nxt o2)) = gb at p2 w1
    have hff : (fa != fa) = false := bne_self_eq_false fa
    have hvv : ((fa + 256 * fb) != IntKind.u16.wrap (IntKind.u16.wrap fa + IntKind.u16.wrap (256 * IntKind.u16.wrap fb))) = false := by
      unfold U8 at ua ub
      have e5 : IntKind.u16.wrap (IntKind.u16.wrap fa + IntKind.u16.wrap (256 * IntKind.u16.wrap fb)) = fa + 256 * fb := by
        rw [wu16 fa, wu16 fb, Int.emod_eq_of_lt (a := fa) (by omega) (by omega), Int.emod_eq_of_lt (a := fb) (by omega) (by omega), wu16 (256 * fb), Int.emod_eq_of_lt (a := 256 * fb) (by omega) (by omega), wu16]; omega
      rw [e5]; exact bne_self_eq_false _
    refine Ends.call p1 ?_
    conv => enter [1]; whnf
    refine Ends.call p2 ?_
    conv => enter [1]; whnf
    refine Ends.call w1 ?_
    conv => enter [1]; whnf
    refine Ends.forceN ?_
    conv => enter [1]; whnf
    refine Ends.forceLs ?_
    conv => enter [1]; whnf
    refine Ends.opt (loc_top _ _ _) ?_
    conv => enter [1]; whnf
    refine Ends.forceLs ?_
    conv => enter [1]; whnf
    refine Ends.call y1 ?_
    conv => enter [1]; whnf
    by_cases z1 : ga = 1
    · have e1 : (ga == 1) = true := beq_iff_eq.2 (by omega)
      have e0 : (ga == 0) = false := beq_eq_false_iff_ne.2 (by omega)
      try (first
        | (refine Ends.iteT (by first | (simp [hff, e1, e0, hvv]; done) | fail "open") ?_; conv => enter [1]; whnf)
        | (refine Ends.iteF (by first | (simp [hff, e1, e0, hvv]; done) | fail "open") ?_; conv => enter [1]; whnf))
      try (first
        | (refine Ends.iteT (by first | (simp [hff, e1, e0, hvv]; done) | fail "open") ?_; conv => enter [1]; whnf)
        | (refine Ends.iteF (by first | (simp [hff, e1, e0, hvv]; done) | fail "open") ?_; conv => enter [1]; whnf))
      try (first
        | (refine Ends.iteT (by first | (simp [hff, e1, e0, hvv]; done) | fail "open") ?_; conv => enter [1]; whnf)
        | (refine Ends.iteF (by first | (simp [hff, e1, e0, hvv]; done) | fail "open") ?_; conv => enter [1]; whnf))
      refine Ends.call a1 ?_
      conv => enter [1]; whnf
      try (first
        | (refine Ends.iteT (by first | (simp [hff, e1, e0, hvv]; done) | fail "open") ?_; conv => enter [1]; whnf)
        | (refine Ends.iteF (by first | (simp [hff, e1, e0, hvv]; done) | fail "open") ?_; conv => enter [1]; whnf))
      refine Ends.call b1 ?_
      conv => enter [1]; whnf
      try (first
        | (refine Ends.iteT (by first | (simp [hff, e1, e0, hvv]; done) | fail "open") ?_; conv => enter [1]; whnf)
        | (refine Ends.iteF (by first | (simp [hff, e1, e0, hvv]; done) | fail "open") ?_; conv => enter [1]; whnf))
      refine Ends.forceN ?_
      conv => enter [1]; whnf
      refine Ends.opt (loc_set _ _ _ _) ?_
      conv => enter [1]; whnf
      try (first
        | (refine Ends.iteT (by first | (simp [hff, e1, e0, hvv]; done) | fail "open") ?_; conv => enter [1]; whnf)
        | (refine Ends.iteF (by first | (simp [hff, e1, e0, hvv]; done) | fail "open") ?_; conv => enter [1]; whnf))
      refine Ends.forceN ?_
      conv => enter [1]; whnf
      refine Ends.opt (loc_set _ _ _ _) ?_
      conv => enter [1]; whnf
      try (first
        | (refine Ends.iteT (by first | (simp [hff, e1, e0, hvv]; done) | fail "open") ?_; conv => enter [1]; whnf)
        | (refine Ends.iteF (by first | (simp [hff, e1, e0, hvv]; done) | fail "open") ?_; conv => enter [1]; whnf))
      by_cases z2 : gb = 2
      · have d2 : (gb == 2) = true := beq_iff_eq.2 (by omega)
        repeat' (first
          | (refine Ends.iteT (by first | (simp [hff, e1, e0, d2, hvv]; done) | fail "open") ?_; conv => enter [1]; whnf)
          | (refine Ends.iteF (by first | (simp [hff, e1, e0, d2, hvv]; done) | fail "open") ?_; conv => enter [1]; whnf))
        refine hL _ ⟨j + 1, X3, r3, H3, _, by omega, by omega, by omega, h3, hr3, by omega, hGr, hU3, ?_, rfl⟩
        have e3 : IntKind.i64.wrap ((j : Int) + 1) = ((j + 1 : Nat) : Int) := by rw [w64]; omega
        rw [e3]
        rfl
      · have d2 : (gb == 2) = false := beq_eq_false_iff_ne.2 (by omega)
        repeat' (first
          | (refine Ends.iteT (by first | (simp [hff, e1, e0, d2, hvv]; done) | fail "open") ?_; conv => enter [1]; whnf)
          | (refine Ends.iteF (by first | (simp [hff, e1, e0, d2, hvv]; done) | fail "open") ?_; conv => enter [1]; whnf))
        refine hL _ ⟨j + 1, X3, r3, H3, _, by omega, by omega, by omega, h3, hr3, by omega, hGr, hU3, ?_, rfl⟩
        have e3 : IntKind.i64.wrap ((j : Int) + 1) = ((j + 1 : Nat) : Int) := by rw [w64]; omega
        rw [e3]
        rfl
    · have e1 : (ga == 1) = false := beq_eq_false_iff_ne.2 (by omega)
      try (first
        | (refine Ends.iteT (by first | (simp [hff, e1, hvv]; done) | fail "open") ?_; conv => enter [1]; whnf)
        | (refine Ends.iteF (by first | (simp [hff, e1, hvv]; done) | fail "open") ?_; conv => enter [1]; whnf))
      try (first
        | (refine Ends.iteT (by first | (simp [hff, e1, hvv]; done) | fail "open") ?_; conv => enter [1]; whnf)
        | (refine Ends.iteF (by first | (simp [hff, e1, hvv]; done) | fail "open") ?_; conv => enter [1]; whnf))
      try (first
        | (refine Ends.iteT (by first | (simp [hff, e1, hvv]; done) | fail "open") ?_; conv => enter [1]; whnf)
        | (refine Ends.iteF (by first | (simp [hff, e1, hvv]; done) | fail "open") ?_; conv => enter [1]; whnf))
      refine Ends.call a1 ?_
      conv => enter [1]; whnf
      try (first
        | (refine Ends.iteT (by first | (simp [hff, e1, hvv]; done) | fail "open") ?_; conv => enter [1]; whnf)
        | (refine Ends.iteF (by first | (simp [hff, e1, hvv]; done) | fail "open") ?_; conv => enter [1]; whnf))
      refine Ends.call b1 ?_
      conv => enter [1]; whnf
      try (first
        | (refine Ends.iteT (by first | (simp [hff, e1, hvv]; done) | fail "open") ?_; conv => enter [1]; whnf)
        | (refine Ends.iteF (by first | (simp [hff, e1, hvv]; done) | fail "open") ?_; conv => enter [1]; whnf))
      refine Ends.forceN ?_
      conv => enter [1]; whnf
      refine Ends.opt (loc_set _ _ _ _) ?_
      conv => enter [1]; whnf
      try (first
        | (refine Ends.iteT (by first | (simp [hff, e1, hvv]; done) | fail "open") ?_; conv => enter [1]; whnf)
        | (refine Ends.iteF (by first | (simp [hff, e1, hvv]; done) | fail "open") ?_; conv => enter [1]; whnf))
      refine Ends.forceN ?_
      conv => enter [1]; whnf
      refine Ends.opt (loc_set _ _ _ _) ?_
      conv => enter [1]; whnf
      try (first
        | (refine Ends.iteT (by first | (simp [hff, e1, hvv]; done) | fail "open") ?_; conv => enter [1]; whnf)
        | (refine Ends.iteF (by first | (simp [hff, e1, hvv]; done) | fail "open") ?_; conv => enter [1]; whnf))
      by_cases z0 : ga = 0
      · have e0 : (ga == 0) = true := beq_iff_eq.2 (by omega)
        repeat' (first
          | (refine Ends.iteT (by first | (simp [hff, e1, e0, hvv]; done) | fail "open") ?_; conv => enter [1]; whnf)
          | (refine Ends.iteF (by first | (simp [hff, e1, e0, hvv]; done) | fail "open") ?_; conv => enter [1]; whnf))
        refine hL _ ⟨j + 1, X3, r3, H3, _, by omega, by omega, by omega, h3, hr3, by omega, hGr, hU3, ?_, rfl⟩
        have e3 : IntKind.i64.wrap ((j : Int) + 1) = ((j + 1 : Nat) : Int) := by rw [w64]; omega
        rw [e3]
        rfl
      · have e0 : (ga == 0) = false := beq_eq_false_iff_ne.2 (by omega)
        repeat' (first
          | (refine Ends.iteT (by first | (simp [hff, e1, e0, hvv]; done) | fail "open") ?_; conv => enter [1]; whnf)
          | (refine Ends.iteF (by first | (simp [hff, e1, e0, hvv]; done) | fail "open") ?_; conv => enter [1]; whnf))
        refine hL _ ⟨j + 1, X3, r3, H3, _, by omega, by omega, by omega, h3, hr3, by omega, hGr, hU3, ?_, rfl⟩
        have e3 : IntKind.i64.wrap ((j : Int) + 1) = ((j + 1 : Nat) : Int) := by rw [w64]; omega
        rw [e3]
        rfl
  have q2 : ((a.w % 8) == 2) = false := beq_eq_false_iff_ne.2 k2
  rw [q2]
  conv => enter [1]; whnf
  by_cases k3 : a.w % 8 = 3
  · have q3 : ((a.w % 8) == 3) = true := beq_iff_eq.2 k3
    rw [q3]
    conv => enter [1]; whnf
    refine Ends.forceN ?_
    conv => enter [1]; whnf
    refine Ends.opt (loc_set _ _ _ _) ?_
    conv => enter [1]; whnf
    refine Ends.forceN ?_
    conv => enter [1]; whnf
    refine Ends.opt (loc_set _ _ _ _) ?_
    conv => enter [1]; whnf
    obtain ⟨x0, hx0⟩ := u8_byte (u8_wrap a.v)
    obtain ⟨x1, hx1⟩ := u8_byte (u8_wrap (a.v.fdiv (2 ^ min (Int.toNat 8) IntKind.u16.bits)))
    rw [hx0, hx1]
    obtain ⟨lb, hlb⟩ : ∃ lb : List UInt8, lb = [x0, x1, 7] := ⟨_, rfl⟩
    have hlb3 : lb.length = 3 := by rw [hlb]; rfl
    have hcb : [Val.int .u8 ((x0.toNat : Nat) : Int), .int .u8 ((x1.toNat : Nat) : Int), .int .u8 7] = bV lb := by rw [hlb]; rfl
    rw [hcb]
    obtain ⟨J, hJ⟩ : ∃ J, J = min 3 (1048576 - linN s2 o2) := ⟨_, rfl⟩
    have hrl := at_lt hr
    have hgl := mload_sl mk K lo (h.grow (Grown.one H2 ⟨bV lb, true⟩)) (by omega) (by omega) (IntKind.u32.wrap (linN s2 o2 : Int)) (by rw [wu32]; omega) (by rw [wu32]; omega) lb H2.length 0 [] [] (by omega) (by omega) rfl (by rw [snoc_top rfl]; simp) (by omega) (by omega) (linN s2 o2) (by rw [wu32]; omega)
    rw [hlb3, ← hJ] at hgl
    refine Ends.call hgl ?_
    obtain ⟨F, hF⟩ : ∃ F, F = ldF (fX (fun _ => 0) X) (linN s2 o2) lb J := ⟨_, rfl⟩
    obtain ⟨G, hGG⟩ : ∃ G, G = ldG (gX (fun _ => 0) X) (linN s2 o2) J := ⟨_, rfl⟩
    rw [← hF, ← hGG]
    have hM : HasMem N (putMem N (H2 ++ [⟨bV lb, true⟩]) H.length (H.length + 1) F G) (H.length + 2) H.length (H.length + 1) F G := (h.grow (Grown.one H2 ⟨bV lb, true⟩)).put _ _
    have hLM : (putMem N (H2 ++ [⟨bV lb, true⟩]) H.length (H.length + 1) F G).length = H2.length + 1 := by rw [putMem_len, List.length_append]; rfl
    have hbq : (putMem N (H2 ++ [⟨bV lb, true⟩]) H.length (H.length + 1) F G)[H2.length]? = some ⟨[] ++ (bV lb ++ []), true⟩ := by rw [putMem_ne _ _ _ _ (by omega) (by omega), snoc_top rfl]; simp
    have hrM : (putMem N (H2 ++ [⟨bV lb, true⟩]) H.length (H.length + 1) F G)[r]? = some ⟨wrsV X, true⟩ := by rw [putMem_ne _ _ _ _ (by omega) (by omega)]; exact (Grown.one H2 _).at hr
    have hGM : Grown H (putMem N (H2 ++ [⟨bV lb, true⟩]) H.length (H.length + 1) F G) := putMem_grown (hG.trans (Grown.one _ _)) (Nat.le_refl _) (by omega) _ _
    generalize putMem N (H2 ++ [⟨bV lb, true⟩]) H.length (H.length + 1) F G = HM at *
    obtain ⟨bq, hbqe⟩ : ∃ bq, bq = H2.length := ⟨_, rfl⟩
    rw [← hbqe] at hbq hLM ⊢
    obtain ⟨zA, hzA⟩ : ∃ z : Int, z = (linN s2 o2 : Int) := ⟨_, rfl⟩
    rw [← hzA]
    conv => enter [1]; whnf
    refine Ends.loopK (fun m' T M => ∃ (k r3 : Nat) (X3 : List Wr) (H3 : List Blk) (loc' : List (List Val)), k ≤ J ∧ 3 - k < m' ∧ X3 = X ++ (List.range k).map (fun i => ⟨linN s2 o2 + i, ((lb.getD i 0).toNat : Int), 0⟩) ∧ HasMem N H3 (H.length + 2) H.length (H.length + 1) F G ∧ H3[r3]? = some ⟨wrsV X3, true⟩ ∧ H.length + 3 ≤ r3 ∧ r3 ≠ bq ∧ H3[bq]? = some ⟨[] ++ (bV lb ++ []), true⟩ ∧ Grown H H3 ∧ T = [.sl (.hp 0) 0 l.length 5, .undef, .undef, .ptr (.hp (H.length + 2)) 0, .sl (.hp r3) 0 X3.length 3, .int .i64 j, .undef, .int .u16 s2, .int .u16 o2, .int .i64 zA, .int .i64 (linN s2 (nxt o2) : Int), .undef, .undef, .sl (.hp bq) 0 3 1, .int .i64 k, .undef, .undef, .undef, .undef, .undef, .undef, .undef, .undef, .undef, .undef, .undef, .undef, .undef, .undef, .undef, .undef, .undef, .undef, .undef, .undef, .undef, .undef, .undef, .undef, .undef, .undef, .undef, .undef, .undef, .undef, .undef, .undef, .undef, .undef, .undef, .undef, .undef, .undef, .undef, .undef, .undef, .undef, .undef, .undef, .undef, .undef, .undef, .undef, .undef, .undef, .undef, .undef, .undef, .undef, .undef, .undef, .undef, .undef, .undef, .undef, .undef, .undef, .undef, .undef, .undef, .undef, .undef, .undef, .undef, .undef, .undef, .undef, .undef, .undef, .undef, .undef, .undef, .undef, .undef, .undef, .undef, .undef, .undef, .undef, .undef, .undef, .undef, .undef, .undef, .undef, .undef, .undef, .undef, .undef, .undef, .undef, .undef, .undef, .undef, .undef, .undef, .undef, .undef, .undef, .undef, .undef, .undef, .undef, .undef, .undef, .undef, .undef, .undef, .undef, .undef, .undef, .undef, .undef, .undef, .undef, .undef, .undef, .undef, .undef, .undef, .undef, .undef, .undef, .undef, .undef, .undef, .undef, .undef, .undef, .undef, .undef, .undef, .undef, .undef, .undef, .undef, .undef, .undef, .undef, .undef, .undef, .undef, .undef, .undef, .undef, .undef, .undef, .undef, .undef, .undef, .undef, .undef, .undef, .undef, .undef, .undef, .undef, .undef, .undef, .undef, .undef, .undef, .undef, .undef, .undef, .undef, .undef, .undef, .undef, .undef, .undef, .undef, .undef, .undef, .undef, .undef, .undef, .undef, .undef, .undef, .undef, .undef, .undef, .undef, .undef, .undef, .undef, .undef, .undef, .undef, .undef, .undef, .undef, .undef, .undef, .undef, .undef, .undef, .undef, .undef, .undef, .undef, .undef, .undef, .undef, .undef, .undef, .undef, .undef] ∧ M = ⟨loc', H3⟩) (fun T M ⟨k, _, _, _, _, _, h, _⟩ => by omega) ?_ _ _ ⟨0, r, X, HM, _, by omega, by omega, by simp, hM, hrM, hrr, by omega, hbq, hGM, rfl, rfl⟩
    rintro m' T M L2 KK hKK ⟨k, r3, X3, H3, loc', kJ, km, hX3, hM3, hr3, hrr3, hne3, hb3, hG3, rfl, rfl⟩ hL2
    conv => enter [1]; whnf
    have hw : IntKind.i64.wrap (zA + (k : Int)) = ((linN s2 o2 + k : Nat) : Int) := by rw [w64s _ (by omega) (by omega)]; omega
    have hr3l := at_lt hr3
    have hx3l : X3.length = X.length + k := by rw [hX3, List.length_append, List.length_map, List.length_range]
    by_cases ck : k < 3 ∧ linN s2 o2 + k < 1048576
    · refine Ends.iteT (by simp; omega) ?_
      conv => enter [1]; whnf
      refine Ends.iteT (ltT hw (by omega)) ?_
      conv => enter [1]; whnf
      refine Ends.iteT (decide_eq_true (by omega)) ?_
      conv => enter [1]; whnf
      refine Ends.opt (get_at hb3 _) ?_
      conv => enter [1]; whnf
      refine Ends.opt (part_d (pre := []) (post := []) k (by omega) (by rw [List.length_nil]; omega)) ?_
      conv => enter [1]; whnf
      refine Ends.forceN ?_
      conv => enter [1]; whnf
      refine Ends.forceLs ?_
      conv => enter [1]; whnf
      refine Ends.opt (sc_lo _ _ _ 1 rfl) ?_
      conv => enter [1]; whnf
      refine Ends.iteT (may_hp (by omega)) ?_
      conv => enter [1]; whnf
      refine Ends.iteT (decide_eq_true (by omega)) ?_
      conv => enter [1]; whnf
      refine Ends.opt (get_at hr3 _) ?_
      conv => enter [1]; whnf
      refine Ends.iteT (decide_eq_true (by rw [wrsV_len]; omega)) ?_
      conv => enter [1]; whnf
      refine Ends.force ?_
      conv => enter [1]; whnf
      have e4 : X3 ++ [⟨linN s2 o2 + k, ((lb.getD k 0).toNat : Int), 0⟩] = X ++ (List.range (k + 1)).map (fun i => (⟨linN s2 o2 + i, ((lb.getD i 0).toNat : Int), 0⟩ : Wr)) := by rw [hX3, List.range_succ, List.map_append, List.append_assoc]; rfl
      have e5 : X3.length + 1 = (X3 ++ [(⟨linN s2 o2 + k, ((lb.getD k 0).toNat : Int), 0⟩ : Wr)]).length := by rw [List.length_append]; rfl
      refine hL2 _ ⟨k + 1, H3.length, X3 ++ [⟨linN s2 o2 + k, ((lb.getD k 0).toNat : Int), 0⟩], _, _, by omega, by omega, e4, hM3.ap _ _ (by omega) (by omega) (by omega), ?_, ?_, ?_, ?_, ?_, ?_, rfl⟩
      · rw [snoc_top (by simp), wrsV_append, hw]; rw [show dropN 0 (wrsV X3) = wrsV X3 from drop0 _]; rfl
      · omega
      · have := at_lt hb3; omega
      · exact (Grown.one _ _).at (by rw [List.getElem?_set_ne hne3]; exact hb3)
      · exact (hG3.set (by omega) _).trans (Grown.one _ _)
      · have e3 : IntKind.i64.wrap ((k : Int) + 1) = ((k + 1 : Nat) : Int) := by rw [w64]; omega
        rw [e3, e5]
        rfl
    have hkJ : k = J := by omega
    have hF3 : fX (fun _ => 0) X3 = F := by rw [hX3, fX_append, fX_ld _ _ _ _ (by omega), hF, hkJ]
    have hG4 : gX (fun _ => 0) X3 = G := by rw [hX3, gX_append, gX_ld, hGG, hkJ]
    have h3 : HasMem N H3 (H.length + 2) H.length (H.length + 1) (fX (fun _ => 0) X3) (gX (fun _ => 0) X3) := by rw [hF3, hG4]; exact hM3
    have hU3 : ∀ i, U8 (fX (fun _ => 0) X3 i) := by rw [hF3, hF]; exact u8_ldF hU
    have hl3 : X3.length ≤ X.length + 3 := by rw [hX3, List.length_append, List.length_map, List.length_range]; omega
    clear hF3 hG4 hX3 hM3 hM hGM hgl
    by_cases ck2 : k < 3
    · refine Ends.iteT (by simp; omega) ?_
      conv => enter [1]; whnf
      refine Ends.iteF (ltF hw (by omega)) ?_
      conv => enter [1]; whnf
      rw [hKK]
      conv => enter [1]; whnf
      rw [hzA]
      have p1 := pget_F mk K lo X3 r3 (linN s2 o2) hA (by omega) (by omega) H3 hr3
      have p2 := pget_F mk K lo X3 r3 (linN s2 (nxt o2)) hB (by omega) (by omega) H3 hr3
      have w1 := mword_F mk K lo (by omega) h3 hU3 s2 o2 us uo
      have y1 := mbyte_F mk K lo (by omega) h3 s2 o2 us uo
      have a1 := mat_F mk K lo (by omega) h3 (IntKind.u32.wrap (linN s2 o2 : Int)) (by rw [wu32]; omega)
      have b1 := mplain_F mk K lo (by omega) h3 (IntKind.u32.wrap (linN s2 o2 : Int)) (by rw [wu32]; omega)
      have eA : (IntKind.u32.wrap (linN s2 o2 : Int) % 1048576).toNat = linN s2 o2 := by rw [wu32]; omega
      rw [eA] at a1 b1
      unfold tok at w1
      have ua := hU3 (linN s2 o2)
      have ub := hU3 (linN s2 (nxt o2))
      generalize fX (fun _ => 0) X3 (linN s2 o2) = fa at p1 w1 y1 a1 ua
      generalize fX (fun _ => 0) X3 (linN s2 (nxt o2)) = fb at p2 w1 ub
      generalize gX (fun _ => 0) X3 (linN s2 o2) = ga at p1 w1 y1 b1
      generalize gX (fun _ => 0) X3 (linN s2 (nxt o2)) = gb at p2 w1
      have hff : (fa != fa) = false := bne_self_eq_false fa
      have hvv : ((fa + 256 * fb) != IntKind.u16.wrap (IntKind.u16.wrap fa + IntKind.u16.wrap (256 * IntKind.u16.wrap fb))) = false := by
        unfold U8 at ua ub
        have e5 : IntKind.u16.wrap (IntKind.u16.wrap fa + IntKind.u16.wrap (256 * IntKind.u16.wrap fb)) = fa + 256 * fb := by
          rw [wu16 fa, wu16 fb, Int.emod_eq_of_lt (a := fa) (by omega) (by omega), Int.emod_eq_of_lt (a := fb) (by omega) (by omega), wu16 (256 * fb), Int.emod_eq_of_lt (a := 256 * fb) (by omega) (by omega), wu16]; omega
        rw [e5]; exact bne_self_eq_false _
      refine Ends.call p1 ?_
      conv => enter [1]; whnf
      refine Ends.call p2 ?_
      conv => enter [1]; whnf
      refine Ends.call w1 ?_
      conv => enter [1]; whnf
      refine Ends.forceN ?_
      conv => enter [1]; whnf
      refine Ends.forceLs ?_
      conv => enter [1]; whnf
      refine Ends.opt (loc_top _ _ _) ?_
      conv => enter [1]; whnf
      refine Ends.forceLs ?_
      conv => enter [1]; whnf
      refine Ends.call y1 ?_
      conv => enter [1]; whnf
      by_cases z1 : ga = 1
      · have e1 : (ga == 1) = true := beq_iff_eq.2 (by omega)
        have e0 : (ga == 0) = false := beq_eq_false_iff_ne.2 (by omega)
        try (first
          | (refine Ends.iteT (by first | (simp [hff, e1, e0, hvv]; done) | fail "open") ?_; conv => enter [1]; whnf)
          | (refine Ends.iteF (by first | (simp [hff, e1, e0, hvv]; done) | fail "open") ?_; conv => enter [1]; whnf))
        try (first
          | (refine Ends.iteT (by first | (simp [hff, e1, e0, hvv]; done) | fail "open") ?_; conv => enter [1]; whnf)
          | (refine Ends.iteF (by first | (simp [hff, e1, e0, hvv]; done) | fail "open") ?_; conv => enter [1]; whnf))
        try (first
          | (refine Ends.iteT (by first | (simp [hff, e1, e0, hvv]; done) | fail "open") ?_; conv => enter [1]; whnf)
          | (refine Ends.iteF (by first | (simp [hff, e1, e0, hvv]; done) | fail "open") ?_; conv => enter [1]; whnf))
        refine Ends.call a1 ?_
        conv => enter [1]; whnf
        try (first
          | (refine Ends.iteT (by first | (simp [hff, e1, e0, hvv]; done) | fail "open") ?_; conv => enter [1]; whnf)
          | (refine Ends.iteF (by first | (simp [hff, e1, e0, hvv]; done) | fail "open") ?_; conv => enter [1]; whnf))
        refine Ends.call b1 ?_
        conv => enter [1]; whnf
        try (first
          | (refine Ends.iteT (by first | (simp [hff, e1, e0, hvv]; done) | fail "open") ?_; conv => enter [1]; whnf)
          | (refine Ends.iteF (by first | (simp [hff, e1, e0, hvv]; done) | fail "open") ?_; conv => enter [1]; whnf))
        refine Ends.forceN ?_
        conv => enter [1]; whnf
        refine Ends.opt (loc_set _ _ _ _) ?_
        conv => enter [1]; whnf
        try (first
          | (refine Ends.iteT (by first | (simp [hff, e1, e0, hvv]; done) | fail "open") ?_; conv => enter [1]; whnf)
          | (refine Ends.iteF (by first | (simp [hff, e1, e0, hvv]; done) | fail "open") ?_; conv => enter [1]; whnf))
        refine Ends.forceN ?_
        conv => enter [1]; whnf
        refine Ends.opt (loc_set _ _ _ _) ?_
        conv => enter [1]; whnf
        try (first
          | (refine Ends.iteT (by first | (simp [hff, e1, e0, hvv]; done) | fail "open") ?_; conv => enter [1]; whnf)
          | (refine Ends.iteF (by first | (simp [hff, e1, e0, hvv]; done) | fail "open") ?_; conv => enter [1]; whnf))
        by_cases z2 : gb = 2
        · have d2 : (gb == 2) = true := beq_iff_eq.2 (by omega)
          repeat' (first
            | (refine Ends.iteT (by first | (simp [hff, e1, e0, d2, hvv]; done) | fail "open") ?_; conv => enter [1]; whnf)
            | (refine Ends.iteF (by first | (simp [hff, e1, e0, d2, hvv]; done) | fail "open") ?_; conv => enter [1]; whnf))
          refine hL _ ⟨j + 1, X3, r3, H3, _, by omega, by omega, by omega, h3, hr3, by omega, hG3, hU3, ?_, rfl⟩
          have e3 : IntKind.i64.wrap ((j : Int) + 1) = ((j + 1 : Nat) : Int) := by rw [w64]; omega
          rw [e3]
          rfl
        · have d2 : (gb == 2) = false := beq_eq_false_iff_ne.2 (by omega)
          repeat' (first
            | (refine Ends.iteT (by first | (simp [hff, e1, e0, d2, hvv]; done) | fail "open") ?_; conv => enter [1]; whnf)
            | (refine Ends.iteF (by first | (simp [hff, e1, e0, d2, hvv]; done) | fail "open") ?_; conv => enter [1]; whnf))
          refine hL _ ⟨j + 1, X3, r3, H3, _, by omega, by omega, by omega, h3, hr3, by omega, hG3, hU3, ?_, rfl⟩
          have e3 : IntKind.i64.wrap ((j : Int) + 1) = ((j + 1 : Nat) : Int) := by rw [w64]; omega
          rw [e3]
          rfl
      · have e1 : (ga == 1) = false := beq_eq_false_iff_ne.2 (by omega)
        try (first
          | (refine Ends.iteT (by first | (simp [hff, e1, hvv]; done) | fail "open") ?_; conv => enter [1]; whnf)
          | (refine Ends.iteF (by first | (simp [hff, e1, hvv]; done) | fail "open") ?_; conv => enter [1]; whnf))
        try (first
          | (refine Ends.iteT (by first | (simp [hff, e1, hvv]; done) | fail "open") ?_; conv => enter [1]; whnf)
          | (refine Ends.iteF (by first | (simp [hff, e1, hvv]; done) | fail "open") ?_; conv => enter [1]; whnf))
        try (first
          | (refine Ends.iteT (by first | (simp [hff, e1, hvv]; done) | fail "open") ?_; conv => enter [1]; whnf)
          | (refine Ends.iteF (by first | (simp [hff, e1, hvv]; done) | fail "open") ?_; conv => enter [1]; whnf))
        refine Ends.call a1 ?_
        conv => enter [1]; whnf
        try (first
          | (refine Ends.iteT (by first | (simp [hff, e1, hvv]; done) | fail "open") ?_; conv => enter [1]; whnf)
          | (refine Ends.iteF (by first | (simp [hff, e1, hvv]; done) | fail "open") ?_; conv => enter [1]; whnf))
        refine Ends.call b1 ?_
        conv => enter [1]; whnf
        try (first
          | (refine Ends.iteT (by first | (simp [hff, e1, hvv]; done) | fail "open") ?_; conv => enter [1]; whnf)
          | (refine Ends.iteF (by first | (simp [hff, e1, hvv]; done) | fail "open") ?_; conv => enter [1]; whnf))
        refine Ends.forceN ?_
        conv => enter [1]; whnf
        refine Ends.opt (loc_set _ _ _ _) ?_
        conv => enter [1]; whnf
        try (first
          | (refine Ends.iteT (by first | (simp [hff, e1, hvv]; done) | fail "open") ?_; conv => enter [1]; whnf)
          | (refine Ends.iteF (by first | (simp [hff, e1, hvv]; done) | fail "open") ?_; conv => enter [1]; whnf))
        refine Ends.forceN ?_
        conv => enter [1]; whnf
        refine Ends.opt (loc_set _ _ _ _) ?_
        conv => enter [1]; whnf
        try (first
          | (refine Ends.iteT (by first | (simp [hff, e1, hvv]; done) | fail "open") ?_; conv => enter [1]; whnf)
          | (refine Ends.iteF (by first | (simp [hff, e1, hvv]; done) | fail "open") ?_; conv => enter [1]; whnf))
        by_cases z0 : ga = 0
        · have e0 : (ga == 0) = true := beq_iff_eq.2 (by omega)
          repeat' (first
            | (refine Ends.iteT (by first | (simp [hff, e1, e0, hvv]; done) | fail "open") ?_; conv => enter [1]; whnf)
            | (refine Ends.iteF (by first | (simp [hff, e1, e0, hvv]; done) | fail "open") ?_; conv => enter [1]; whnf))
          refine hL _ ⟨j + 1, X3, r3, H3, _, by omega, by omega, by omega, h3, hr3, by omega, hG3, hU3, ?_, rfl⟩
          have e3 : IntKind.i64.wrap ((j : Int) + 1) = ((j + 1 : Nat) : Int) := by rw [w64]; omega
          rw [e3]
          rfl
        · have e0 : (ga == 0) = false := beq_eq_false_iff_ne.2 (by omega)
          repeat' (first
            | (refine Ends.iteT (by first | (simp [hff, e1, e0, hvv]; done) | fail "open") ?_; conv => enter [1]; whnf)
            | (refine Ends.iteF (by first | (simp [hff, e1, e0, hvv]; done) | fail "open") ?_; conv => enter [1]; whnf))
          refine hL _ ⟨j + 1, X3, r3, H3, _, by omega, by omega, by omega, h3, hr3, by omega, hG3, hU3, ?_, rfl⟩
          have e3 : IntKind.i64.wrap ((j : Int) + 1) = ((j + 1 : Nat) : Int) := by rw [w64]; omega
          rw [e3]
          rfl
    refine Ends.iteF (by simp; omega) ?_
    conv => enter [1]; whnf
    rw [hKK]
    conv => enter [1]; whnf
    rw [hzA]
    have p1 := pget_F mk K lo X3 r3 (linN s2 o2) hA (by omega) (by omega) H3 hr3
    have p2 := pget_F mk K lo X3 r3 (linN s2 (nxt o2)) hB (by omega) (by omega) H3 hr3
    have w1 := mword_F mk K lo (by omega) h3 hU3 s2 o2 us uo
    have y1 := mbyte_F mk K lo (by omega) h3 s2 o2 us uo
    have a1 := mat_F mk K lo (by omega) h3 (IntKind.u32.wrap (linN s2 o2 : Int)) (by rw [wu32]; omega)
    have b1 := mplain_F mk K lo (by omega) h3 (IntKind.u32.wrap (linN s2 o2 : Int)) (by rw [wu32]; omega)
    have eA : (IntKind.u32.wrap (linN s2 o2 : Int) % 1048576).toNat = linN s2 o2 := by rw [wu32]; omega
    rw [eA] at a1 b1
    unfold tok at w1
    have ua := hU3 (linN s2 o2)
    have ub := hU3 (linN s2 (nxt o2))
    generalize fX (fun _ => 0) X3 (linN s2 o2) = fa at p1 w1 y1 a1 ua
    generalize fX (fun _ => 0) X3 (linN s2 (nxt o2)) = fb at p2 w1 ub
    generalize gX (fun _ => 0) X3 (linN s2 o2) = ga at p1 w1 y1 b1
    generalize gX (fun _ => 0) X3 (linN s2 (nxt o2)) = gb at p2 w1
    have hff : (fa != fa) = false := bne_self_eq_false fa
    have hvv : ((fa + 256 * fb) != IntKind.u16.wrap (IntKind.u16.wrap fa + IntKind.u16.wrap (256 * IntKind.u16.wrap fb))) = false := by
      unfold U8 at ua ub
      have e5 : IntKind.u16.wrap (IntKind.u16.wrap fa + IntKind.u16.wrap (256 * IntKind.u16.wrap fb)) = fa + 256 * fb := by
        rw [wu16 fa, wu16 fb, Int.emod_eq_of_lt (a := fa) (by omega) (by omega), Int.emod_eq_of_lt (a := fb) (by omega) (by omega), wu16 (256 * fb), Int.emod_eq_of_lt (a := 256 * fb) (by omega) (by omega), wu16]; omega
      rw [e5]; exact bne_self_eq_false _
    refine Ends.call p1 ?_
    conv => enter [1]; whnf
    refine Ends.call p2 ?_
    conv => enter [1]; whnf
    refine Ends.call w1 ?_
    conv => enter [1]; whnf
    refine Ends.forceN ?_
    conv => enter [1]; whnf
    refine Ends.forceLs ?_
    conv => enter [1]; whnf
    refine Ends.opt (loc_top _ _ _) ?_
    conv => enter [1]; whnf
    refine Ends.forceLs ?_
    conv => enter [1]; whnf
    refine Ends.call y1 ?_
    conv => enter [1]; whnf
    by_cases z1 : ga = 1
    · have e1 : (ga == 1) = true := beq_iff_eq.2 (by omega)
      have e0 : (ga == 0) = false := beq_eq_false_iff_ne.2 (by omega)
      try (first
        | (refine Ends.iteT (by first | (simp [hff, e1, e0, hvv]; done) | fail "open") ?_; conv => enter [1]; whnf)
        | (refine Ends.iteF (by first | (simp [hff, e1, e0, hvv]; done) | fail "open") ?_; conv => enter [1]; whnf))
      try (first
        | (refine Ends.iteT (by first | (simp [hff, e1, e0, hvv]; done) | fail "open") ?_; conv => enter [1]; whnf)
        | (refine Ends.iteF (by first | (simp [hff, e1, e0, hvv]; done) | fail "open") ?_; conv => enter [1]; whnf))
      try (first
        | (refine Ends.iteT (by first | (simp [hff, e1, e0, hvv]; done) | fail "open") ?_; conv => enter [1]; whnf)
        | (refine Ends.iteF (by first | (simp [hff, e1, e0, hvv]; done) | fail "open") ?_; conv => enter [1]; whnf))
      refine Ends.call a1 ?_
      conv => enter [1]; whnf
      try (first
        | (refine Ends.iteT (by first | (simp [hff, e1, e0, hvv]; done) | fail "open") ?_; conv => enter [1]; whnf)
        | (refine Ends.iteF (by first | (simp [hff, e1, e0, hvv]; done) | fail "open") ?_; conv => enter [1]; whnf))
      refine Ends.call b1 ?_
      conv => enter [1]; whnf
      try (first
        | (refine Ends.iteT (by first | (simp [hff, e1, e0, hvv]; done) | fail "open") ?_; conv => enter [1]; whnf)
        | (refine Ends.iteF (by first | (simp [hff, e1, e0, hvv]; done) | fail "open") ?_; conv => enter [1]; whnf))
      refine Ends.forceN ?_
      conv => enter [1]; whnf
      refine Ends.opt (loc_set _ _ _ _) ?_
      conv => enter [1]; whnf
      try (first
        | (refine Ends.iteT (by first | (simp [hff, e1, e0, hvv]; done) | fail "open") ?_; conv => enter [1]; whnf)
        | (refine Ends.iteF (by first | (simp [hff, e1, e0, hvv]; done) | fail "open") ?_; conv => enter [1]; whnf))
      refine Ends.forceN ?_
      conv => enter [1]; whnf
      refine Ends.opt (loc_set _ _ _ _) ?_
      conv => enter [1]; whnf
      try (first
        | (refine Ends.iteT (by first | (simp [hff, e1, e0, hvv]; done) | fail "open") ?_; conv => enter [1]; whnf)
        | (refine Ends.iteF (by first | (simp [hff, e1, e0, hvv]; done) | fail "open") ?_; conv => enter [1]; whnf))
      by_cases z2 : gb = 2
      · have d2 : (gb == 2) = true := beq_iff_eq.2 (by omega)
        repeat' (first
          | (refine Ends.iteT (by first | (simp [hff, e1, e0, d2, hvv]; done) | fail "open") ?_; conv => enter [1]; whnf)
          | (refine Ends.iteF (by first | (simp [hff, e1, e0, d2, hvv]; done) | fail "open") ?_; conv => enter [1]; whnf))
        refine hL _ ⟨j + 1, X3, r3, H3, _, by omega, by omega, by omega, h3, hr3, by omega, hG3, hU3, ?_, rfl⟩
        have e3 : IntKind.i64.wrap ((j : Int) + 1) = ((j + 1 : Nat) : Int) := by rw [w64]; omega
        rw [e3]
        rfl
      · have d2 : (gb == 2) = false := beq_eq_false_iff_ne.2 (by omega)
        repeat' (first
          | (refine Ends.iteT (by first | (simp [hff, e1, e0, d2, hvv]; done) | fail "open") ?_; conv => enter [1]; whnf)
          | (refine Ends.iteF (by first | (simp [hff, e1, e0, d2, hvv]; done) | fail "open") ?_; conv => enter [1]; whnf))
        refine hL _ ⟨j + 1, X3, r3, H3, _, by omega, by omega, by omega, h3, hr3, by omega, hG3, hU3, ?_, rfl⟩
        have e3 : IntKind.i64.wrap ((j : Int) + 1) = ((j + 1 : Nat) : Int) := by rw [w64]; omega
        rw [e3]
        rfl
    · have e1 : (ga == 1) = false := beq_eq_false_iff_ne.2 (by omega)
      try (first
        | (refine Ends.iteT (by first | (simp [hff, e1, hvv]; done) | fail "open") ?_; conv => enter [1]; whnf)
        | (refine Ends.iteF (by first | (simp [hff, e1, hvv]; done) | fail "open") ?_; conv => enter [1]; whnf))
      try (first
        | (refine Ends.iteT (by first | (simp [hff, e1, hvv]; done) | fail "open") ?_; conv => enter [1]; whnf)
        | (refine Ends.iteF (by first | (simp [hff, e1, hvv]; done) | fail "open") ?_; conv => enter [1]; whnf))
      try (first
        | (refine Ends.iteT (by first | (simp [hff, e1, hvv]; done) | fail "open") ?_; conv => enter [1]; whnf)
        | (refine Ends.iteF (by first | (simp [hff, e1, hvv]; done) | fail "open") ?_; conv => enter [1]; whnf))
      refine Ends.call a1 ?_
      conv => enter [1]; whnf
      try (first
        | (refine Ends.iteT (by first | (simp [hff, e1, hvv]; done) | fail "open") ?_; conv => enter [1]; whnf)
        | (refine Ends.iteF (by first | (simp [hff, e1, hvv]; done) | fail "open") ?_; conv => enter [1]; whnf))
      refine Ends.call b1 ?_
      conv => enter [1]; whnf
      try (first
        | (refine Ends.iteT (by first | (simp [hff, e1, hvv]; done) | fail "open") ?_; conv => enter [1]; whnf)
        | (refine Ends.iteF (by first | (simp [hff, e1, hvv]; done) | fail "open") ?_; conv => enter [1]; whnf))
      refine Ends.forceN ?_
      conv => enter [1]; whnf
      refine Ends.opt (loc_set _ _ _ _) ?_
      conv => enter [1]; whnf
      try (first
        | (refine Ends.iteT (by first | (simp [hff, e1, hvv]; done) | fail "open") ?_; conv => enter [1]; whnf)
        | (refine Ends.iteF (by first | (simp [hff, e1, hvv]; done) | fail "open") ?_; conv => enter [1]; whnf))
      refine Ends.forceN ?_
      conv => enter [1]; whnf
      refine Ends.opt (loc_set _ _ _ _) ?_
      conv => enter [1]; whnf
      try (first
        | (refine Ends.iteT (by first | (simp [hff, e1, hvv]; done) | fail "open") ?_; conv => enter [1]; whnf)
        | (refine Ends.iteF (by first | (simp [hff, e1, hvv]; done) | fail "open") ?_; conv => enter [1]; whnf))
      by_cases z0 : ga = 0
      · have e0 : (ga == 0) = true := beq_iff_eq.2 (by omega)
        repeat' (first
          | (refine Ends.iteT (by first | (simp [hff, e1, e0, hvv]; done) | fail "open") ?_; conv => enter [1]; whnf)
          | (refine Ends.iteF (by first | (simp [hff, e1, e0, hvv]; done) | fail "open") ?_; conv => enter [1]; whnf))
        refine hL _ ⟨j + 1, X3, r3, H3, _, by omega, by omega, by omega, h3, hr3, by omega, hG3, hU3, ?_, rfl⟩
        have e3 : IntKind.i64.wrap ((j : Int) + 1) = ((j + 1 : Nat) : Int) := by rw [w64]; omega
        rw [e3]
        rfl
      · have e0 : (ga == 0) = false := beq_eq_false_iff_ne.2 (by omega)
        repeat' (first
          | (refine Ends.iteT (by first | (simp [hff, e1, e0, hvv]; done) | fail "open") ?_; conv => enter [1]; whnf)
          | (refine Ends.iteF (by first | (simp [hff, e1, e0, hvv]; done) | fail "open") ?_; conv => enter [1]; whnf))
        refine hL _ ⟨j + 1, X3, r3, H3, _, by omega, by omega, by omega, h3, hr3, by omega, hG3, hU3, ?_, rfl⟩
        have e3 : IntKind.i64.wrap ((j : Int) + 1) = ((j + 1 : Nat) : Int) := by rw [w64]; omega
        rw [e3]
        rfl
  have q3 : ((a.w % 8) == 3) = false := beq_eq_false_iff_ne.2 k3
  rw [q3]
  conv => enter [1]; whnf
  have p1 := pget_F mk K lo X r (linN s2 o2) hA (by omega) (by omega) H2 hr
  have p2 := pget_F mk K lo X r (linN s2 (nxt o2)) hB (by omega) (by omega) H2 hr
  have w1 := mword_F mk K lo (by omega) h hU s2 o2 us uo
  have y1 := mbyte_F mk K lo (by omega) h s2 o2 us uo
  have a1 := mat_F mk K lo (by omega) h (IntKind.u32.wrap (linN s2 o2 : Int)) (by rw [wu32]; omega)
  have b1 := mplain_F mk K lo (by omega) h (IntKind.u32.wrap (linN s2 o2 : Int)) (by rw [wu32]; omega)
  have eA : (IntKind.u32.wrap (linN s2 o2 : Int) % 1048576).toNat = linN s2 o2 := by rw [wu32]; omega
  rw [eA] at a1 b1
  unfold tok at w1
  have ua := hU (linN s2 o2)
  have ub := hU (linN s2 (nxt o2))
  generalize fX (fun _ => 0) X (linN s2 o2) = fa at p1 w1 y1 a1 ua
  generalize fX (fun _ => 0) X (linN s2 (nxt o2)) = fb at p2 w1 ub
  generalize gX (fun _ => 0) X (linN s2 o2) = ga at p1 w1 y1 b1
  generalize gX (fun _ => 0) X (linN s2 (nxt o2)) = gb at p2 w1
  have hff : (fa != fa) = false := bne_self_eq_false fa
  have hvv : ((fa + 256 * fb) != IntKind.u16.wrap (IntKind.u16.wrap fa + IntKind.u16.wrap (256 * IntKind.u16.wrap fb))) = false := by
    unfold U8 at ua ub
    have e5 : IntKind.u16.wrap (IntKind.u16.wrap fa + IntKind.u16.wrap (256 * IntKind.u16.wrap fb)) = fa + 256 * fb := by
      rw [wu16 fa, wu16 fb, Int.emod_eq_of_lt (a := fa) (by omega) (by omega), Int.emod_eq_of_lt (a := fb) (by omega) (by omega), wu16 (256 * fb), Int.emod_eq_of_lt (a := 256 * fb) (by omega) (by omega), wu16]; omega
    rw [e5]; exact bne_self_eq_false _
  refine Ends.call p1 ?_
  conv => enter [1]; whnf
  refine Ends.call p2 ?_
  conv => enter [1]; whnf
  refine Ends.call w1 ?_
  conv => enter [1]; whnf
  refine Ends.forceN ?_
  conv => enter [1]; whnf
  refine Ends.forceLs ?_
  conv => enter [1]; whnf
  refine Ends.opt (loc_top _ _ _) ?_
  conv => enter [1]; whnf
  refine Ends.forceLs ?_
  conv => enter [1]; whnf
  refine Ends.call y1 ?_
  conv => enter [1]; whnf
  by_cases z1 : ga = 1
  · have e1 : (ga == 1) = true := beq_iff_eq.2 (by omega)
    have e0 : (ga == 0) = false := beq_eq_false_iff_ne.2 (by omega)
    try (first
      | (refine Ends.iteT (by first | (simp [hff, e1, e0, hvv]; done) | fail "open") ?_; conv => enter [1]; whnf)
      | (refine Ends.iteF (by first | (simp [hff, e1, e0, hvv]; done) | fail "open") ?_; conv => enter [1]; whnf))
    try (first
      | (refine Ends.iteT (by first | (simp [hff, e1, e0, hvv]; done) | fail "open") ?_; conv => enter [1]; whnf)
      | (refine Ends.iteF (by first | (simp [hff, e1, e0, hvv]; done) | fail "open") ?_; conv => enter [1]; whnf))
    try (first
      | (refine Ends.iteT (by first | (simp [hff, e1, e0, hvv]; done) | fail "open") ?_; conv => enter [1]; whnf)
      | (refine Ends.iteF (by first | (simp [hff, e1, e0, hvv]; done) | fail "open") ?_; conv => enter [1]; whnf))
    refine Ends.call a1 ?_
    conv => enter [1]; whnf
    try (first
      | (refine Ends.iteT (by first | (simp [hff, e1, e0, hvv]; done) | fail "open") ?_; conv => enter [1]; whnf)
      | (refine Ends.iteF (by first | (simp [hff, e1, e0, hvv]; done) | fail "open") ?_; conv => enter [1]; whnf))
    refine Ends.call b1 ?_
    conv => enter [1]; whnf
    try (first
      | (refine Ends.iteT (by first | (simp [hff, e1, e0, hvv]; done) | fail "open") ?_; conv => enter [1]; whnf)
      | (refine Ends.iteF (by first | (simp [hff, e1, e0, hvv]; done) | fail "open") ?_; conv => enter [1]; whnf))
    refine Ends.forceN ?_
    conv => enter [1]; whnf
    refine Ends.opt (loc_set _ _ _ _) ?_
    conv => enter [1]; whnf
    try (first
      | (refine Ends.iteT (by first | (simp [hff, e1, e0, hvv]; done) | fail "open") ?_; conv => enter [1]; whnf)
      | (refine Ends.iteF (by first | (simp [hff, e1, e0, hvv]; done) | fail "open") ?_; conv => enter [1]; whnf))
    refine Ends.forceN ?_
    conv => enter [1]; whnf
    refine Ends.opt (loc_set _ _ _ _) ?_
    conv => enter [1]; whnf
    try (first
      | (refine Ends.iteT (by first | (simp [hff, e1, e0, hvv]; done) | fail "open") ?_; conv => enter [1]; whnf)
      | (refine Ends.iteF (by first | (simp [hff, e1, e0, hvv]; done) | fail "open") ?_; conv => enter [1]; whnf))
    by_cases z2 : gb = 2
    · have d2 : (gb == 2) = true := beq_iff_eq.2 (by omega)
      repeat' (first
        | (refine Ends.iteT (by first | (simp [hff, e1, e0, d2, hvv]; done) | fail "open") ?_; conv => enter [1]; whnf)
        | (refine Ends.iteF (by first | (simp [hff, e1, e0, d2, hvv]; done) | fail "open") ?_; conv => enter [1]; whnf))
      refine hL _ ⟨j + 1, X, r, H2, _, by omega, by omega, by omega, h, hr, by omega, hG, hU, ?_, rfl⟩
      have e3 : IntKind.i64.wrap ((j : Int) + 1) = ((j + 1 : Nat) : Int) := by rw [w64]; omega
      rw [e3]
      rfl
    · have d2 : (gb == 2) = false := beq_eq_false_iff_ne.2 (by omega)
      repeat' (first
        | (refine Ends.iteT (by first | (simp [hff, e1, e0, d2, hvv]; done) | fail "open") ?_; conv => enter [1]; whnf)
        | (refine Ends.iteF (by first | (simp [hff, e1, e0, d2, hvv]; done) | fail "open") ?_; conv => enter [1]; whnf))
      refine hL _ ⟨j + 1, X, r, H2, _, by omega, by omega, by omega, h, hr, by omega, hG, hU, ?_, rfl⟩
      have e3 : IntKind.i64.wrap ((j : Int) + 1) = ((j + 1 : Nat) : Int) := by rw [w64]; omega
      rw [e3]
      rfl
  · have e1 : (ga == 1) = false := beq_eq_false_iff_ne.2 (by omega)
    try (first
      | (refine Ends.iteT (by first | (simp [hff, e1, hvv]; done) | fail "open") ?_; conv => enter [1]; whnf)
      | (refine Ends.iteF (by first | (simp [hff, e1, hvv]; done) | fail "open") ?_; conv => enter [1]; whnf))
    try (first
      | (refine Ends.iteT (by first | (simp [hff, e1, hvv]; done) | fail "open") ?_; conv => enter [1]; whnf)
      | (refine Ends.iteF (by first | (simp [hff, e1, hvv]; done) | fail "open") ?_; conv => enter [1]; whnf))
    try (first
      | (refine Ends.iteT (by first | (simp [hff, e1, hvv]; done) | fail "open") ?_; conv => enter [1]; whnf)
      | (refine Ends.iteF (by first | (simp [hff, e1, hvv]; done) | fail "open") ?_; conv => enter [1]; whnf))
    refine Ends.call a1 ?_
    conv => enter [1]; whnf
    try (first
      | (refine Ends.iteT (by first | (simp [hff, e1, hvv]; done) | fail "open") ?_; conv => enter [1]; whnf)
      | (refine Ends.iteF (by first | (simp [hff, e1, hvv]; done) | fail "open") ?_; conv => enter [1]; whnf))
    refine Ends.call b1 ?_
    conv => enter [1]; whnf
    try (first
      | (refine Ends.iteT (by first | (simp [hff, e1, hvv]; done) | fail "open") ?_; conv => enter [1]; whnf)
      | (refine Ends.iteF (by first | (simp [hff, e1, hvv]; done) | fail "open") ?_; conv => enter [1]; whnf))
    refine Ends.forceN ?_
    conv => enter [1]; whnf
    refine Ends.opt (loc_set _ _ _ _) ?_
    conv => enter [1]; whnf
    try (first
      | (refine Ends.iteT (by first | (simp [hff, e1, hvv]; done) | fail "open") ?_; conv => enter [1]; whnf)
      | (refine Ends.iteF (by first | (simp [hff, e1, hvv]; done) | fail "open") ?_; conv => enter [1]; whnf))
    refine Ends.forceN ?_
    conv => enter [1]; whnf
    refine Ends.opt (loc_set _ _ _ _) ?_
    conv => enter [1]; whnf
    try (first
      | (refine Ends.iteT (by first | (simp [hff, e1, hvv]; done) | fail "open") ?_; conv => enter [1]; whnf)
      | (refine Ends.iteF (by first | (simp [hff, e1, hvv]; done) | fail "open") ?_; conv => enter [1]; whnf))
    by_cases z0 : ga = 0
    · have e0 : (ga == 0) = true := beq_iff_eq.2 (by omega)
      repeat' (first
        | (refine Ends.iteT (by first | (simp [hff, e1, e0, hvv]; done) | fail "open") ?_; conv => enter [1]; whnf)
        | (refine Ends.iteF (by first | (simp [hff, e1, e0, hvv]; done) | fail "open") ?_; conv => enter [1]; whnf))
      refine hL _ ⟨j + 1, X, r, H2, _, by omega, by omega, by omega, h, hr, by omega, hG, hU, ?_, rfl⟩
      have e3 : IntKind.i64.wrap ((j : Int) + 1) = ((j + 1 : Nat) : Int) := by rw [w64]; omega
      rw [e3]
      rfl
    · have e0 : (ga == 0) = false := beq_eq_false_iff_ne.2 (by omega)
      repeat' (first
        | (refine Ends.iteT (by first | (simp [hff, e1, e0, hvv]; done) | fail "open") ?_; conv => enter [1]; whnf)
        | (refine Ends.iteF (by first | (simp [hff, e1, e0, hvv]; done) | fail "open") ?_; conv => enter [1]; whnf))
      refine hL _ ⟨j + 1, X, r, H2, _, by omega, by omega, by omega, h, hr, by omega, hG, hU, ?_, rfl⟩
      have e3 : IntKind.i64.wrap ((j : Int) + 1) = ((j + 1 : Nat) : Int) := by rw [w64]; omega
      rw [e3]
      rfl
end Go.Proofs.Ytfflejhodmcoeaa.VM
