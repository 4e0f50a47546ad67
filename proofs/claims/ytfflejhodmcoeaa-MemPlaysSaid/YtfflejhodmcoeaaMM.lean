/- What was written into a memory, one behind the other, and the newest of a place. -/
import Derived.Test.YtfflejhodmcoeaaMJ
namespace Go.Proofs.Ytfflejhodmcoeaa.VM
open Go Go.RowKit
set_option linter.unusedVariables false
set_option linter.unusedSimpArgs false
set_option maxRecDepth 40000
set_option maxHeartbeats 1600000
structure Wr where
  p : Nat
  b : Int
  k : Int
def wrV (c : Wr) : List Val := [.int .i64 (c.p : Int), .int .u8 c.b, .int .i64 c.k]
def wrsV (l : List Wr) : List Val := (l.map wrV).flatten
theorem wrsV_append (x y : List Wr) : wrsV (x ++ y) = wrsV x ++ wrsV y := by simp [wrsV]
theorem wrsV_len (l : List Wr) : (wrsV l).length = l.length * 3 := by
  induction l with
  | nil => rfl
  | cons x l ih =>
    have : (wrsV (x :: l)) = wrV x ++ wrsV l := rfl
    rw [this, List.length_append, ih, List.length_cons, Nat.succ_mul]
    show 3 + _ = _; omega
/-- The rows behind all that was written. -/
def fX (f : Nat → Int) : List Wr → Nat → Int
  | [] => f
  | c :: l => fX (updI f c.p c.b) l
def gX (g : Nat → Int) : List Wr → Nat → Int
  | [] => g
  | c :: l => gX (updI g c.p c.k) l
theorem fX_append (f : Nat → Int) (x y : List Wr) : fX f (x ++ y) = fX (fX f x) y := by
  induction x generalizing f with
  | nil => rfl
  | cons c x ih => exact ih _
theorem gX_append (f : Nat → Int) (x y : List Wr) : gX f (x ++ y) = gX (gX f x) y := by
  induction x generalizing f with
  | nil => rfl
  | cons c x ih => exact ih _
/-- No write of these is to a place. -/
theorem fX_none (f : Nat → Int) (p : Nat) : ∀ (l : List Wr), (∀ c ∈ l, c.p ≠ p) → fX f l p = f p ∧ gX f l p = f p
  | [], _ => ⟨rfl, rfl⟩
  | c :: l, h => by
    have h1 := h c (by simp)
    obtain ⟨a, _⟩ := fX_none (updI f c.p c.b) p l fun d hd => h d (by simp [hd])
    obtain ⟨_, b⟩ := fX_none (updI f c.p c.k) p l fun d hd => h d (by simp [hd])
    constructor
    · show fX (updI f c.p c.b) l p = _
      rw [a]; unfold updI; rw [if_neg (Ne.symm h1)]
    · show gX (updI f c.p c.k) l p = _
      rw [b]; unfold updI; rw [if_neg (Ne.symm h1)]
theorem fX_last (f g : Nat → Int) (l : List Wr) (i : Nat) (h : i < l.length) (p : Nat) (hp : l[i].p = p) (ha : ∀ j (hj : j < l.length), i < j → l[j].p ≠ p) : fX f l p = l[i].b ∧ gX g l p = l[i].k := by
  have e : l = l.take i ++ (l[i] :: l.drop (i + 1)) := by
    rw [← List.drop_eq_getElem_cons h, List.take_append_drop]
  have hn : ∀ c ∈ l.drop (i + 1), c.p ≠ p := by
    intro c hc
    obtain ⟨j, hj, rfl⟩ := List.getElem_of_mem hc
    rw [List.length_drop] at hj
    rw [List.getElem_drop]
    exact ha _ (by omega) (by omega)
  constructor
  · conv => lhs; rw [e]
    rw [fX_append]
    show fX (updI _ l[i].p l[i].b) (l.drop (i + 1)) p = _
    rw [(fX_none _ p _ hn).1]; unfold updI; rw [if_pos hp.symm]
  · conv => lhs; rw [e]
    rw [gX_append]
    show gX (updI _ l[i].p l[i].k) (l.drop (i + 1)) p = _
    rw [(fX_none _ p _ hn).2]; unfold updI; rw [if_pos hp.symm]
theorem wrs_split {l : List Wr} {i : Nat} (h : i < l.length) : wrsV l = wrsV (l.take i) ++ (wrV l[i] ++ wrsV (l.drop (i + 1))) := by
  conv => lhs; rw [← List.take_append_drop i l, List.drop_eq_getElem_cons h]
  rw [wrsV_append]
  rfl
theorem wr_get {l : List Wr} {i : Nat} (h : i < l.length) (r : Nat) (hr : r < 3) {off : Nat} (ho : off = i * 3 + r) : getAt off (wrsV l) = (wrV l[i])[r]? := by
  rw [getAt_eq, wrs_split h, ho]
  have e : (wrsV (l.take i)).length = i * 3 := by rw [wrsV_len, List.length_take, Nat.min_eq_left (by omega)]
  rw [List.getElem?_append_right (by omega), e, show i * 3 + r - i * 3 = r by omega, List.getElem?_append_left hr]
theorem aggI64 : aggB Try.prog 3 = some false := by kernel_rfl
theorem sizeI64 : sizeB Try.prog 3 = some 1 := by kernel_rfl
theorem partI64 {cs : List Val} {off : Nat} {v : Val} (h : getAt off cs = some v) : partV Try.prog 3 cs off = some v := by
  unfold partV; rw [aggI64, sizeI64]; exact h
theorem pget_F (mk : Mk) (k lo : Nat) (X : List Wr) (r : Nat) (p : Nat) (hp : p < 1048576) (hk : X.length + 4 ≤ k) (hl : X.length ≤ 100000) (H : List Blk) (hg : H[r]? = some ⟨wrsV X, true⟩) :
    FF mk k lo 13 [.sl (.hp r) 0 X.length 3, .int .i64 (p : Int)] H = some (.tup [.int .u8 (fX (fun _ => 0) X p), .int .i64 (gX (fun _ => 0) X p)], H) := by
  obtain ⟨k, rfl⟩ : ∃ m, k = m + 1 := ⟨k - 1, by omega⟩
  refine eq_of_ends ?_
  conv => enter [1]; whnf
  have e0 : IntKind.i64.wrap ((X.length : Int) - 1) = (X.length : Int) - 1 := by rw [w64]; omega
  rw [e0]
  refine Ends.loop (fun m T M => ∃ i : Int, -1 ≤ i ∧ i < X.length ∧ (i + 1).toNat < m ∧ (∀ j (hj : j < X.length), i < j → X[j].p ≠ p) ∧ T = [.sl (.hp r) 0 X.length 3, .int .i64 (p : Int), .undef, .undef, .undef, .undef, .int .i64 i, .undef, .undef, .undef, .undef, .undef, .undef, .undef, .undef, .undef, .undef, .undef, .undef, .undef, .undef, .undef, .undef, .undef, .undef, .undef, .undef, .undef, .undef, .undef, .undef] ∧ M = ⟨[], H⟩) (fun T M ⟨j, _, _, h, _⟩ => by omega) ?_ _ _ ⟨(X.length : Int) - 1, by omega, by omega, by omega, fun j hj h => by omega, rfl, rfl⟩
  rintro m T M L ⟨i, i1, i2, i3, hi, rfl, rfl⟩ hL
  conv => enter [1]; whnf
  refine Ends.ite (fun c => ?_) (fun c => ?_) <;> (conv => enter [1]; whnf)
  · have c1 : 0 ≤ i := by have := of_decide_eq_true c; omega
    obtain ⟨n, rfl⟩ := Int.eq_ofNat_of_zero_le c1
    have hn : n < X.length := by omega
    refine Ends.iteT (decide_eq_true (by omega)) ?_
    conv => enter [1]; whnf
    refine Ends.opt (get_at hg _) ?_
    conv => enter [1]; whnf
    refine Ends.opt (partI64 ((wr_get hn 0 (by omega) (by show 0 + ((n : Nat) : Int).toNat * 3 + 0 = _; omega)).trans rfl)) ?_
    conv => enter [1]; whnf
    by_cases e : X[n].p = p
    · refine Ends.iteT (beq_iff_eq.2 (by rw [e])) ?_
      conv => enter [1]; whnf
      obtain ⟨f1, f2⟩ := fX_last (fun _ => 0) (fun _ => 0) X n hn p e fun j hj h => hi j hj (by omega)
      refine Ends.iteT (decide_eq_true (by omega)) ?_
      conv => enter [1]; whnf
      refine Ends.opt (get_at hg _) ?_
      conv => enter [1]; whnf
      refine Ends.opt (partU8 ((wr_get hn 1 (by omega) (by show 0 + ((n : Nat) : Int).toNat * 3 + 1 = _; omega)).trans rfl)) ?_
      conv => enter [1]; whnf
      refine Ends.iteT (decide_eq_true (by omega)) ?_
      conv => enter [1]; whnf
      refine Ends.opt (get_at hg _) ?_
      conv => enter [1]; whnf
      refine Ends.opt (partI64 ((wr_get hn 2 (by omega) (by show 0 + ((n : Nat) : Int).toNat * 3 + 2 = _; omega)).trans rfl)) ?_
      conv => enter [1]; whnf
      refine Ends.some' ?_
      rw [f1, f2]
    · refine Ends.iteF (beq_eq_false_iff_ne.2 (by omega)) ?_
      conv => enter [1]; whnf
      have e1 : IntKind.i64.wrap ((n : Int) - 1) = (n : Int) - 1 := by rw [w64]; omega
      refine hL _ ⟨(n : Int) - 1, by omega, by omega, by omega, fun j hj h => ?_, ?_, rfl⟩
      · by_cases z : j = n
        · subst z; exact e
        · exact hi j hj (by omega)
      · rw [e1]; rfl
  · have c1 : i = -1 := by have := of_decide_eq_false c; omega
    subst c1
    obtain ⟨f1, f2⟩ := fX_none (fun _ => 0) p X fun c hc => by
      obtain ⟨j, hj, rfl⟩ := List.getElem_of_mem hc
      exact hi j hj (by omega)
    refine Ends.some' ?_
    rw [f1, f2]
theorem rlin_F (mk : Mk) (k lo : Nat) (hk : 1 ≤ k) (s o : Int) (hs : U16 s) (ho : U16 o) (H : List Blk) : FF mk k lo 9 [.int .u16 s, .int .u16 o] H = some (.int .i64 (linN s o : Int), H) := by
  obtain ⟨k, rfl⟩ : ∃ m, k = m + 1 := ⟨k - 1, by omega⟩
  refine eq_of_ends ?_
  conv => enter [1]; whnf
  repeat' (first
    | refine Ends.some' ?_
    | (refine Ends.force ?_; conv => enter [1]; whnf)
    | (refine Ends.forceN ?_; conv => enter [1]; whnf)
    | (refine Ends.forceLs ?_; conv => enter [1]; whnf)
    | (refine Ends.iteT (by first | with_reducible assumption | (simp [*]; done) | (apply decide_eq_true; omega) | fail "open") ?_; conv => enter [1]; whnf)
    | (refine Ends.iteF (by first | with_reducible assumption | (simp [*]; done) | (apply decide_eq_false; omega) | fail "open") ?_; conv => enter [1]; whnf)
    | (refine Ends.ite (fun h => ?_) (fun h => ?_) <;> (conv => enter [1]; whnf)))
  unfold U16 at hs ho
  have e : (IntKind.i64.wrap (IntKind.i64.wrap (IntKind.i64.wrap s * 16) + IntKind.i64.wrap o)).tmod 1048576 = (linN s o : Int) := by
    rw [w64s s (by omega) (by omega), w64s o (by omega) (by omega), w64s (s * 16) (by omega) (by omega), w64s _ (by omega) (by omega), Int.tmod_eq_emod_of_nonneg (by omega)]
    have := linZ_lt s o
    unfold linN linZ at *
    omega
  rw [e]
structure ActV where
  w : Int
  sg : Int
  o : Int
  v : Int
  t : Bool
def actV (a : ActV) : List Val := [.int .i64 a.w, .int .u16 a.sg, .int .u16 a.o, .int .u16 a.v, .bool a.t]
def actsV (l : List ActV) : List Val := (l.map actV).flatten
theorem near02_F (mk : Mk) (k lo : Nat) (hk : 1 ≤ k) (a : ActV) (h1 : U16 a.sg) (h2 : U16 a.o) (i : Int) (H : List Blk) : Ends (FF mk k lo 8 [.agg (actV a), .int .i64 i] H) fun r => r.2 = H ∧ ∃ s o, r.1 = .tup [.int .u16 s, .int .u16 o] ∧ U16 s ∧ U16 o := by
  obtain ⟨k, rfl⟩ : ∃ m, k = m + 1 := ⟨k - 1, by omega⟩
  obtain ⟨w, sg, o, v, t⟩ := a
  conv => enter [1]; whnf
  refine Ends.ite (fun c => ?_) (fun c => ?_) <;> (conv => enter [1]; whnf)
  · refine Ends.some' ⟨rfl, _, _, rfl, h1, h2⟩
  · refine Ends.ite (fun c => ?_) (fun c => ?_) <;> (conv => enter [1]; whnf)
    · refine Ends.some' ⟨rfl, _, _, rfl, h1, by unfold U16; decide⟩
    · refine Ends.some' ⟨rfl, _, _, rfl, ?_, ?_⟩
      · unfold U16; rw [wu16]; omega
      · unfold U16; rw [wu16]; omega
end Go.Proofs.Ytfflejhodmcoeaa.VM
