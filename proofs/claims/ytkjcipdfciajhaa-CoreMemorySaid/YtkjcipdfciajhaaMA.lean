/- A memory of 2^20 bytes as the plain machine has it: two rows of cells, each a function of the place. -/
import Derived.Test.YtkjcipdfciajhaaWB
namespace Go.Proofs.Ytkjcipdfciajhaa.VM
open Go Go.RowKit
set_option linter.unusedVariables false
set_option linter.unusedSimpArgs false
set_option maxRecDepth 40000
set_option maxHeartbeats 1600000
/-- A row of N bytes (N stays a letter: 2^20 would be told out). -/
def memL (N : Nat) (f : Nat → Int) : List Val := (List.range N).map fun i => .int .u8 (f i)
def updI (f : Nat → Int) (i : Nat) (x : Int) : Nat → Int := fun j => if j = i then x else f j
theorem memL_len (N : Nat) (f : Nat → Int) : (memL N f).length = N := by simp [memL]
theorem memL_get (N : Nat) (f : Nat → Int) {i : Nat} (h : i < N) : getAt i (memL N f) = some (.int .u8 (f i)) := by
  rw [getAt_eq]; simp [memL, h]
theorem putAt_one : ∀ (i : Nat) (v : Val) (l : List Val), i < l.length → putAt i [v] l = some (l.set i v)
  | 0, v, x :: l, _ => by cases l <;> rfl
  | i + 1, v, x :: l, h => by
    have := putAt_one i v l (by simpa using h)
    show (putAt i [v] l).map (x :: ·) = _
    rw [this]; rfl
  | _, _, [], h => by simp at h
theorem memL_put (N : Nat) (f : Nat → Int) {i : Nat} (h : i < N) (x : Int) : putAt i [.int .u8 x] (memL N f) = some (memL N (updI f i x)) := by
  rw [putAt_one _ _ _ (by rw [memL_len]; exact h)]
  congr 1
  apply List.ext_getElem?
  intro j
  by_cases hj : j = i
  · subst hj
    rw [List.getElem?_set_self (by rw [memL_len]; exact h)]
    simp [memL, updI, h]
  · rw [List.getElem?_set_ne (Ne.symm hj)]
    simp only [memL, List.getElem?_map, updI]
    by_cases hj2 : j < N
    · simp [List.getElem?_range hj2, hj]
    · rw [List.getElem?_eq_none (by simp; omega)]; rfl
theorem rep_flat (z : Val) : ∀ n, (List.replicate n [z]).flatten = List.replicate n z
  | 0 => rfl
  | n + 1 => by rw [List.replicate_succ, List.flatten_cons, rep_flat z n]; rfl
theorem memL_zero (mk : Mk) (N : Nat) : mk.f N [.int .u8 0] = memL N fun _ => 0 := by
  rw [mk.ok]
  unfold repeatV memL
  rw [rep_flat]
  apply List.ext_getElem?
  intro j
  by_cases hj : j < N
  · simp [hj]
  · rw [List.getElem?_eq_none (by simp; omega), List.getElem?_eq_none (by simp; omega)]
theorem aggU8 : aggB Try.prog 5 = some false := by kernel_rfl
theorem sizeU8 : sizeB Try.prog 5 = some 1 := by kernel_rfl
theorem partU8 {cs : List Val} {off : Nat} {v : Val} (h : getAt off cs = some v) : partV Try.prog 5 cs off = some v := by
  unfold partV; rw [aggU8, sizeU8]; exact h
theorem partMem (N : Nat) (f : Nat → Int) (i : Nat) (h : i < N) {off : Nat} (ho : off = i) : partV Try.prog 5 (memL N f) off = some (.int .u8 (f i)) := by
  subst ho; exact partU8 (memL_get N f h)
theorem putMemAt (N : Nat) (f : Nat → Int) (i : Nat) (x : Int) (h : i < N) {off : Nat} (ho : off = i) : putAt off [.int .u8 x] (memL N f) = some (memL N (updI f i x)) := by
  subst ho; exact memL_put N f h x
/-- The memory: its own block, and the blocks of its two rows. -/
structure HasMem (N : Nat) (H : List Blk) (p q s : Nat) (f g : Nat → Int) : Prop where
  n : N = 1048576
  hp : H[p]? = some ⟨[.sl (.hp q) 0 1048576 1, .sl (.hp s) 0 1048576 1], true⟩
  hq : H[q]? = some ⟨memL N f, true⟩
  hs : H[s]? = some ⟨memL N g, true⟩
  pq : p ≠ q
  ps : p ≠ s
  qs : q ≠ s
theorem HasMem.getP {N : Nat} {H : List Blk} {p q s : Nat} {f g : Nat → Int} (h : HasMem N H p q s f g) (loc : List (List Val)) : Mem.get ⟨loc, H⟩ (.hp p) = some [.sl (.hp q) 0 1048576 1, .sl (.hp s) 0 1048576 1] := by
  simp [Mem.get, h.hp]
theorem HasMem.getQ {N : Nat} {H : List Blk} {p q s : Nat} {f g : Nat → Int} (h : HasMem N H p q s f g) (loc : List (List Val)) : Mem.get ⟨loc, H⟩ (.hp q) = some (memL N f) := by
  simp [Mem.get, h.hq]
theorem HasMem.getS {N : Nat} {H : List Blk} {p q s : Nat} {f g : Nat → Int} (h : HasMem N H p q s f g) (loc : List (List Val)) : Mem.get ⟨loc, H⟩ (.hp s) = some (memL N g) := by
  simp [Mem.get, h.hs]
theorem get_setn {loc : List (List Val)} {A : List Blk} {p q : Nat} {Z : Blk} {cs : List Val} (h : p ≠ q) (hg : Mem.get ⟨loc, A⟩ (.hp q) = some cs) : Mem.get ⟨loc, A.set p Z⟩ (.hp q) = some cs := by
  simp only [Mem.get] at *
  rw [List.getElem?_set_ne h]; exact hg
theorem may_hp {lo q : Nat} (h : lo ≤ q) : mayWrite lo (.hp q) = true := by simpa [mayWrite] using h
/-- The memory with other rows. -/
def putMem (N : Nat) (H : List Blk) (q s : Nat) (f g : Nat → Int) : List Blk := (H.set q ⟨memL N f, true⟩).set s ⟨memL N g, true⟩
theorem mok_F (mk : Mk) (k lo : Nat) (hk : 1 ≤ k) {N : Nat} {H : List Blk} {p q s : Nat} {f g : Nat → Int} (h : HasMem N H p q s f g) : FF mk k lo 41 [.ptr (.hp p) 0] H = some (.bool true, H) := by
  obtain ⟨k, rfl⟩ : ∃ m, k = m + 1 := ⟨k - 1, by omega⟩
  refine eq_of_ends ?_
  conv => enter [1]; whnf
  repeat' (first
    | refine Ends.some' ?_
    | (refine Ends.force ?_; conv => enter [1]; whnf)
    | (refine Ends.forceN ?_; conv => enter [1]; whnf)
    | (refine Ends.forceLs ?_; conv => enter [1]; whnf)
    | (refine Ends.opt (h.getP _) ?_; conv => enter [1]; whnf)
    | (refine Ends.iteT (by first | with_reducible assumption | (simp [*]; done) | (apply decide_eq_true; omega) | fail "open") ?_; conv => enter [1]; whnf)
    | (refine Ends.iteF (by first | with_reducible assumption | (simp [*]; done) | (apply decide_eq_false; omega) | fail "open") ?_; conv => enter [1]; whnf)
    | (refine Ends.ite (fun h => ?_) (fun h => ?_) <;> (conv => enter [1]; whnf)))
  all_goals (first | (with_reducible rfl) | rfl | (simp_all; done))
theorem mok_N (mk : Mk) (k lo : Nat) (hk : 1 ≤ k) (H : List Blk) : FF mk k lo 41 [.nilp] H = some (.bool false, H) := by
  obtain ⟨k, rfl⟩ : ∃ m, k = m + 1 := ⟨k - 1, by omega⟩
  kernel_rfl
theorem mat_F (mk : Mk) (k lo : Nat) (hk : 2 ≤ k) {N : Nat} {H : List Blk} {p q s : Nat} {f g : Nat → Int} (h : HasMem N H p q s f g) (a : Int) (h0 : 0 ≤ a) : FF mk k lo 24 [.ptr (.hp p) 0, .int .u32 a] H = some (.int .u8 (f (a % 1048576).toNat), H) := by
  obtain ⟨k, rfl⟩ : ∃ m, k = m + 1 := ⟨k - 1, by omega⟩
  have hm : a.tmod 1048576 = a % 1048576 := Int.tmod_eq_emod_of_nonneg h0
  have hn := h.n
  refine eq_of_ends ?_
  conv => enter [1]; whnf
  refine Ends.call (mok_F mk _ _ (by omega) h) ?_
  conv => enter [1]; whnf
  refine Ends.opt (h.getP _) ?_
  conv => enter [1]; whnf
  refine Ends.iteT (decide_eq_true (by rw [hm]; omega)) ?_
  conv => enter [1]; whnf
  refine Ends.opt (h.getQ _) ?_
  conv => enter [1]; whnf
  refine Ends.opt (partMem N f (a % 1048576).toNat (by omega) (by rw [hm]; omega)) ?_
  conv => enter [1]; whnf
  refine Ends.some' ?_
  rfl
theorem mat_N (mk : Mk) (k lo : Nat) (hk : 2 ≤ k) (H : List Blk) (a : Int) : FF mk k lo 24 [.nilp, .int .u32 a] H = some (.int .u8 0, H) := by
  obtain ⟨k, rfl⟩ : ∃ m, k = m + 2 := ⟨k - 2, by omega⟩
  kernel_rfl
theorem mplain_F (mk : Mk) (k lo : Nat) (hk : 2 ≤ k) {N : Nat} {H : List Blk} {p q s : Nat} {f g : Nat → Int} (h : HasMem N H p q s f g) (a : Int) (h0 : 0 ≤ a) : FF mk k lo 25 [.ptr (.hp p) 0, .int .u32 a] H = some (.bool (g (a % 1048576).toNat == 0), H) := by
  obtain ⟨k, rfl⟩ : ∃ m, k = m + 1 := ⟨k - 1, by omega⟩
  have hm : a.tmod 1048576 = a % 1048576 := Int.tmod_eq_emod_of_nonneg h0
  have hn := h.n
  refine eq_of_ends ?_
  conv => enter [1]; whnf
  refine Ends.call (mok_F mk _ _ (by omega) h) ?_
  conv => enter [1]; whnf
  refine Ends.opt (h.getP _) ?_
  conv => enter [1]; whnf
  refine Ends.iteT (decide_eq_true (by rw [hm]; omega)) ?_
  conv => enter [1]; whnf
  refine Ends.opt (h.getS _) ?_
  conv => enter [1]; whnf
  refine Ends.opt (partMem N g (a % 1048576).toNat (by omega) (by rw [hm]; omega)) ?_
  conv => enter [1]; whnf
  refine Ends.some' ?_
  rfl
theorem mplain_N (mk : Mk) (k lo : Nat) (hk : 2 ≤ k) (H : List Blk) (a : Int) : FF mk k lo 25 [.nilp, .int .u32 a] H = some (.bool true, H) := by
  obtain ⟨k, rfl⟩ : ∃ m, k = m + 2 := ⟨k - 2, by omega⟩
  kernel_rfl
theorem mset_F (mk : Mk) (k lo : Nat) (hk : 2 ≤ k) {N : Nat} {H : List Blk} {p q s : Nat} {f g : Nat → Int} (h : HasMem N H p q s f g) (hq : lo ≤ q) (hs : lo ≤ s) (a b : Int) (h0 : 0 ≤ a) : FF mk k lo 56 [.ptr (.hp p) 0, .int .u32 a, .int .u8 b] H = some (.tup [], putMem N H q s (updI f (a % 1048576).toNat b) (updI g (a % 1048576).toNat 0)) := by
  obtain ⟨k, rfl⟩ : ∃ m, k = m + 1 := ⟨k - 1, by omega⟩
  have hm : a.tmod 1048576 = a % 1048576 := Int.tmod_eq_emod_of_nonneg h0
  have hn := h.n
  refine eq_of_ends ?_
  conv => enter [1]; whnf
  refine Ends.call (mok_F mk _ _ (by omega) h) ?_
  conv => enter [1]; whnf
  have i1 : decide (0 ≤ a.tmod 1048576 ∧ a.tmod 1048576 < 1048576) = true := decide_eq_true (by rw [hm]; omega)
  refine Ends.opt (h.getP _) ?_
  conv => enter [1]; whnf
  refine Ends.opt (h.getP _) ?_
  conv => enter [1]; whnf
  refine Ends.iteT i1 ?_
  conv => enter [1]; whnf
  refine Ends.iteT (may_hp hq) ?_
  conv => enter [1]; whnf
  refine Ends.opt (h.getQ _) ?_
  conv => enter [1]; whnf
  refine Ends.opt (putMemAt N f (a % 1048576).toNat b (by omega) (by rw [hm]; omega)) ?_
  conv => enter [1]; whnf
  refine Ends.force ?_
  conv => enter [1]; whnf
  refine Ends.iteT i1 ?_
  conv => enter [1]; whnf
  refine Ends.iteT (may_hp hs) ?_
  conv => enter [1]; whnf
  refine Ends.opt (get_setn h.qs (h.getS _)) ?_
  conv => enter [1]; whnf
  refine Ends.opt (putMemAt N g (a % 1048576).toNat 0 (by omega) (by rw [hm]; omega)) ?_
  conv => enter [1]; whnf
  refine Ends.force ?_
  conv => enter [1]; whnf
  exact Ends.some' rfl
end Go.Proofs.Ytkjcipdfciajhaa.VM
