/- A memory's bytes in rows, loaded and told, in the plain machine. -/
import Derived.Test.YtkjcipdfciajhaaMH
namespace Go.Proofs.Ytkjcipdfciajhaa.VM
open Go Go.RowKit
set_option linter.unusedVariables false
set_option linter.unusedSimpArgs false
set_option maxRecDepth 40000
set_option maxHeartbeats 1600000
/-- The rows with bytes loaded from a place on. -/
def ldF (f : Nat → Int) (a : Nat) (l : List UInt8) (j : Nat) : Nat → Int := fun x => if a ≤ x ∧ x < a + j then ((l.getD (x - a) 0).toNat : Int) else f x
def ldG (g : Nat → Int) (a j : Nat) : Nat → Int := fun x => if a ≤ x ∧ x < a + j then 0 else g x
theorem ldF_zero (f : Nat → Int) (a : Nat) (l : List UInt8) : ldF f a l 0 = f := by
  funext x; unfold ldF; rw [if_neg (by omega)]
theorem ldG_zero (g : Nat → Int) (a : Nat) : ldG g a 0 = g := by
  funext x; unfold ldG; rw [if_neg (by omega)]
theorem ldF_succ (f : Nat → Int) (a : Nat) (l : List UInt8) (j : Nat) (h : j < l.length) : updI (ldF f a l j) (a + j) (l[j].toNat : Int) = ldF f a l (j + 1) := by
  funext x
  unfold updI ldF
  by_cases e : x = a + j
  · rw [if_pos e, if_pos (by omega), show x - a = j by omega]
    simp [List.getD_eq_getElem?_getD, h]
  · rw [if_neg e]
    by_cases c : a ≤ x ∧ x < a + j
    · rw [if_pos c, if_pos (by omega)]
    · rw [if_neg c, if_neg (by omega)]
theorem ldG_succ (g : Nat → Int) (a j : Nat) : updI (ldG g a j) (a + j) 0 = ldG g a (j + 1) := by
  funext x
  unfold updI ldG
  by_cases e : x = a + j
  · rw [if_pos e, if_pos (by omega)]
  · rw [if_neg e]
    by_cases c : a ≤ x ∧ x < a + j
    · rw [if_pos c, if_pos (by omega)]
    · rw [if_neg c, if_neg (by omega)]
theorem set_self {α : Type} {l : List α} {i : Nat} {x : α} (h : l[i]? = some x) : l.set i x = l := by
  apply List.ext_getElem?
  intro j
  by_cases e : i = j
  · subst e; rw [List.getElem?_set_self (List.getElem?_eq_some_iff.1 h).1, h]
  · rw [List.getElem?_set_ne e]
theorem HasMem.same {N : Nat} {H : List Blk} {p q s : Nat} {f g : Nat → Int} (h : HasMem N H p q s f g) : putMem N H q s f g = H := by
  unfold putMem; rw [set_self h.hq, set_self h.hs]
theorem putMem_ne (N : Nat) (H : List Blk) {q s b : Nat} (f g : Nat → Int) (h1 : b ≠ q) (h2 : b ≠ s) : (putMem N H q s f g)[b]? = H[b]? := by
  unfold putMem; rw [List.getElem?_set_ne (Ne.symm h2), List.getElem?_set_ne (Ne.symm h1)]
theorem mload_sl (mk : Mk) (k lo : Nat) {N : Nat} {H : List Blk} {p q s : Nat} {f g : Nat → Int} (h : HasMem N H p q s f g) (hq : lo ≤ q) (hs : lo ≤ s) (at0 : Int) (h0 : 0 ≤ at0) (h1 : at0 < 4294967296) (l : List UInt8) (b off : Nat) (pre post : List Val) (hk : l.length + 4 ≤ k) (hl : l.length ≤ 100000) (ho : off = pre.length) (hg : H[b]? = some ⟨pre ++ (bV l ++ post), true⟩) (b1 : b ≠ q) (b2 : b ≠ s) (a : Nat) (ha : (a : Int) = at0 % 1048576) :
    FF mk k lo 47 [.ptr (.hp p) 0, .int .u32 at0, .sl (.hp b) off l.length 1] H = some (.tup [], putMem N H q s (ldF f a l (min l.length (1048576 - a))) (ldG g a (min l.length (1048576 - a)))) := by
  obtain ⟨k, rfl⟩ : ∃ m, k = m + 1 := ⟨k - 1, by omega⟩
  have hm : at0.tmod 1048576 = (a : Int) := by rw [ha]; exact Int.tmod_eq_emod_of_nonneg h0
  have han : a < 1048576 := by omega
  obtain ⟨J, hJ⟩ : ∃ J, J = min l.length (1048576 - a) := ⟨_, rfl⟩
  rw [← hJ]
  refine eq_of_ends ?_
  conv => enter [1]; whnf
  refine Ends.loop (fun m T M => ∃ j : Nat, j ≤ J ∧ l.length - j < m ∧ T = [.ptr (.hp p) 0, .int .u32 at0, .undef, .undef, .undef, .undef, .undef, .undef, .sl (.hp b) off l.length 1, .int .i64 l.length, .int .i64 j, .undef, .undef, .undef, .undef, .undef, .undef, .undef, .undef, .undef, .undef, .undef, .undef, .undef, .undef, .undef, .undef, .undef, .undef, .undef] ∧ M = ⟨[], putMem N H q s (ldF f a l j) (ldG g a j)⟩) (fun T M ⟨j, _, h, _⟩ => by omega) ?_ _ _ ⟨0, by omega, by omega, rfl, by rw [ldF_zero, ldG_zero, h.same]⟩
  rintro m T M L ⟨j, j1, j2, rfl, rfl⟩ hL
  conv => enter [1]; whnf
  refine Ends.ite (fun c => ?_) (fun c => ?_) <;> (conv => enter [1]; whnf)
  · have c1 : j < l.length := by have := of_decide_eq_true c; omega
    refine Ends.iteT (decide_eq_true (by omega)) ?_
    conv => enter [1]; whnf
    refine Ends.opt (get_at ((putMem_ne N H _ _ b1 b2).trans hg) _) ?_
    conv => enter [1]; whnf
    refine Ends.opt (part_b j c1 (by omega)) ?_
    conv => enter [1]; whnf
    have e1 : IntKind.i64.wrap (1048576 - IntKind.i64.wrap (at0.tmod 1048576)) = ((1048576 - a : Nat) : Int) := by
      rw [hm, w64s (a : Int) (by omega) (by omega), w64s _ (by omega) (by omega)]; omega
    rw [e1]
    by_cases c2 : j < 1048576 - a
    · refine Ends.iteF (decide_eq_false (by omega)) ?_
      conv => enter [1]; whnf
      have e2 : IntKind.u32.wrap (at0.tmod 1048576 + IntKind.u32.wrap (j : Int)) = ((a + j : Nat) : Int) := by
        rw [hm, wu32 (j : Int), Int.emod_eq_of_lt (by omega) (by omega), wu32, Int.emod_eq_of_lt (by omega) (by omega)]; omega
      rw [e2]
      have hh := h.put (ldF f a l j) (ldG g a j)
      have hc := mset_F mk k lo (by omega) hh hq hs ((a + j : Nat) : Int) (l[j].toNat : Int) (by omega)
      rw [putMem_put N H h.qs, show (((a + j : Nat) : Int) % 1048576).toNat = a + j by omega, ldF_succ f a l j c1, ldG_succ] at hc
      refine Ends.call hc ?_
      conv => enter [1]; whnf
      refine hL _ ⟨j + 1, by omega, by omega, ?_, rfl⟩
      have e3 : IntKind.i64.wrap ((j : Int) + 1) = ((j + 1 : Nat) : Int) := by rw [w64]; omega
      rw [← e3]
      rfl
    · have : j = J := by omega
      subst this
      refine Ends.iteT (decide_eq_true (by omega)) ?_
      conv => enter [1]; whnf
      exact Ends.some' rfl
  · have : j = J := by have := of_decide_eq_false c; omega
    subst this
    exact Ends.some' rfl
theorem mset_N (mk : Mk) (k lo : Nat) (hk : 2 ≤ k) (H : List Blk) (a b : Int) : FF mk k lo 56 [.nilp, .int .u32 a, .int .u8 b] H = some (.tup [], H) := by
  obtain ⟨k, rfl⟩ : ∃ m, k = m + 2 := ⟨k - 2, by omega⟩
  kernel_rfl
theorem mload_nil (mk : Mk) (k lo : Nat) (hk : 4 ≤ k) (H : List Blk) (v : Val) (a : Int) : FF mk k lo 47 [v, .int .u32 a, .nils] H = some (.tup [], H) := by
  obtain ⟨k, rfl⟩ : ∃ m, k = m + 4 := ⟨k - 4, by omega⟩
  refine eq_of_ends ?_
  conv => enter [1]; whnf
  exact Ends.some' rfl
theorem mload_N (mk : Mk) (k lo : Nat) {H : List Blk} (at0 : Int) (h0 : 0 ≤ at0) (h1 : at0 < 4294967296) (l : List UInt8) (b off : Nat) (pre post : List Val) (hk : l.length + 4 ≤ k) (hl : l.length ≤ 100000) (ho : off = pre.length) (hg : H[b]? = some ⟨pre ++ (bV l ++ post), true⟩) :
    FF mk k lo 47 [.nilp, .int .u32 at0, .sl (.hp b) off l.length 1] H = some (.tup [], H) := by
  obtain ⟨k, rfl⟩ : ∃ m, k = m + 1 := ⟨k - 1, by omega⟩
  refine eq_of_ends ?_
  conv => enter [1]; whnf
  refine Ends.loop (fun m T M => ∃ j : Nat, j ≤ l.length ∧ l.length - j < m ∧ T = [.nilp, .int .u32 at0, .undef, .undef, .undef, .undef, .undef, .undef, .sl (.hp b) off l.length 1, .int .i64 l.length, .int .i64 j, .undef, .undef, .undef, .undef, .undef, .undef, .undef, .undef, .undef, .undef, .undef, .undef, .undef, .undef, .undef, .undef, .undef, .undef, .undef] ∧ M = ⟨[], H⟩) (fun T M ⟨j, _, h, _⟩ => by omega) ?_ _ _ ⟨0, by omega, by omega, rfl, rfl⟩
  rintro m T M L ⟨j, j1, j2, rfl, rfl⟩ hL
  conv => enter [1]; whnf
  refine Ends.ite (fun c => ?_) (fun c => ?_) <;> (conv => enter [1]; whnf)
  · have c1 : j < l.length := by have := of_decide_eq_true c; omega
    refine Ends.iteT (decide_eq_true (by omega)) ?_
    conv => enter [1]; whnf
    refine Ends.opt (get_at hg _) ?_
    conv => enter [1]; whnf
    refine Ends.opt (part_b j c1 (by omega)) ?_
    conv => enter [1]; whnf
    refine Ends.ite (fun c2 => ?_) (fun c2 => ?_) <;> (conv => enter [1]; whnf)
    · exact Ends.some' rfl
    · refine Ends.call (mset_N mk _ _ (by omega) _ _ _) ?_
      conv => enter [1]; whnf
      refine hL _ ⟨j + 1, by omega, by omega, ?_, rfl⟩
      have e3 : IntKind.i64.wrap ((j : Int) + 1) = ((j + 1 : Nat) : Int) := by rw [w64]; omega
      rw [← e3]
      rfl
  · exact Ends.some' rfl
/-- Some bytes of a row. -/
def rowF (f : Nat → Int) (a n : Nat) : List Val := (List.range n).map fun i => .int .u8 (f (a + i))
theorem rowF_len (f : Nat → Int) (a n : Nat) : (rowF f a n).length = n := by simp [rowF]
theorem rowF_shared (f : Nat → Int) (a n : Nat) : (rowF f a n).all shared = true := by
  unfold rowF
  rw [List.all_map, List.all_eq_true]
  intro b hb
  rfl
theorem rowF_part (f : Nat → Int) (a n i : Nat) (h : i < n) {off : Nat} (ho : off = i) : partV Try.prog 5 (rowF f a n) off = some (.int .u8 (f (a + i))) := by
  subst ho
  refine partU8 ?_
  rw [getAt_eq]; simp [rowF, h]
theorem memL_part (N : Nat) (f : Nat → Int) (a n : Nat) (h : a + n ≤ N) : part? a n (memL N f) = some (rowF f a n) := by
  have e : memL N f = (memL a f) ++ (rowF f a n ++ (List.range (N - a - n)).map fun i => .int .u8 (f (a + n + i))) := by
    apply List.ext_getElem?
    intro i
    simp only [memL, rowF]
    by_cases h1 : i < a
    · rw [List.getElem?_append_left (by simp; exact h1)]
      simp [h1, show i < N by omega]
    · rw [List.getElem?_append_right (by simp; omega)]
      simp only [List.length_map, List.length_range]
      by_cases h2 : i - a < n
      · rw [List.getElem?_append_left (by simp; exact h2)]
        simp [h2, show i < N by omega, show a + (i - a) = i by omega]
      · rw [List.getElem?_append_right (by simp; omega)]
        simp only [List.length_map, List.length_range]
        by_cases h3 : i < N
        · simp [h3, show i - a - n < N - a - n by omega, show a + n + (i - a - n) = i by omega]
        · rw [List.getElem?_eq_none (by simp; omega), List.getElem?_eq_none (by simp; omega)]
  rw [e]
  exact part_mid _ _ _ (memL_len a f).symm (rowF_len f a n).symm
theorem sc_mem {N : Nat} {H : List Blk} {q a n : Nat} {f : Nat → Int} (hq : ∀ loc, Mem.get ⟨loc, H⟩ (.hp q) = some (memL N f)) (h : a + n ≤ N) (loc : List (List Val)) {off m : Nat} (ho : off = a) (hm : m = n) : sliceCells ⟨loc, H⟩ 1 (.sl (.hp q) off m 1) = some (rowF f a n) := by
  subst ho; subst hm
  show (Mem.get ⟨loc, H⟩ (.hp q)).bind (part? off (m * 1)) = _
  rw [hq, Nat.mul_one]
  exact memL_part N f off m h
end Go.Proofs.Ytkjcipdfciajhaa.VM
