/- Rows of bytes as the plain machine has them, for memories too. -/
import Derived.Test.YtkjcipdfciajhaaMD
namespace Go.Proofs.Ytkjcipdfciajhaa.VM
open Go Go.RowKit
set_option linter.unusedVariables false
set_option linter.unusedSimpArgs false
set_option maxRecDepth 40000
set_option maxHeartbeats 1600000
/-- The cells of bytes. -/
def bV (l : List UInt8) : List Val := l.map fun b => .int .u8 b.toNat
theorem bV_len (l : List UInt8) : (bV l).length = l.length := by simp [bV]
theorem bV_append (x y : List UInt8) : bV (x ++ y) = bV x ++ bV y := by simp [bV]
theorem bV_shared (l : List UInt8) : (bV l).all shared = true := by
  unfold bV
  rw [List.all_map, List.all_eq_true]
  intro b hb
  rfl
theorem bytesOf_bV : ∀ l : List UInt8, bytesOf (bV l) = some l
  | [] => rfl
  | b :: l => by
    show (bytesOf (bV l)).map _ = _
    rw [bytesOf_bV l]
    simp
def sB (l : List UInt8) : ByteArray := ⟨l.toArray⟩
theorem sB_size (l : List UInt8) : (sB l).size = l.length := by simp [sB, ByteArray.size]
theorem sB_append (x y : List UInt8) : sB x ++ sB y = sB (x ++ y) := by
  apply ByteArray.ext
  rw [ByteArray.data_append]
  simp [sB]
theorem sB_list (l : List UInt8) : (sB l).data.toList = l := rfl
theorem bytesV_sB (l : List UInt8) : bytesV (sB l) = bV l := rfl
theorem sB_ofList (s : ByteArray) : s = sB s.data.toList := by
  apply ByteArray.ext; simp [sB]
theorem sB_extract (l : List UInt8) (i j : Nat) : (sB l).extract i j = sB ((l.take j).drop i) := by
  apply ByteArray.ext
  rw [ByteArray.data_extract]
  apply Array.ext'
  simp [sB, Array.toList_extract, List.extract_eq_take_drop, List.drop_take]
theorem takeN_all {α : Type} : ∀ (l r : List α), takeN l.length (l ++ r) = some l
  | [], r => by cases r <;> rfl
  | x :: l, r => by
    show (takeN l.length (l ++ r)).map (x :: ·) = _
    rw [takeN_all l r]; rfl
theorem dropN_all {α : Type} : ∀ (l r : List α), dropN l.length (l ++ r) = r
  | [], r => by cases r <;> rfl
  | x :: l, r => dropN_all l r
theorem drop0 {α : Type} (x : List α) : dropN 0 x = x := by cases x <;> rfl
theorem part_mid {α : Type} (a b c : List α) {off n : Nat} (h1 : off = a.length) (h2 : n = b.length) : part? off n (a ++ (b ++ c)) = some b := by
  subst h1; subst h2
  unfold part?
  rw [dropN_all, takeN_all]
/-- A slice of bytes. -/
def Bs (H : List Blk) (v : Val) (l : List UInt8) : Prop := (v = .nils ∧ l = []) ∨ ∃ b off pre post, v = .sl (.hp b) off l.length 1 ∧ off = pre.length ∧ H[b]? = some ⟨pre ++ (bV l ++ post), true⟩
/-- What there was is what it was. -/
def Grown (H H' : List Blk) : Prop := ∃ G, H' = H ++ G
theorem Grown.refl (H : List Blk) : Grown H H := ⟨[], by simp⟩
theorem Grown.trans {A B C : List Blk} (h : Grown A B) (h' : Grown B C) : Grown A C := by
  obtain ⟨X, rfl⟩ := h; obtain ⟨Y, rfl⟩ := h'; exact ⟨X ++ Y, by simp⟩
theorem Grown.len {A B : List Blk} (h : Grown A B) : A.length ≤ B.length := by
  obtain ⟨X, rfl⟩ := h; simp
theorem Grown.at {A B : List Blk} (h : Grown A B) {b : Nat} {k : Blk} (e : A[b]? = some k) : B[b]? = some k := by
  obtain ⟨X, rfl⟩ := h
  rw [List.getElem?_append_left (List.getElem?_eq_some_iff.1 e).1]; exact e
theorem Grown.one (A : List Blk) (k : Blk) : Grown A (A ++ [k]) := ⟨[k], rfl⟩
theorem Bs.grow {H H' : List Blk} {v : Val} {l : List UInt8} (h : Bs H v l) (g : Grown H H') : Bs H' v l := by
  rcases h with h | ⟨b, off, pre, post, h1, h2, h3⟩
  · exact .inl h
  · exact .inr ⟨b, off, pre, post, h1, h2, g.at h3⟩
theorem get_at {H : List Blk} {b : Nat} {cs : List Val} (h : H[b]? = some ⟨cs, true⟩) (loc : List (List Val)) : Mem.get ⟨loc, H⟩ (.hp b) = some cs := by simp [Mem.get, h]
theorem get_atG {H X : List Blk} {b : Nat} {cs : List Val} (h : H[b]? = some ⟨cs, true⟩) (loc : List (List Val)) : Mem.get ⟨loc, H ++ X⟩ (.hp b) = some cs := get_at (Grown.at ⟨X, rfl⟩ h) loc
theorem get_top (loc : List (List Val)) (G : List Blk) (cs : List Val) : Mem.get ⟨loc, G ++ [⟨cs, true⟩]⟩ (.hp G.length) = some cs := by
  simp [Mem.get]
theorem set_top (A : List Blk) (Y Z : Blk) : (A ++ [Y]).set A.length Z = A ++ [Z] := by simp
theorem at_lt {H : List Blk} {b : Nat} {k : Blk} (h : H[b]? = some k) : b < H.length := (List.getElem?_eq_some_iff.1 h).1
theorem part_b {pre post : List Val} {l : List UInt8} (i : Nat) (h : i < l.length) {off : Nat} (ho : off = pre.length + i) : partV Try.prog 5 (pre ++ (bV l ++ post)) off = some (.int .u8 l[i].toNat) := by
  refine partU8 ?_
  subst ho
  rw [getAt_eq, List.getElem?_append_right (by omega), show pre.length + i - pre.length = i by omega, List.getElem?_append_left (by rw [bV_len]; exact h)]
  simp [bV, h]
/-- The sum of bytes. -/
def totB : List UInt8 → Nat
  | [] => 0
  | b :: l => b.toNat + totB l
theorem totB_append (x y : List UInt8) : totB (x ++ y) = totB x + totB y := by
  induction x with
  | nil => simp [totB]
  | cons b x ih => simp only [List.cons_append, totB, ih]; omega
theorem totB_le (l : List UInt8) : totB l ≤ 255 * l.length := by
  induction l with
  | nil => simp [totB]
  | cons b x ih => have := b.toNat_lt; simp only [totB, List.length_cons]; omega
theorem totB_take (l : List UInt8) {j : Nat} (h : j < l.length) : totB (l.take (j + 1)) = totB (l.take j) + l[j].toNat := by
  rw [List.take_add_one, totB_append, List.getElem?_eq_getElem h]
  simp [totB]
/-- The byte that lets all come to 0. -/
def chkN (l : List UInt8) : Nat := (256 - totB l % 256) % 256
theorem chkN_lt (l : List UInt8) : chkN l < 256 := Nat.mod_lt _ (by decide)
def chkB (l : List UInt8) : UInt8 := (chkN l).toUInt8
theorem chkB_nat (l : List UInt8) : (chkB l).toNat = chkN l := by
  unfold chkB
  rw [Nat.toUInt8_eq, UInt8.toNat_ofNat']
  exact Nat.mod_eq_of_lt (chkN_lt l)
theorem toByte {n : Int} (h : (Lit.int .u8 n).wf = true) : ∃ b : UInt8, n = (b.toNat : Int) := by
  have hr : 0 ≤ n ∧ n ≤ 255 := by
    simp only [Lit.wf, IntKind.has, Bool.and_eq_true, decide_eq_true_eq] at h
    exact ⟨h.1, h.2⟩
  refine ⟨UInt8.ofNat n.toNat, ?_⟩
  rw [UInt8.toNat_ofNat']
  omega
theorem toBytes : ∀ {els : List (List Val)} (h : ∀ el ∈ els, rowOk [.int .u8] el), ∃ l : List UInt8, els = l.map fun b => [.int .u8 b.toNat]
  | [], _ => ⟨[], rfl⟩
  | el :: els, h => by
    have h1 := h el (by simp)
    obtain ⟨l, rfl⟩ := toBytes (els := els) fun x hx => h x (by simp [hx])
    match el, h1 with
    | [.int k n], h1 =>
      obtain ⟨⟨rfl, hw⟩, _⟩ := h1
      obtain ⟨b, rfl⟩ := toByte hw
      exact ⟨b :: l, rfl⟩
theorem flat_bV (l : List UInt8) : (l.map fun b => [Val.int .u8 b.toNat]).flatten = bV l := by
  induction l with
  | nil => rfl
  | cons b l ih => simp only [List.map_cons, List.flatten_cons, ih]; rfl
theorem sc_sl {H : List Blk} {b off n : Nat} {pre post : List Val} {l : List UInt8} (hn : n = l.length) (ho : off = pre.length) (hg : H[b]? = some ⟨pre ++ (bV l ++ post), true⟩) (loc : List (List Val)) : sliceCells ⟨loc, H⟩ 1 (.sl (.hp b) off n 1) = some (bV l) := by
  subst hn
  show (Mem.get ⟨loc, H⟩ (.hp b)).bind (part? off (l.length * 1)) = _
  rw [get_at hg]
  exact part_mid pre (bV l) post ho (by rw [bV_len]; omega)
theorem snoc_top {A : List Blk} {n : Nat} {k : Blk} (h : n = A.length) : (A ++ [k])[n]? = some k := by subst h; simp
theorem bs_top {A : List Blk} {cs : List Val} {n q : Nat} {l : List UInt8} (hq : q = A.length) (hn : n = l.length) (h : cs = bV l) : Bs (A ++ [⟨cs, true⟩]) (.sl (.hp q) 0 n 1) l := by
  subst hq; subst hn; subst h
  exact .inr ⟨A.length, 0, [], [], rfl, rfl, by simp⟩
theorem Grown.set {H A : List Blk} (h : Grown H A) {i : Nat} (hi : H.length ≤ i) (X : Blk) : Grown H (A.set i X) := by
  obtain ⟨G, rfl⟩ := h
  exact ⟨G.set (i - H.length) X, by rw [List.set_append_right _ _ hi]⟩
theorem part_d {pre post : List Val} {l : List UInt8} (i : Nat) (h : i < l.length) {off : Nat} (ho : off = pre.length + i) : partV Try.prog 5 (pre ++ (bV l ++ post)) off = some (.int .u8 (l.getD i 0).toNat) := by
  rw [part_b i h ho]
  simp [List.getD_eq_getElem?_getD, h]
theorem beqF {a b : Nat} (h : a ≠ b) : Nat.beq a b = false := by simpa [← Bool.not_eq_true, Nat.beq_eq] using h
theorem u8_nat (b : UInt8) : U8 (b.toNat : Int) := by have := b.toNat_lt; unfold U8; omega
theorem w64s (x : Int) (h0 : 0 ≤ x) (h1 : x < 9223372036854775808) : IntKind.i64.wrap x = x := by rw [w64]; omega
theorem bytes_sl {pre post : List Val} {l : List UInt8} {off n : Nat} (hn : n = l.length) (ho : off = pre.length) : (part? off n (pre ++ (bV l ++ post))).bind bytesOf = some l := by
  rw [part_mid pre (bV l) post ho (by rw [bV_len]; exact hn)]
  exact bytesOf_bV l
theorem Bs.ne {H : List Blk} {v : Val} {l : List UInt8} (h : Bs H v l) (hl : l ≠ []) : ∃ b off pre post, v = .sl (.hp b) off l.length 1 ∧ off = pre.length ∧ H[b]? = some ⟨pre ++ (bV l ++ post), true⟩ := by
  rcases h with ⟨_, h⟩ | h
  · exact absurd h hl
  · exact h
theorem guardT {x : Bool} (h : x = true) : ((bif (true == true) then x else false) == true) = true := by subst h; rfl
theorem eqBytes_self (l : List UInt8) : eqBytes l l = true := by rw [eqBytes_eq]; simp
theorem eqStr_self (s : ByteArray) : eqStr s s = true := eqBytes_self _
theorem eqStr_of {a b : ByteArray} (h : a = b) : eqStr a b = true := by subst h; exact eqStr_self a
end Go.Proofs.Ytkjcipdfciajhaa.VM
