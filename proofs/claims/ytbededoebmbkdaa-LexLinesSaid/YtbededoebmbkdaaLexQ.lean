/- Lines made of pieces: what lex tells of them, in plain words. -/
import Derived.Test.YtbededoebmbkdaaLexP
import Derived.Test.YtbededoebmbkdaaQLexLinesx3
namespace Go.Proofs.Ytbededoebmbkdaa.QLexLines
open Go.RowKit Go.Proofs.YtbededoebmbkdaaW.PrintWords Go.Proofs.YtbededoebmbkdaaW.PrintLast Go.Proofs.YtbededoebmbkdaaW.PrintMore
set_option linter.unusedVariables false
set_option linter.unusedSimpArgs false
/-! ### texts, one behind the other -/
theorem app_size (p r : ByteArray) : (p ++ r).size = p.size + r.size := ByteArray.size_append
theorem bt_l (p r : ByteArray) (i : Nat) (h : i < p.size) : bt (p ++ r) (i : Nat) = bt p (i : Nat) := by
  have h2 : i < (p ++ r).size := by rw [app_size]; omega
  simp only [bt, Int.toNat_natCast, dif_pos h, dif_pos h2]
  rw [ByteArray.getElem_append_left h]
theorem bt_r (p r : ByteArray) (i : Nat) (h : i < r.size) : bt (p ++ r) ((p.size + i : Nat) : Int) = bt r (i : Nat) := by
  have h2 : p.size + i < (p ++ r).size := by rw [app_size]; omega
  simp only [bt, Int.toNat_natCast, dif_pos h, dif_pos h2]
  rw [ByteArray.getElem_append_right (by omega)]
  congr 2
  simp
theorem ext_l (p r : ByteArray) : (p ++ r).extract 0 p.size = p := ByteArray.extract_append_eq_left rfl
theorem ext_r (p r : ByteArray) : (p ++ r).extract p.size (p ++ r).size = r := ByteArray.extract_append_eq_right rfl (app_size p r)
theorem app_assoc (a b c : ByteArray) : (a ++ b) ++ c = a ++ (b ++ c) := ByteArray.append_assoc
theorem nil_app (r : ByteArray) : (⟨#[]⟩ : ByteArray) ++ r = r := by apply ByteArray.ext; rw [ByteArray.data_append]; simp
theorem clean_app (a b : ByteArray) : My.cleanB (a ++ b) = (My.cleanB a && My.cleanB b) := by
  unfold My.cleanB
  rw [ByteArray.data_append, Array.toList_append, List.all_append]
/-! ### enough rounds -/
theorem lineL_enough (d : Nat) : ∀ (d' : Nat) (s : ByteArray) (out : List S28), s.size < d → s.size < d' → lineL s out d = lineL s out d' := by
  induction d with
  | zero => intro d' s out h; omega
  | succ d ih =>
    intro d' s out hd hd'
    obtain ⟨d', rfl⟩ : ∃ m, d' = m + 1 := ⟨d' - 1, by omega⟩
    simp only [lineL]
    by_cases hz : s.size = 0 ∨ bt s 0 = 59
    · rw [if_pos hz, if_pos hz]
    · rw [if_neg hz, if_neg hz]
      have hp : 0 < s.size := by omega
      split
      · have hx := xsize s 1 s.size (Nat.le_refl _)
        exact ih _ _ _ (by omega) (by omega)
      · split
        · rfl
        · rename_i h0
          have hn := nextR_le s hp
          have hx := xsize s (nextR s).2.2.2.2.toNat s.size (Nat.le_refl _)
          exact ih _ _ _ (by omega) (by omega)
/-- A text's pieces, behind others. -/
def lineS (s : ByteArray) (out : List S28) : Toks := lineL s out (s.size + 1)
theorem lineS_end (s : ByteArray) (out : List S28) (h : s.size = 0 ∨ bt s 0 = 59) : lineS s out = (out, 0) := by
  unfold lineS
  simp only [lineL]
  rw [if_pos h]
theorem lineS_blank (s : ByteArray) (out : List S28) (h : 0 < s.size) (hb : blankB (bt s 0) = true) : lineS s out = lineS (s.extract 1 s.size) out := by
  have hx := xsize s 1 s.size (Nat.le_refl _)
  have h59 : bt s 0 ≠ 59 := by
    intro e
    rw [e] at hb
    exact absurd hb (by decide)
  unfold lineS
  rw [show s.size + 1 = s.size + 1 from rfl]
  conv => lhs; simp only [lineL]
  rw [if_neg (by omega), if_pos hb]
  exact lineL_enough _ _ _ _ (by omega) (by omega)
theorem lineS_next (s : ByteArray) (out : List S28) (h : 0 < s.size) (hb : blankB (bt s 0) = false) (h59 : bt s 0 ≠ 59) (a : Int) (b : ByteArray) (c d : Int) (n : Nat) (hn : nextR s = (a, b, c, d, (n : Int))) (h0 : 0 < n) : lineS s out = lineS (s.extract n s.size) (out ++ [⟨a, b, c, d⟩]) := by
  have hx := xsize s n s.size (Nat.le_refl _)
  unfold lineS
  conv => lhs; simp only [lineL]
  rw [if_neg (by omega), if_neg (by rw [hb]; simp), hn]
  simp only
  rw [if_neg (by omega), Int.toNat_natCast]
  exact lineL_enough _ _ _ _ (by omega) (by omega)
/-! ### blanks ahead -/
/-- It begins with a blank or a tab. -/
def begB (r : ByteArray) : Prop := 0 < r.size ∧ (bt r 0 = 32 ∨ bt r 0 = 9)
def isBlank (b : ByteArray) : Prop := b = ⟨#[32]⟩ ∨ b = ⟨#[9]⟩ ∨ b = ⟨#[32, 32]⟩ ∨ b = ⟨#[32, 13]⟩
theorem skip_one (c : UInt8) (r : ByteArray) (out : List S28) (hb : blankB (c.toNat : Int) = true) : lineS (⟨#[c]⟩ ++ r) out = lineS r out := by
  have h0 : bt ((⟨#[c]⟩ : ByteArray) ++ r) 0 = (c.toNat : Int) := bt_l ⟨#[c]⟩ r 0 Nat.one_pos
  rw [lineS_blank _ _ (by rw [app_size]; have : (⟨#[c]⟩ : ByteArray).size = 1 := rfl; omega) (by rw [h0]; exact hb)]
  congr 1
  exact ext_r ⟨#[c]⟩ r
theorem skip_blank (b r : ByteArray) (out : List S28) (h : isBlank b) : lineS (b ++ r) out = lineS r out := by
  rcases h with rfl | rfl | rfl | rfl
  · exact skip_one 32 r out (by decide)
  · exact skip_one 9 r out (by decide)
  · rw [show (⟨#[32, 32]⟩ : ByteArray) = ⟨#[32]⟩ ++ ⟨#[32]⟩ from rfl, app_assoc, skip_one 32 _ out (by decide), skip_one 32 r out (by decide)]
  · rw [show (⟨#[32, 13]⟩ : ByteArray) = ⟨#[32]⟩ ++ ⟨#[13]⟩ from rfl, app_assoc, skip_one 32 _ out (by decide), skip_one 13 r out (by decide)]
theorem blank_beg (b r : ByteArray) (h : isBlank b) : begB (b ++ r) := by
  unfold begB
  rw [app_size]
  rcases h with rfl | rfl | rfl | rfl
  all_goals
    refine ⟨Nat.add_pos_left (by decide) _, ?_⟩
    first | exact Or.inl ((bt_l ⟨#[32]⟩ r 0 (by decide)).trans (by decide)) | exact Or.inr ((bt_l ⟨#[9]⟩ r 0 (by decide)).trans (by decide)) | exact Or.inl ((bt_l ⟨#[32, 32]⟩ r 0 (by decide)).trans (by decide)) | exact Or.inl ((bt_l ⟨#[32, 13]⟩ r 0 (by decide)).trans (by decide))
/-! ### pieces -/
/-- A text is a piece, whatever stands behind it. -/
def isPiece (p : ByteArray) (a : Int) (b : ByteArray) (c d : Int) : Prop :=
  0 < p.size ∧ p.size ≤ 9 ∧ My.cleanB p = true ∧ blankB (bt p 0) = false ∧ bt p 0 ≠ 59 ∧ ∀ r, begB r → nextR (p ++ r) = (a, b, c, d, (p.size : Int))
theorem line_piece (p r : ByteArray) (out : List S28) (a : Int) (b : ByteArray) (c d : Int) (h : isPiece p a b c d) (hr : begB r) : lineS (p ++ r) out = lineS r (out ++ [⟨a, b, c, d⟩]) := by
  obtain ⟨h0, _, _, hb, h59, hn⟩ := h
  have e : bt (p ++ r) 0 = bt p 0 := bt_l p r 0 h0
  rw [lineS_next (p ++ r) out (by rw [app_size]; omega) (by rw [e]; exact hb) (by rw [e]; exact h59) a b c d p.size (hn r hr) h0, ext_r]
/-- A line so far, and its pieces. -/
def Inv (x : ByteArray) (l : List S28) : Prop := My.cleanB x = true ∧ ∀ r out, begB r → lineS (x ++ r) out = lineS r (out ++ l)
theorem Inv.nil : Inv ⟨#[]⟩ [] := ⟨by decide, fun r out _ => by rw [nil_app, List.append_nil]⟩
theorem blank_clean (b : ByteArray) (h : isBlank b) : My.cleanB b = true := by
  rcases h with rfl | rfl | rfl | rfl <;> decide
theorem Inv.step {x : ByteArray} {l : List S28} (h : Inv x l) (q p : ByteArray) (hq : isBlank q) (a : Int) (b : ByteArray) (c d : Int) (hp : isPiece p a b c d) : Inv (x ++ (q ++ p)) (l ++ [⟨a, b, c, d⟩]) := by
  refine ⟨?_, fun r out hr => ?_⟩
  · rw [clean_app, clean_app, h.1, blank_clean q hq, hp.2.2.1]; rfl
  · rw [app_assoc, app_assoc, h.2 _ out (blank_beg q _ hq), skip_blank q _ _ hq, line_piece p r _ a b c d hp hr, List.append_assoc]
/-- What stands behind all. -/
def tailB : ByteArray := ⟨#[32, 59, 32, 97, 110, 121, 116, 104, 105, 110, 103, 44, 32, 39, 97, 116, 32, 97, 108, 108]⟩
theorem tail_line (out : List S28) : lineS tailB out = (out, 0) := by
  rw [show tailB = ⟨#[32]⟩ ++ ⟨#[59, 32, 97, 110, 121, 116, 104, 105, 110, 103, 44, 32, 39, 97, 116, 32, 97, 108, 108]⟩ from rfl, skip_one 32 _ out (by decide)]
  exact lineS_end _ _ (Or.inr (by decide))
theorem Inv.line {x : ByteArray} {l : List S28} (h : Inv x l) (hs : x.size ≤ 150) : lineR (x ++ tailB) = (l, 0) := by
  unfold lineR
  have ht : tailB.size = 20 := rfl
  rw [if_neg (by rw [app_size]; omega), clean_app, h.1, if_pos (by decide)]
  show lineS (x ++ tailB) [] = _
  rw [h.2 tailB [] ⟨by decide, by decide⟩, tail_line]
  rfl
/-! ### names -/
def wordB (c : Int) : Bool := letterB c || digitB c
/-- All letters are a name's, or a number's. -/
def allW (p : ByteArray) : Prop := ∀ i, i < p.size → wordB (bt p (i : Nat)) = true
theorem wordN_all (p r : ByteArray) (hp : allW p) (hr : r.size = 0 ∨ wordB (bt r 0) = false) (d : Nat) : ∀ i, i + d = (p ++ r).size → i ≤ p.size → wordN (p ++ r) d i = p.size := by
  induction d with
  | zero => intro i hi hip; rw [app_size] at hi; simp only [wordN]; omega
  | succ d ih =>
    intro i hi hip
    simp only [wordN]
    by_cases hlt : i < p.size
    · have h := hp i hlt
      unfold wordB at h
      rw [bt_l p r i hlt, if_pos h]
      exact ih (i + 1) (by omega) (by omega)
    · obtain rfl : i = p.size := by omega
      rw [app_size] at hi
      have h := bt_r p r 0 (by omega)
      rw [Nat.add_zero] at h
      rw [h]
      rcases hr with hr | hr
      · omega
      · unfold wordB at hr
        rw [if_neg (by rw [show (((0 : Nat) : Int)) = 0 from rfl, hr]; simp)]
theorem wordS_all (p r : ByteArray) (hp : allW p) (hr : r.size = 0 ∨ wordB (bt r 0) = false) : wordS (p ++ r) = p.size := wordN_all p r hp hr _ 0 (by omega) (by omega)
theorem beg_noword (r : ByteArray) (h : begB r) : wordB (bt r 0) = false := by
  rcases h.2 with e | e <;> rw [e] <;> decide
theorem word_tab : ∀ n : Nat, n < 256 → wordB (n : Int) = true → My.okI (n : Int) = true ∧ blankB (n : Int) = false ∧ (n : Int) ≠ 59 := by decide +kernel
theorem cleanB_iff (s : ByteArray) : My.cleanB s = true ↔ ∀ i, i < s.size → My.okI (bt s (i : Nat)) = true := by
  unfold My.cleanB
  rw [List.all_eq_true]
  constructor
  · intro h i hi
    have := h (s.data.toList[i]'(by rw [data_length]; exact hi)) (List.getElem_mem _)
    rw [show bt s (i : Nat) = ((s.data.toList[i]'(by rw [data_length]; exact hi)).toNat : Int) by simp [bt, hi]; rfl]
    exact this
  · intro h x hx
    obtain ⟨i, hi, rfl⟩ := List.getElem_of_mem hx
    have hi' : i < s.size := by rwa [data_length] at hi
    have := h i hi'
    rw [show bt s (i : Nat) = ((s.data.toList[i]'hi).toNat : Int) by simp [bt, hi']; rfl] at this
    exact this
theorem word_at (p : ByteArray) (hp : allW p) (i : Nat) (hi : i < p.size) : My.okI (bt p (i : Nat)) = true ∧ blankB (bt p (i : Nat)) = false ∧ bt p (i : Nat) ≠ 59 := by
  have hb := bt_range p (i : Nat)
  have h := word_tab (bt p (i : Nat)).toNat (by omega)
  rw [Int.toNat_of_nonneg hb.1] at h
  exact h (hp i hi)
theorem word_clean (p : ByteArray) (hp : allW p) : My.cleanB p = true := (cleanB_iff p).2 fun i hi => (word_at p hp i hi).1
theorem name_piece (p : ByteArray) (h0 : 0 < p.size) (h9 : p.size ≤ 9) (hp : allW p) (hl : letterB (bt p 0) = true) : isPiece p 1 (My.upperB p) 0 0 := by
  have hw := word_at p hp 0 h0
  refine ⟨h0, h9, word_clean p hp, hw.2.1, hw.2.2, fun r hr => ?_⟩
  have e : bt (p ++ r) 0 = bt p 0 := bt_l p r 0 h0
  have hs := wordS_all p r hp (Or.inr (beg_noword r hr))
  unfold nextR
  rw [e, if_pos hl, hs, ext_l]
/-! ### numbers -/
/-- All letters are decimal digits. -/
def allD (p : ByteArray) : Prop := ∀ i, i < p.size → digitB (bt p (i : Nat)) = true
theorem allD.allW {p : ByteArray} (h : allD p) : allW p := fun i hi => by unfold wordB; rw [h i hi, Bool.or_true]
theorem numL_app (b : Int) (l2 : List Int) (l1 : List Int) : ∀ a, numL b (l1 ++ l2) a = (numL b l1 a).bind (numL b l2) := by
  induction l1 with
  | nil => intro a; rfl
  | cons c l ih =>
    intro a
    simp only [List.cons_append, numL]
    split
    · rfl
    · exact ih _
/-- A text is a number's decimal digits. -/
def isDec (t : ByteArray) (n : Nat) : Prop := 0 < t.size ∧ allD t ∧ numL 10 (bytesOf t) 0 = some (n : Int)
theorem bytesOf_app (a b : ByteArray) : bytesOf (a ++ b) = bytesOf a ++ bytesOf b := by
  unfold bytesOf
  rw [ByteArray.data_append, Array.toList_append, List.map_append]
theorem dig_val (c : Int) (h : digitB c = true) : digI c = c - 48 ∧ 0 ≤ c - 48 ∧ c - 48 ≤ 9 := by
  unfold digitB at h
  rw [decide_eq_true_iff] at h
  unfold digI
  rw [if_pos h]
  omega
theorem up_dig (c : Int) (h : digitB c = true) : My.upI c ≠ 72 ∧ My.upI c ≠ 66 := by
  unfold digitB at h
  rw [decide_eq_true_iff] at h
  unfold My.upI
  omega
theorem numberF_dec (t : ByteArray) (n : Nat) (h : isDec t n) (hn : n ≤ 9007199254740992) : numberF t = ((n : Int), true) := by
  obtain ⟨h0, hd, hv⟩ := h
  have hl := up_dig _ (hd (t.size - 1) (by omega))
  rw [show ((t.size - 1 : Nat) : Int) = (t.size : Int) - 1 by omega] at hl
  have hf : digitB (bt t 0) = true := hd 0 h0
  unfold digitB at hf
  rw [decide_eq_true_iff] at hf
  have hb : baseF t = (t, 10) := by unfold baseF; rw [if_neg hl.1, if_neg hl.2]
  unfold numberF
  rw [if_neg (by omega), if_pos hf, hb]
  simp only [hv]
  rw [decide_eq_true (by omega)]
theorem one_dec (c : UInt8) (h : digitB (c.toNat : Int) = true) : isDec ⟨#[c]⟩ (c.toNat - 48) := by
  have hv := dig_val _ h
  refine ⟨Nat.one_pos, fun i hi => ?_, ?_⟩
  · have hi' : i < 1 := hi
    obtain rfl : i = 0 := by omega
    exact h
  · show numL 10 [(c.toNat : Int)] 0 = _
    simp only [numL]
    rw [if_neg (by omega), hv.1]
    congr 1
    omega
theorem app_dec (t : ByteArray) (n : Nat) (h : isDec t n) (hn : n ≤ 100000000) (c : UInt8) (hc : digitB (c.toNat : Int) = true) : isDec (t ++ ⟨#[c]⟩) (n * 10 + (c.toNat - 48)) := by
  obtain ⟨h0, hd, hv⟩ := h
  have hcv := dig_val _ hc
  refine ⟨by rw [app_size]; omega, fun i hi => ?_, ?_⟩
  · rw [app_size] at hi
    have h1 : (⟨#[c]⟩ : ByteArray).size = 1 := rfl
    by_cases hlt : i < t.size
    · rw [bt_l t _ i hlt]; exact hd i hlt
    · obtain rfl : i = t.size + 0 := by omega
      rw [bt_r t _ 0 (by omega)]; exact hc
  · rw [bytesOf_app, numL_app, hv]
    show numL 10 [(c.toNat : Int)] (n : Int) = _
    simp only [numL]
    rw [if_neg (by omega), hcv.1]
    congr 1
    omega
/-! ### the law's numbers -/
theorem digit_f (a : Nat) (h : a < 10) : ∃ c : UInt8, hansomlaw28_digit.f a = some ⟨#[c]⟩ ∧ digitB (c.toNat : Int) = true ∧ c.toNat - 48 = a := by
  refine ⟨UInt8.ofNat (48 + a), ?_, ?_, ?_⟩
  · unfold hansomlaw28_digit.f
    rw [if_pos (by omega)]
    have e : IntKind.u64.wrap (48 + (a : Int)) % 256 = ((48 + a : Nat) : Int) := by rw [IntKind.wrap_u64]; omega
    rw [e]
    show some (⟨#[UInt8.ofNat ((48 + a : Nat) : Int).toNat]⟩ : ByteArray) = _
    rw [Int.toNat_natCast]
  · have : (UInt8.ofNat (48 + a)).toNat = 48 + a := by rw [UInt8.toNat_ofNat']; omega
    rw [this]; unfold digitB; rw [decide_eq_true_iff]; omega
  · have : (UInt8.ofNat (48 + a)).toNat = 48 + a := by rw [UInt8.toNat_ofNat']; omega
    rw [this]; omega
theorem text_f (j : Nat) : ∀ (k n : Nat), n < 10 ^ (j + 1) → j ≤ 7 → j < k → ∃ t, hansomlaw28_text.f k n 10 = some t ∧ isDec t n ∧ t.size ≤ j + 1 := by
  induction j with
  | zero =>
    intro k n hn _ hk
    obtain ⟨k, rfl⟩ : ∃ m, k = m + 1 := ⟨k - 1, by omega⟩
    obtain ⟨c, hc, hd, hv⟩ := digit_f n (by simpa using hn)
    refine ⟨⟨#[c]⟩, ?_, ?_, Nat.le_refl _⟩
    · simp only [hansomlaw28_text.f]
      rw [if_pos (by simp at hn; omega), hc, sb]
    · have := one_dec c hd; rwa [hv] at this
  | succ j ih =>
    intro k n hn hj hk
    obtain ⟨k, rfl⟩ : ∃ m, k = m + 1 := ⟨k - 1, by omega⟩
    by_cases h10 : n < 10
    · obtain ⟨c, hc, hd, hv⟩ := digit_f n h10
      refine ⟨⟨#[c]⟩, ?_, ?_, by show 1 ≤ _; omega⟩
      · simp only [hansomlaw28_text.f]
        rw [if_pos (by omega), hc, sb]
      · have := one_dec c hd; rwa [hv] at this
    · have hp : 10 ^ (j + 1 + 1) = 10 * 10 ^ (j + 1) := by rw [Nat.pow_succ, Nat.mul_comm]
      have hp8 : 10 ^ (j + 1) ≤ 10 ^ 7 := Nat.pow_le_pow_right (by omega) (by omega)
      have hp7 : 10 ^ 7 = 10000000 := by decide
      obtain ⟨t, ht, hdt, hst⟩ := ih k (n / 10) (by omega) (by omega) (by omega)
      obtain ⟨c, hc, hd, hv⟩ := digit_f (n % 10) (by omega)
      have h1 : (⟨#[c]⟩ : ByteArray).size = 1 := rfl
      refine ⟨t ++ ⟨#[c]⟩, ?_, ?_, by rw [app_size]; omega⟩
      · simp only [hansomlaw28_text.f]
        have e1 : IntKind.u64.wrap (Int.tdiv (n : Int) 10) = ((n / 10 : Nat) : Int) := by rw [Int.tdiv_eq_ediv_of_nonneg (by omega), IntKind.wrap_u64]; omega
        have e2 : Int.tmod (n : Int) 10 = ((n % 10 : Nat) : Int) := by rw [Int.tmod_eq_emod_of_nonneg (by omega)]; omega
        rw [if_neg (by omega), if_neg (by omega), e1, ht, sb, e2, hc, sb, if_pos (by omega)]
      · have := app_dec t (n / 10) hdt (by omega) c hd
        rw [hv] at this
        rwa [show n / 10 * 10 + n % 10 = n by omega] at this
theorem num_piece (t : ByteArray) (n : Nat) (h : isDec t n) (h9 : t.size ≤ 9) (hn : n ≤ 100000000) : isPiece t 2 ⟨#[]⟩ (n : Int) 0 := by
  have hd := h.2.1
  have hw := word_at t hd.allW 0 h.1
  have h0 := h.1
  refine ⟨h0, h9, word_clean t hd.allW, hw.2.1, hw.2.2, fun r hr => ?_⟩
  have e : bt (t ++ r) 0 = bt t 0 := bt_l t r 0 h0
  have hs := wordS_all t r hd.allW (Or.inr (beg_noword r hr))
  have hd0 := hd 0 h0
  have hl : letterB (bt t 0) = false := by
    have hb := bt_range t 0
    have htab : ∀ n : Nat, n < 256 → digitB (n : Int) = true → letterB (n : Int) = false := by decide +kernel
    have := htab (bt t 0).toNat (by omega)
    rw [Int.toNat_of_nonneg hb.1] at this
    exact this hd0
  unfold nextR
  rw [e, hl, if_neg (by simp), if_pos (by exact hd0)]
  unfold numR
  rw [hs, ext_l, numberF_dec t n h (by omega), if_pos rfl]
  have hr0 := bt_r t r 0 hr.1
  rw [Nat.add_zero] at hr0
  rw [if_neg]
  intro hh
  rw [hr0] at hh
  rcases hr.2 with e2 | e2 <;> (rw [show (((0 : Nat) : Int)) = 0 from rfl, e2] at hh; exact absurd hh.2 (by decide))
/-! ### two numbers -/
theorem not_letter (c : Int) (h0 : 0 ≤ c) (h1 : c ≤ 255) (h : digitB c = true) : letterB c = false := by
  have htab : ∀ n : Nat, n < 256 → digitB (n : Int) = true → letterB (n : Int) = false := by decide +kernel
  have := htab c.toNat (by omega)
  rw [Int.toNat_of_nonneg h0] at this
  exact this h
theorem ext_mid (a b r : ByteArray) : (a ++ (b ++ r)).extract a.size (a.size + b.size) = b := by
  rw [← app_assoc, ByteArray.extract_append]
  have h1 : a.size + b.size - (a ++ b).size = 0 := by rw [app_size]; omega
  have h2 : a.size - (a ++ b).size = 0 := by rw [app_size]; omega
  rw [h1, h2]
  have h3 : (a ++ b).extract a.size (a.size + b.size) = b := ByteArray.extract_append_eq_right rfl rfl
  rw [h3]
  apply ByteArray.ext
  simp
theorem ratio_piece (t u : ByteArray) (n m : Nat) (ht : isDec t n) (hu : isDec u m) (ht3 : t.size ≤ 3) (hu3 : u.size ≤ 3) (hn : n ≤ 1000) (hm : m ≤ 1000) : isPiece ((t ++ ⟨#[37]⟩) ++ u) 5 ⟨#[]⟩ (n : Int) (m : Int) := by
  have hd := ht.2.1
  have hw := word_at t hd.allW 0 ht.1
  have h0 := ht.1
  have h1 : (⟨#[37]⟩ : ByteArray).size = 1 := rfl
  have hb0 : bt ((t ++ ⟨#[37]⟩) ++ u) 0 = bt t 0 := by
    rw [app_assoc]; exact bt_l t _ 0 h0
  refine ⟨by rw [app_size, app_size]; omega, by rw [app_size, app_size]; omega, ?_, by rw [hb0]; exact hw.2.1, by rw [hb0]; exact hw.2.2, fun r hr => ?_⟩
  · rw [clean_app, clean_app, word_clean t hd.allW, word_clean u hu.2.1.allW]; decide
  · have es : ((t ++ ⟨#[37]⟩) ++ u) ++ r = t ++ ((⟨#[37]⟩ ++ u) ++ r) := by rw [app_assoc, app_assoc, app_assoc]
    have es2 : ((t ++ ⟨#[37]⟩) ++ u) ++ r = (t ++ ⟨#[37]⟩) ++ (u ++ r) := by rw [app_assoc]
    have e : bt (((t ++ ⟨#[37]⟩) ++ u) ++ r) 0 = bt t 0 := by rw [es]; exact bt_l t _ 0 h0
    have hp37 : bt ((⟨#[37]⟩ ++ u) ++ r) 0 = 37 := by
      rw [app_assoc]; exact bt_l ⟨#[37]⟩ _ 0 (by decide)
    have hs : wordS (((t ++ ⟨#[37]⟩) ++ u) ++ r) = t.size := by
      rw [es]; exact wordS_all t _ hd.allW (Or.inr (by rw [hp37]; decide))
    have hd0 : digitB (bt t 0) = true := hd 0 h0
    have hbr := bt_range t 0
    unfold nextR
    rw [e, not_letter _ hbr.1 hbr.2 hd0, if_neg (by simp), if_pos hd0]
    unfold numR
    have hx1 : (((t ++ ⟨#[37]⟩) ++ u) ++ r).extract 0 t.size = t := by rw [es]; exact ext_l t _
    have hx2 : (((t ++ ⟨#[37]⟩) ++ u) ++ r).extract (t.size + 1) (((t ++ ⟨#[37]⟩) ++ u) ++ r).size = u ++ r := by
      rw [es2]
      have := ext_r (t ++ ⟨#[37]⟩) (u ++ r)
      rwa [app_size t, h1] at this
    have hs2 : wordS (u ++ r) = u.size := wordS_all u r hu.2.1.allW (Or.inr (beg_noword r hr))
    have hx3 : (((t ++ ⟨#[37]⟩) ++ u) ++ r).extract (t.size + 1) (t.size + 1 + u.size) = u := by
      rw [es2]
      have := ext_mid (t ++ ⟨#[37]⟩) u r
      rwa [app_size t, h1] at this
    have h37 : bt (((t ++ ⟨#[37]⟩) ++ u) ++ r) (t.size : Nat) = 37 := by
      rw [es]
      have := bt_r t ((⟨#[37]⟩ ++ u) ++ r) 0 (by rw [app_size, app_size]; omega)
      rw [Nat.add_zero] at this
      rw [this]; exact hp37
    have hlt : t.size < (((t ++ ⟨#[37]⟩) ++ u) ++ r).size := by rw [app_size, app_size, app_size]; omega
    have hps : ((((t ++ ⟨#[37]⟩) ++ u).size : Nat) : Int) = ((t.size + 1 + u.size : Nat) : Int) := by rw [app_size, app_size, h1]
    rw [hs, hx1, hx2, hs2, hx3, numberF_dec t n ht (by omega), numberF_dec u m hu (by omega), if_pos rfl, if_pos ⟨hlt, h37⟩, if_pos rfl, hps]
/-! ### texts -/
theorem indexByte_app (c : UInt8) (l r : List UInt8) (h : ∀ x ∈ l, x ≠ c) : Lib.indexByte (l ++ c :: r) c = (l.length : Int) := by
  induction l with
  | nil => simp [Lib.indexByte]
  | cons b l ih =>
    have hb : (b == c) = false := by simpa using h b (by simp)
    have ih' := ih (fun x hx => h x (by simp [hx]))
    simp only [List.cons_append, Lib.indexByte, hb, ih']
    simp only [Bool.false_eq_true, if_false]
    rw [if_neg (by simp), List.length_cons]
    omega
/-- Letters that a text between marks may have here. -/
def allT (p : ByteArray) : Prop := ∀ x ∈ p.data.toList, x ≠ 39 ∧ My.okI (x.toNat : Int) = true
theorem text_piece (t : ByteArray) (h5 : t.size ≤ 5) (ht : allT t) : isPiece ((⟨#[39]⟩ ++ t) ++ ⟨#[39]⟩) 3 t 0 0 := by
  have h1 : (⟨#[39]⟩ : ByteArray).size = 1 := rfl
  have hb0 : ∀ r, bt (((⟨#[39]⟩ ++ t) ++ ⟨#[39]⟩) ++ r) 0 = 39 := fun r => by
    rw [app_assoc, app_assoc]; exact bt_l ⟨#[39]⟩ _ 0 (by decide)
  have hb1 : bt ((⟨#[39]⟩ ++ t) ++ ⟨#[39]⟩) 0 = 39 := by rw [app_assoc]; exact bt_l ⟨#[39]⟩ _ 0 (by decide)
  refine ⟨by rw [app_size, app_size]; omega, by rw [app_size, app_size]; omega, ?_, by rw [hb1]; decide, by rw [hb1]; decide, fun r hr => ?_⟩
  · rw [clean_app, clean_app]
    have : My.cleanB t = true := by
      unfold My.cleanB; rw [List.all_eq_true]; exact fun x hx => (ht x hx).2
    rw [this]; decide
  · have es : ((⟨#[39]⟩ ++ t) ++ ⟨#[39]⟩) ++ r = ⟨#[39]⟩ ++ (t ++ (⟨#[39]⟩ ++ r)) := by rw [app_assoc, app_assoc]
    have hx : (((⟨#[39]⟩ ++ t) ++ ⟨#[39]⟩) ++ r).extract 1 (((⟨#[39]⟩ ++ t) ++ ⟨#[39]⟩) ++ r).size = t ++ (⟨#[39]⟩ ++ r) := by
      rw [es]; exact ext_r ⟨#[39]⟩ _
    have hi : Lib.indexByte (t ++ (⟨#[39]⟩ ++ r)).data.toList (39 : Int).toNat.toUInt8 = (t.size : Int) := by
      rw [ByteArray.data_append, Array.toList_append, ByteArray.data_append, Array.toList_append, ← data_length]
      exact indexByte_app 39 _ _ (fun x hx => (ht x hx).1)
    have hm : (((⟨#[39]⟩ ++ t) ++ ⟨#[39]⟩) ++ r).extract 1 (1 + (t.size : Int)).toNat = t := by
      rw [es, show (1 + (t.size : Int)).toNat = 1 + t.size by omega]
      exact ext_mid ⟨#[39]⟩ t _
    have hps : ((((⟨#[39]⟩ ++ t) ++ ⟨#[39]⟩).size : Nat) : Int) = (t.size : Int) + 2 := by rw [app_size, app_size, h1]; omega
    unfold nextR textR
    rw [hb0, show letterB 39 = false from by decide, show digitB 39 = false from by decide, if_neg (by simp), if_neg (by simp), if_pos (Or.inl rfl), hx, hi, if_neg (by omega), hm, hps]
/-! ### signs -/
theorem sign_tab : ∀ n : Nat, n < 256 → signB (n : Int) = true → letterB (n : Int) = false ∧ digitB (n : Int) = false ∧ (n : Int) ≠ 39 ∧ (n : Int) ≠ 34 ∧ My.okI (n : Int) = true ∧ blankB (n : Int) = false ∧ (n : Int) ≠ 59 := by decide +kernel
theorem sign_piece (c : UInt8) (h : signB (c.toNat : Int) = true) : isPiece ⟨#[c]⟩ 4 ⟨#[c]⟩ 0 0 := by
  have ht := sign_tab c.toNat (UInt8.toNat_lt c) h
  have hb1 : bt (⟨#[c]⟩ : ByteArray) 0 = (c.toNat : Int) := rfl
  refine ⟨Nat.one_pos, by show 1 ≤ 9; omega, ?_, by rw [hb1]; exact ht.2.2.2.2.2.1, by rw [hb1]; exact ht.2.2.2.2.2.2, fun r hr => ?_⟩
  · rw [cleanB_iff]
    intro i hi
    have hi' : i < 1 := hi
    obtain rfl : i = 0 := by omega
    exact ht.2.2.2.2.1
  · have hb : bt ((⟨#[c]⟩ : ByteArray) ++ r) 0 = (c.toNat : Int) := bt_l ⟨#[c]⟩ r 0 Nat.one_pos
    unfold nextR
    rw [hb, ht.1, ht.2.1, if_neg (by simp), if_neg (by simp), if_neg (by omega), h, if_pos rfl]
    have hx : ((⟨#[c]⟩ : ByteArray) ++ r).extract 0 1 = ⟨#[c]⟩ := ext_l ⟨#[c]⟩ r
    rw [hx]
    rfl
end Go.Proofs.Ytbededoebmbkdaa.QLexLines
