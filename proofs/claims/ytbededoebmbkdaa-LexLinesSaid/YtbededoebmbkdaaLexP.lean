/- Lex in plain words: what each of its functions tells, and that it ends. -/
import Derived.Test.YtbededoebmbkdaaQLexLinesx5
namespace Go.Proofs.Ytbededoebmbkdaa.QLexLines
open Go.RowKit Go.Proofs.YtbededoebmbkdaaW.PrintWords Go.Proofs.YtbededoebmbkdaaW.PrintLast Go.Proofs.YtbededoebmbkdaaW.PrintMore
set_option linter.unusedVariables false
set_option linter.unusedSimpArgs false
theorem w64 {a : Int} (h0 : -9223372036854775808 ≤ a) (h1 : a ≤ 9223372036854775807) : wrap64 a = a := by unfold wrap64; omega
theorem sb {α β : Type} (a : α) (f : α → Option β) : (some a).bind f = f a := Eq.trans rfl rfl
/-- May a name begin so? -/
def letterB (c : Int) : Bool := decide ((65 ≤ My.upI c ∧ My.upI c ≤ 90) ∨ c = 95 ∨ c = 64 ∨ c = 63 ∨ c = 36)
def digitB (c : Int) : Bool := decide (48 ≤ c ∧ c ≤ 57)
theorem lex_letter.is (c : Int) (h0 : 0 ≤ c) (h1 : c ≤ 255) : lex_letter.f c = some (letterB c) := by
  unfold lex_letter.f letterB
  rw [lex_up.is c h0 h1]
  simp only [Option.bind_some]
  generalize My.upI c = u
  by_cases a : u ≥ 65
  · rw [if_pos a]
    by_cases b : u ≤ 90
    · rw [if_pos b]; congr 1; symm; rw [decide_eq_true_iff]; omega
    · rw [if_neg b]
      by_cases e1 : c = 95
      · rw [if_pos e1]; congr 1; symm; rw [decide_eq_true_iff]; omega
      rw [if_neg e1]
      by_cases e2 : c = 64
      · rw [if_pos e2]; congr 1; symm; rw [decide_eq_true_iff]; omega
      rw [if_neg e2]
      by_cases e3 : c = 63
      · rw [if_pos e3]; congr 1; symm; rw [decide_eq_true_iff]; omega
      rw [if_neg e3]
      congr 1
      rw [Bool.eq_iff_iff, beq_iff_eq, decide_eq_true_iff]; omega
  · rw [if_neg a]
    by_cases e1 : c = 95
    · rw [if_pos e1]; congr 1; symm; rw [decide_eq_true_iff]; omega
    rw [if_neg e1]
    by_cases e2 : c = 64
    · rw [if_pos e2]; congr 1; symm; rw [decide_eq_true_iff]; omega
    rw [if_neg e2]
    by_cases e3 : c = 63
    · rw [if_pos e3]; congr 1; symm; rw [decide_eq_true_iff]; omega
    rw [if_neg e3]
    congr 1
    rw [Bool.eq_iff_iff, beq_iff_eq, decide_eq_true_iff]; omega
theorem lex_digit.is' (c : Int) : lex_digit.f c = some (digitB c) := lex_digit.is c
/-- How many letters of a name, or a number, stand first, from a place on. -/
def wordN (s : ByteArray) : Nat → Nat → Nat
  | 0, i => i
  | d + 1, i => if (letterB (bt s i) || digitB (bt s i)) = true then wordN s d (i + 1) else i
theorem wordN_le (s : ByteArray) (d : Nat) : ∀ i, i ≤ wordN s d i ∧ wordN s d i ≤ i + d := by
  induction d with
  | zero => intro i; simp [wordN]
  | succ d ih =>
    intro i
    simp only [wordN]
    split
    · have := ih (i + 1); omega
    · omega
theorem word_l (s : ByteArray) (hs : s.size ≤ 9223372036854775807) (d : Nat) : ∀ (k i : Nat), i + d = s.size → d < k → lex_word.l0 k s i = some ((wordN s d i : Nat) : Int) := by
  induction d with
  | zero =>
    intro k i hi hk
    obtain ⟨k, rfl⟩ : ∃ m, k = m + 1 := ⟨k - 1, by omega⟩
    simp only [lex_word.l0]
    rw [if_neg (by omega)]
    rfl
  | succ d ih =>
    intro k i hi hk
    obtain ⟨k, rfl⟩ : ∃ m, k = m + 1 := ⟨k - 1, by omega⟩
    have h := ih k (i + 1) (by omega) (by omega)
    have hb := bt_range s i
    simp only [lex_word.l0, wordN]
    rw [if_pos (by omega), if_pos (by omega), lex_letter.is _ hb.1 hb.2, lex_digit.is', w64 (by omega) (by omega)]
    simp only [Option.bind_some]
    cases letterB (bt s i) <;> cases digitB (bt s i) <;> simp [← h] <;> rfl
/-- How many letters of a name, or a number, stand first. -/
def wordS (s : ByteArray) : Nat := wordN s s.size 0
theorem wordS_le (s : ByteArray) : wordS s ≤ s.size := by have := wordN_le s s.size 0; unfold wordS; omega
theorem lex_word.is (s : ByteArray) (hs : s.size ≤ 9223372036854775807) (k : Nat) (hk : s.size < k) : lex_word.f k s = some ((wordS s : Nat) : Int) := word_l s hs s.size k 0 (by omega) hk
theorem xsize (s : ByteArray) (i j : Nat) (hj : j ≤ s.size) : (s.extract i j).size = j - i := by rw [ByteArray.size_extract]; omega
abbrev Piece := Int × ByteArray × Int × Int × Int
def noP : Piece := (0, ⟨#[]⟩, 0, 0, 0)
/-- A number, or two with % between them. -/
def numR (s : ByteArray) : Piece :=
  if (numberF (s.extract 0 (wordS s))).2 = true then
    if wordS s < s.size ∧ bt s (wordS s : Nat) = 37 then
      if (numberF (s.extract (wordS s + 1) (wordS s + 1 + wordS (s.extract (wordS s + 1) s.size)))).2 = true then
        (5, ⟨#[]⟩, (numberF (s.extract 0 (wordS s))).1, (numberF (s.extract (wordS s + 1) (wordS s + 1 + wordS (s.extract (wordS s + 1) s.size)))).1, ((wordS s + 1 + wordS (s.extract (wordS s + 1) s.size) : Nat) : Int))
      else noP
    else (2, ⟨#[]⟩, (numberF (s.extract 0 (wordS s))).1, 0, ((wordS s : Nat) : Int))
  else noP
theorem lex_Number.is (s : ByteArray) (hs : s.size ≤ 9223372036854775807) : lex_Number.f s = some (numberF s) := by unfold lex_Number.f; rw [if_pos hs]
theorem lex_number.is (s : ByteArray) (hs : s.size ≤ 1000000) (k : Nat) (hk : s.size + 1 < k) : lex_number.f k s = some (numR s) := by
  obtain ⟨k, rfl⟩ : ∃ m, k = m + 1 := ⟨k - 1, by omega⟩
  have hw := wordS_le s
  unfold lex_number.f numR
  rw [lex_word.is s (by omega) _ (by omega)]
  rw [sb]
  generalize hn : wordS s = n at *
  have hx := xsize s 0 n (by omega)
  rw [if_pos (by omega), if_pos (by omega), show ((n : Nat) : Int).toNat = n by omega, lex_Number.is _ (by omega)]
  rw [sb]
  generalize numberF (s.extract 0 n) = a at *
  obtain ⟨a1, a2⟩ := a
  cases a2
  · simp only [Bool.false_eq_true, if_false]; rfl
  · simp only [if_true]
    have hx2 := xsize s (n + 1) s.size (Nat.le_refl _)
    have hw2 := wordS_le (s.extract (n + 1) s.size)
    by_cases hlt : n < s.size
    · rw [if_pos (by omega)]
      simp only [lex_number.j0]
      by_cases h37 : bt s n = 37
      · have h37b : (bt s (n : Int) == 37) = true := by simpa using h37
        rw [h37b, if_pos (show n < s.size ∧ bt s (n : Int) = 37 from ⟨hlt, h37⟩)]
        simp only [if_true]
        rw [w64 (by omega) (by omega), if_pos (by omega), if_pos (by omega), show ((n : Int) + 1).toNat = n + 1 by omega, lex_word.is _ (by omega) _ (by omega)]
        rw [sb]
        obtain ⟨m, hm⟩ : ∃ m, wordS (s.extract (n + 1) s.size) = m := ⟨_, rfl⟩
        rw [hm] at hw2 ⊢
        have hx3 := xsize s (n + 1) (n + 1 + m) (by omega)
        rw [w64 (by omega) (by omega), if_pos (by omega), if_pos (by omega), show ((n : Int) + 1 + (m : Int)).toNat = n + 1 + m by omega, lex_Number.is _ (by omega)]
        rw [sb]
        obtain ⟨b, hbb⟩ : ∃ b, numberF (s.extract (n + 1) (n + 1 + m)) = b := ⟨_, rfl⟩
        rw [hbb]
        clear hbb
        obtain ⟨b1, b2⟩ := b
        cases b2
        · simp only [Bool.false_eq_true, if_false]; rfl
        · simp only [if_true]; rw [show ((n + 1 + m : Nat) : Int) = (n : Int) + 1 + (m : Int) by omega]
      · rw [if_neg (by simpa using h37), if_neg (fun z => h37 z.2)]
    · rw [if_neg (by omega)]
      simp only [lex_number.j0]
      rw [if_neg (by simp), if_neg (fun z => hlt z.1)]
theorem numR_le (s : ByteArray) : 0 ≤ (numR s).2.2.2.2 ∧ (numR s).2.2.2.2 ≤ s.size := by
  have hw := wordS_le s
  unfold numR
  split
  · split
    · split
      · rename_i h _
        have hx2 := xsize s (wordS s + 1) s.size (Nat.le_refl _)
        have hw2 := wordS_le (s.extract (wordS s + 1) s.size)
        simp only
        omega
      · simp [noP]
    · simp only; omega
  · simp [noP]
theorem indexByte_le (c : UInt8) (l : List UInt8) : -1 ≤ Lib.indexByte l c ∧ Lib.indexByte l c < l.length := by
  induction l with
  | nil => simp [Lib.indexByte]
  | cons b l ih =>
    simp only [Lib.indexByte]
    split
    · simp <;> omega
    · split
      · simp <;> omega
      · simp <;> omega
/-- A text between marks. -/
def textR (s : ByteArray) : ByteArray × Int :=
  if Lib.indexByte (s.extract 1 s.size).data.toList (bt s 0).toNat.toUInt8 < 0 then (⟨#[]⟩, 0) else (s.extract 1 (1 + Lib.indexByte (s.extract 1 s.size).data.toList (bt s 0).toNat.toUInt8).toNat, Lib.indexByte (s.extract 1 s.size).data.toList (bt s 0).toNat.toUInt8 + 2)
theorem lex_text.is (s : ByteArray) (hs : s.size ≤ 1000000) (h0 : 0 < s.size) : lex_text.f s = some (textR s) := by
  unfold lex_text.f textR
  have hi := indexByte_le (bt s 0).toNat.toUInt8 (s.extract 1 s.size).data.toList
  rw [data_length, xsize s 1 s.size (Nat.le_refl _)] at hi
  rw [if_pos (by omega), if_pos (by omega)]
  unfold strings_IndexByte.f
  rw [sb]
  generalize Lib.indexByte (s.extract 1 s.size).data.toList (bt s 0).toNat.toUInt8 = i at *
  split
  · rfl
  · rw [w64 (a := 1 + i) (by omega) (by omega), w64 (by omega) (by omega), if_pos (by omega), if_pos (by omega)]
theorem textR_le (s : ByteArray) (h0 : 0 < s.size) : 0 ≤ (textR s).2 ∧ (textR s).2 ≤ s.size := by
  have hi := indexByte_le (bt s 0).toNat.toUInt8 (s.extract 1 s.size).data.toList
  rw [data_length, xsize s 1 s.size (Nat.le_refl _)] at hi
  unfold textR
  split
  · simp
  · simp only; omega
def signB (c : Int) : Bool := decide (0 ≤ Lib.indexByte [43, 45, 42, 47, 40, 41, 91, 93, 44, 58, 46, 61] c.toNat.toUInt8)
/-- The first piece. -/
def nextR (s : ByteArray) : Piece :=
  if letterB (bt s 0) = true then (1, My.upperB (s.extract 0 (wordS s)), 0, 0, ((wordS s : Nat) : Int))
  else if digitB (bt s 0) = true then numR s
  else if bt s 0 = 39 ∨ bt s 0 = 34 then (3, (textR s).1, 0, 0, (textR s).2)
  else if signB (bt s 0) = true then (4, s.extract 0 1, 0, 0, 1)
  else noP
theorem lex_next.is (s : ByteArray) (hs : s.size ≤ 1000000) (h0 : 0 < s.size) (k : Nat) (hk : s.size + 1 < k) : lex_next.f k s = some (nextR s) := by
  have hb := bt_range s 0
  have hw := wordS_le s
  unfold lex_next.f nextR
  rw [if_pos (by omega), lex_letter.is _ hb.1 hb.2]
  rw [sb]
  cases letterB (bt s 0)
  · simp only [Bool.false_eq_true, if_false]
    rw [lex_digit.is']
    rw [sb]
    cases digitB (bt s 0)
    · simp only [Bool.false_eq_true, if_false]
      obtain ⟨k, rfl⟩ : ∃ m, k = m + 1 := ⟨k - 1, by omega⟩
      simp only [lex_next.j0]
      have e : (if bt s 0 = 39 then lex_next.j0 (k + 1) s (bt s 0) true else lex_next.j0 (k + 1) s (bt s 0) (bt s 0 == 34)) = lex_next.j0 (k + 1) s (bt s 0) (decide (bt s 0 = 39 ∨ bt s 0 = 34)) := by
        by_cases h : bt s 0 = 39
        · rw [if_pos h, decide_eq_true (Or.inl h)]
        · rw [if_neg h]
          congr 1
          rw [Bool.eq_iff_iff, beq_iff_eq, decide_eq_true_iff]; omega
      simp only [lex_next.j0] at e
      rw [e]
      by_cases h : bt s 0 = 39 ∨ bt s 0 = 34
      · rw [if_pos (decide_eq_true h), if_pos h, lex_text.is s hs h0, sb]
      · rw [if_neg (by simpa using h), if_neg h]
        unfold strings_IndexByte.f
        rw [sb]
        by_cases hh : 0 ≤ Lib.indexByte [43, 45, 42, 47, 40, 41, 91, 93, 44, 58, 46, 61] (bt s 0).toNat.toUInt8
        · have e2 : signB (bt s 0) = true := decide_eq_true hh
          rw [e2, if_pos (by exact hh), if_pos (by omega), if_pos (by omega)]
          rfl
        · have e2 : signB (bt s 0) = false := decide_eq_false hh
          rw [e2, if_neg (by exact hh)]
          rfl
    · simp only [if_true]
      rw [lex_number.is s hs k (by omega), sb]
  · simp only [if_true]
    rw [lex_word.is s (by omega) _ (by omega)]
    rw [sb]
    rw [if_pos (by omega), if_pos (by omega), show ((wordS s : Nat) : Int).toNat = wordS s by omega]
    unfold lex_Upper.f
    rw [if_pos (by rw [xsize s 0 _ (by omega)]; omega), sb]
theorem nextR_le (s : ByteArray) (h0 : 0 < s.size) : 0 ≤ (nextR s).2.2.2.2 ∧ (nextR s).2.2.2.2 ≤ s.size := by
  have hw := wordS_le s
  unfold nextR
  split
  · simp only; omega
  · split
    · exact numR_le s
    · split
      · exact textR_le s h0
      · split
        · simp only; omega
        · simp [noP]
/-- May it stand between pieces? -/
def blankB (c : Int) : Bool := decide (c = 32 ∨ c = 9 ∨ c = 13)
abbrev Toks := List S28 × Int
/-- The pieces of a line; d: how many rounds there may be. -/
def lineL (s : ByteArray) (out : List S28) : Nat → Toks
  | 0 => (out, 0)
  | d + 1 =>
    if s.size = 0 ∨ bt s 0 = 59 then (out, 0)
    else if blankB (bt s 0) = true then lineL (s.extract 1 s.size) out d
    else if (nextR s).2.2.2.2 = 0 then ([], 3)
    else lineL (s.extract (nextR s).2.2.2.2.toNat s.size) (out ++ [⟨(nextR s).1, (nextR s).2.1, (nextR s).2.2.1, (nextR s).2.2.2.1⟩]) d
theorem ext_le (s : ByteArray) (i j : Nat) (hj : j ≤ s.size) : (s.extract i j).size ≤ s.size := by rw [xsize s i j hj]; omega
theorem nil_iff (s : ByteArray) : s.toList = ([] : List UInt8) ↔ s.size = 0 := by
  rw [ByteArray.toList_eq, ← data_length]
  exact List.length_eq_zero_iff.symm
theorem line_l (d : Nat) : ∀ (k : Nat) (s : ByteArray) (out : List S28), s.size < d → s.size ≤ 1000000 → out.length + s.size ≤ 1000000 → 4 * d + 4 + s.size < k → lex_Line.l0 k s out = some (lineL s out d) := by
  induction d with
  | zero => intro k s out h; omega
  | succ d ih =>
    intro k s out hd hs ho hk
    obtain ⟨k, rfl⟩ : ∃ m, k = m + 1 := ⟨k - 1, by omega⟩
    obtain ⟨k, rfl⟩ : ∃ m, k = m + 1 := ⟨k - 1, by omega⟩
    obtain ⟨k, rfl⟩ : ∃ m, k = m + 1 := ⟨k - 1, by omega⟩
    simp only [lex_Line.l0, lineL]
    by_cases hz : s.size = 0
    · rw [if_pos ((nil_iff s).2 hz), if_pos (Or.inl hz)]
      simp only [lex_Line.j1]
      rw [if_neg (by simp)]
    · rw [if_neg (fun h => hz ((nil_iff s).1 h)), if_pos (by omega)]
      by_cases h59 : bt s 0 = 59
      · rw [if_pos (Or.inr h59)]
        simp only [lex_Line.j1]
        rw [if_neg (by simp [h59])]
      · rw [if_neg (by omega)]
        simp only [lex_Line.j1]
        rw [if_pos (by simpa using h59), if_pos (by omega)]
        have e : (if bt s 0 = 32 then lex_Line.j2 (k + 1) s out true else if bt s 0 = 9 then lex_Line.j2 (k + 1) s out true else lex_Line.j2 (k + 1) s out (bt s 0 == 13)) = lex_Line.j2 (k + 1) s out (blankB (bt s 0)) := by
          by_cases a : bt s 0 = 32
          · rw [if_pos a]; congr 1; exact (decide_eq_true (Or.inl a)).symm
          rw [if_neg a]
          by_cases b : bt s 0 = 9
          · rw [if_pos b]; congr 1; exact (decide_eq_true (Or.inr (Or.inl b))).symm
          rw [if_neg b]
          congr 1
          unfold blankB
          rw [Bool.eq_iff_iff, beq_iff_eq, decide_eq_true_iff]; omega
        rw [e]
        simp only [lex_Line.j2]
        cases blankB (bt s 0)
        · rw [if_neg (by simp), if_neg (by simp)]
          have hn := nextR_le s (by omega)
          rw [lex_next.is s hs (by omega) _ (by omega), sb]
          by_cases h0 : (nextR s).2.2.2.2 = 0
          · rw [if_pos h0, if_pos h0]
          · rw [if_neg h0, if_neg h0, if_pos (by omega), if_pos (by omega), if_pos (by omega)]
            have hx := xsize s (nextR s).2.2.2.2.toNat s.size (Nat.le_refl _)
            exact ih k _ _ (by omega) (by omega) (by rw [List.length_append, List.length_singleton]; omega) (by omega)
        · rw [if_pos rfl, if_pos rfl, if_pos (by omega)]
          have hx := xsize s 1 s.size (Nat.le_refl _)
          exact ih k _ _ (by omega) (by omega) (by omega) (by omega)
/-- A line's pieces. -/
def lineR (s : ByteArray) : Toks := if 200 < s.size then ([], 8) else if My.cleanB s = true then lineL s [] (s.size + 1) else ([], 3)
theorem lex_Line.is (s : ByteArray) (k : Nat) (hk : 1010 < k) : lex_Line.f k s = some (lineR s) := by
  unfold lex_Line.f lineR
  by_cases h : 200 < s.size
  · rw [if_pos (by omega), if_pos h]
  · rw [if_neg (by omega), if_neg h]
    unfold lex_clean.f
    rw [sb]
    cases My.cleanB s
    · rw [if_neg (by simp), if_neg (by simp)]
    · rw [if_pos rfl, if_pos rfl]
      exact line_l (s.size + 1) k s [] (by omega) (by omega) (by simp; omega) (by omega)
theorem lineL_e (d : Nat) : ∀ (s : ByteArray) (out : List S28), (lineL s out d).2 = 0 ∨ (lineL s out d) = ([], 3) := by
  induction d with
  | zero => intro s out; exact Or.inl rfl
  | succ d ih =>
    intro s out
    simp only [lineL]
    split
    · exact Or.inl rfl
    · split
      · exact ih _ _
      · split
        · exact Or.inr rfl
        · exact ih _ _
theorem lineR_e (s : ByteArray) (h : s.size ≤ 200) : (lineR s).2 = 0 ∨ lineR s = ([], 3) := by
  unfold lineR
  rw [if_neg (by omega)]
  split
  · exact lineL_e _ _ _
  · exact Or.inr rfl
end Go.Proofs.Ytbededoebmbkdaa.QLexLines
