/- The law's pieces, and its line: what they are. -/
import Derived.Test.YtbededoebmbkdaaLexQ
import Derived.Test.YtbededoebmbkdaaQLexLinesx6
import Derived.Test.YtbededoebmbkdaaQLexLinesx7
namespace Go.Proofs.Ytbededoebmbkdaa.QLexLines
open Go.RowKit Go.Proofs.YtbededoebmbkdaaW.PrintWords Go.Proofs.YtbededoebmbkdaaW.PrintLast Go.Proofs.YtbededoebmbkdaaW.PrintMore
set_option linter.unusedVariables false
set_option linter.unusedSimpArgs false
theorem i64_mask (n : Int) (m j : Nat) (hm : (BitVec.ofInt 64 (m : Int)).toNat = 2 ^ j - 1) (hj : 2 ^ j ≤ 4294967296) (h2 : (2 ^ j : Nat) ∣ 2 ^ 64) : Go.bits .and .i64 n (m : Int) = n % ((2 ^ j : Nat) : Int) := by
  have key : (BitVec.ofInt 64 n &&& BitVec.ofInt 64 (m : Int)).toNat = (n % ((2 ^ 64 : Nat) : Int)).toNat % 2 ^ j := by
    rw [BitVec.toNat_and, BitVec.toNat_ofInt, hm, Nat.and_two_pow_sub_one_eq_mod]
  show IntKind.i64.wrap ((BitVec.ofInt 64 n &&& BitVec.ofInt 64 (m : Int)).toNat : Nat) = _
  rw [key, IntKind.wrap_i64]
  have hp : 0 < 2 ^ j := Nat.pow_pos (by decide)
  have h1 : (n % ((2 ^ 64 : Nat) : Int)) % ((2 ^ j : Nat) : Int) = n % ((2 ^ j : Nat) : Int) := Int.emod_emod_of_dvd n (by exact_mod_cast h2)
  have h0 : 0 ≤ n % ((2 ^ 64 : Nat) : Int) := Int.emod_nonneg _ (by decide)
  have h3 : (((n % ((2 ^ 64 : Nat) : Int)).toNat % 2 ^ j : Nat) : Int) = n % ((2 ^ j : Nat) : Int) := by
    rw [← h1, Int.natCast_emod, Int.toNat_of_nonneg h0]
  rw [h3]
  have h4 : 0 ≤ n % ((2 ^ j : Nat) : Int) := Int.emod_nonneg _ (by omega)
  have h5 : n % ((2 ^ j : Nat) : Int) < ((2 ^ j : Nat) : Int) := Int.emod_lt_of_pos _ (by omega)
  omega
theorem u64_mask (n : Int) (m j : Nat) (hm : (BitVec.ofInt 64 (m : Int)).toNat = 2 ^ j - 1) (hj : 2 ^ j ≤ 4294967296) (h2 : (2 ^ j : Nat) ∣ 2 ^ 64) : Go.bits .and .u64 n (m : Int) = n % ((2 ^ j : Nat) : Int) := by
  have key : (BitVec.ofInt 64 n &&& BitVec.ofInt 64 (m : Int)).toNat = (n % ((2 ^ 64 : Nat) : Int)).toNat % 2 ^ j := by
    rw [BitVec.toNat_and, BitVec.toNat_ofInt, hm, Nat.and_two_pow_sub_one_eq_mod]
  show IntKind.u64.wrap ((BitVec.ofInt 64 n &&& BitVec.ofInt 64 (m : Int)).toNat : Nat) = _
  rw [key, IntKind.wrap_u64]
  have hp : 0 < 2 ^ j := Nat.pow_pos (by decide)
  have h1 : (n % ((2 ^ 64 : Nat) : Int)) % ((2 ^ j : Nat) : Int) = n % ((2 ^ j : Nat) : Int) := Int.emod_emod_of_dvd n (by exact_mod_cast h2)
  have h0 : 0 ≤ n % ((2 ^ 64 : Nat) : Int) := Int.emod_nonneg _ (by decide)
  have h3 : (((n % ((2 ^ 64 : Nat) : Int)).toNat % 2 ^ j : Nat) : Int) = n % ((2 ^ j : Nat) : Int) := by
    rw [← h1, Int.natCast_emod, Int.toNat_of_nonneg h0]
  rw [h3]
  have h4 : 0 ≤ n % ((2 ^ j : Nat) : Int) := Int.emod_nonneg _ (by omega)
  have h5 : n % ((2 ^ j : Nat) : Int) < ((2 ^ j : Nat) : Int) := Int.emod_lt_of_pos _ (by omega)
  omega
theorem i64_255 (n : Int) : Go.bits .and .i64 n 255 = n % 256 := i64_mask n 255 8 (by decide) (by decide) (by decide)
theorem i64_3 (n : Int) : Go.bits .and .i64 n 3 = n % 4 := i64_mask n 3 2 (by decide) (by decide) (by decide)
theorem u64_255 (n : Int) : Go.bits .and .u64 n 255 = n % 256 := u64_mask n 255 8 (by decide) (by decide) (by decide)
theorem u64_24 (n : Int) : Go.bits .and .u64 n 16777215 = n % 16777216 := u64_mask n 16777215 24 (by decide) (by decide) (by decide)
theorem one_byte (c : Int) (h0 : 0 ≤ c) (h1 : c ≤ 255) : strOfNums [c] = ⟨#[UInt8.ofNat c.toNat]⟩ ∧ ((UInt8.ofNat c.toNat).toNat : Int) = c := by
  refine ⟨rfl, ?_⟩
  rw [UInt8.toNat_ofNat']
  omega
theorem name_tab : ∀ m : Nat, m < 13 → wordB (bt ⟨#[97, 98, 99, 88, 89, 90, 48, 49, 57, 95, 64, 63, 36]⟩ (m : Int)) = true := by decide +kernel
theorem text_tab : ∀ m : Nat, m < 8 → bt ⟨#[97, 98, 32, 59, 44, 34, 40, 49]⟩ (m : Int) ≠ 39 ∧ My.okI (bt ⟨#[97, 98, 32, 59, 44, 34, 40, 49]⟩ (m : Int)) = true := by decide +kernel
theorem sign_tab2 : ∀ m : Nat, m < 12 → signB (bt ⟨#[43, 45, 42, 47, 40, 41, 91, 93, 44, 58, 46, 61]⟩ (m : Int)) = true := by decide +kernel
theorem snoc_W (x : ByteArray) (hx : allW x) (c : Int) (h0 : 0 ≤ c) (h1 : c ≤ 255) (hc : wordB c = true) : allW (x ++ strOfNums [c]) ∧ (x ++ strOfNums [c]).size = x.size + 1 := by
  obtain ⟨e, ev⟩ := one_byte c h0 h1
  have hs : (x ++ strOfNums [c]).size = x.size + 1 := by rw [app_size]; rfl
  refine ⟨fun i hi => ?_, hs⟩
  rw [hs] at hi
  by_cases hlt : i < x.size
  · rw [bt_l x _ i hlt]; exact hx i hlt
  · obtain rfl : i = x.size + 0 := by omega
    rw [bt_r x _ 0 (by show 0 < 1; omega), e]
    have : bt (⟨#[UInt8.ofNat c.toNat]⟩ : ByteArray) ((0 : Nat) : Int) = ((UInt8.ofNat c.toNat).toNat : Int) := rfl
    rw [this, ev]; exact hc
theorem name_l (x1 : ByteArray) (x0 x2 : Int) (d : Nat) : ∀ (k i : Nat) (x8 : ByteArray), (5 ≤ i + d ∨ x1.size ≤ i + d) → i + d ≤ 5 → allW x8 → x8.size = 1 + i → bt x8 0 = 81 →
    ∃ nm k', k ≤ k' ∧ hansomlaw28_piece.l0 (k + d + 1) x0 x1 x2 x8 i = hansomlaw28_piece.j1 k' x0 x1 x2 nm ∧ allW nm ∧ 0 < nm.size ∧ nm.size ≤ 6 ∧ bt nm 0 = 81 := by
  induction d with
  | zero =>
    intro k i x8 h5 hi hw hs hq
    refine ⟨x8, k, Nat.le_refl _, ?_, hw, by omega, by omega, hq⟩
    simp only [hansomlaw28_piece.l0]
    by_cases hlt : (i : Int) < (x1.size : Int)
    · rw [if_pos hlt, if_neg (by omega)]
    · rw [if_neg hlt]
  | succ d ih =>
    intro k i x8 h5 hi hw hs hq
    rw [show k + (d + 1) + 1 = (k + d + 1) + 1 by omega]
    simp only [hansomlaw28_piece.l0]
    by_cases hlt : (i : Int) < (x1.size : Int)
    · rw [if_pos hlt, if_pos (by omega), if_pos (by omega)]
      have hb := bt_range x1 (i : Nat)
      have hm0 : Int.tmod (bt x1 (i : Nat)) 13 = bt x1 (i : Nat) % 13 := Int.tmod_eq_emod_of_nonneg hb.1
      rw [hm0, if_pos (by omega), if_pos (by omega), sb]
      obtain ⟨m, hm⟩ := Int.eq_ofNat_of_zero_le (show 0 ≤ bt x1 (i : Nat) % 13 by omega)
      rw [hm]
      have hm13 : m < 13 := by omega
      have hc := name_tab m hm13
      have hcr := bt_range ⟨#[97, 98, 99, 88, 89, 90, 48, 49, 57, 95, 64, 63, 36]⟩ (m : Int)
      obtain ⟨hW, hS⟩ := snoc_W x8 hw _ hcr.1 hcr.2 hc
      have hss : (strOfNums [bt ⟨#[97, 98, 99, 88, 89, 90, 48, 49, 57, 95, 64, 63, 36]⟩ (m : Int)]).size = 1 := rfl
      rw [if_pos (by omega), w64 (by omega) (by omega)]
      obtain ⟨nm, k', hk', he, h⟩ := ih k (i + 1) _ (by omega) (by omega) hW (by omega) (by rw [show (0 : Int) = ((0 : Nat) : Int) from rfl, bt_l x8 _ 0 (by omega)]; exact hq)
      exact ⟨nm, k', hk', by rw [← he]; rfl, h⟩
    · refine ⟨x8, k + d + 1, by omega, ?_, hw, by omega, by omega, hq⟩
      rw [if_neg hlt]
theorem textl_l (x1 : ByteArray) (d : Nat) : ∀ (k i : Nat) (x : ByteArray), (5 ≤ i + d ∨ x1.size ≤ i + d) → i + d ≤ 5 → allT x → x.size = i →
    ∃ t, hansomlaw28_piece.l1 (k + d + 1) x1 x i = some ((⟨#[39]⟩ ++ t) ++ ⟨#[39]⟩, 3, t, 0, 0) ∧ allT t ∧ t.size ≤ 5 := by
  have h1 : (⟨#[39]⟩ : ByteArray).size = 1 := rfl
  induction d with
  | zero =>
    intro k i x h5 hi hw hs
    refine ⟨x, ?_, hw, by omega⟩
    simp only [hansomlaw28_piece.l1]
    have hend : (if 1 + x.size ≤ 9223372036854775807 then (if ((⟨#[39]⟩ : ByteArray) ++ x).size + 1 ≤ 9223372036854775807 then (some (((⟨#[39]⟩ : ByteArray) ++ x) ++ (⟨#[39]⟩ : ByteArray), (3 : Int), x, (0 : Int), (0 : Int))) else (none)) else (none)) = some ((⟨#[39]⟩ ++ x) ++ ⟨#[39]⟩, 3, x, 0, 0) := by
      rw [if_pos (by omega), if_pos (by rw [app_size]; omega)]
    by_cases hlt : (i : Int) < (x1.size : Int)
    · rw [if_pos hlt, if_neg (by omega)]; exact hend
    · rw [if_neg hlt]; exact hend
  | succ d ih =>
    intro k i x h5 hi hw hs
    rw [show k + (d + 1) + 1 = (k + d + 1) + 1 by omega]
    simp only [hansomlaw28_piece.l1]
    by_cases hlt : (i : Int) < (x1.size : Int)
    · rw [if_pos hlt, if_pos (by omega), if_pos (by omega)]
      have hb := bt_range x1 (i : Nat)
      have hm0 : Int.tmod (bt x1 (i : Nat)) 8 = bt x1 (i : Nat) % 8 := Int.tmod_eq_emod_of_nonneg hb.1
      rw [hm0, if_pos (by omega), if_pos (by omega), sb]
      obtain ⟨m, hm⟩ := Int.eq_ofNat_of_zero_le (show 0 ≤ bt x1 (i : Nat) % 8 by omega)
      rw [hm]
      have hc := text_tab m (by omega)
      have hcr := bt_range ⟨#[97, 98, 32, 59, 44, 34, 40, 49]⟩ (m : Int)
      obtain ⟨e, ev⟩ := one_byte _ hcr.1 hcr.2
      have hss : (strOfNums [bt ⟨#[97, 98, 32, 59, 44, 34, 40, 49]⟩ (m : Int)]).size = 1 := rfl
      have hT : allT (x ++ strOfNums [bt ⟨#[97, 98, 32, 59, 44, 34, 40, 49]⟩ (m : Int)]) := by
        intro y hy
        rw [e, ByteArray.data_append, Array.toList_append, List.mem_append] at hy
        rcases hy with hy | hy
        · exact hw y hy
        · have hy2 : y = UInt8.ofNat (bt ⟨#[97, 98, 32, 59, 44, 34, 40, 49]⟩ (m : Int)).toNat := by simpa using hy
          subst hy2
          refine ⟨fun h => hc.1 ?_, by rw [ev]; exact hc.2⟩
          rw [← ev, h]; rfl
      rw [if_pos (by omega), w64 (by omega) (by omega)]
      obtain ⟨t, he, h⟩ := ih k (i + 1) _ (by omega) (by omega) hT (by rw [app_size]; omega)
      exact ⟨t, by rw [← he]; rfl, h⟩
    · refine ⟨x, ?_, hw, by omega⟩
      rw [if_neg hlt, if_pos (by omega), if_pos (by rw [app_size]; omega)]
theorem piece_is (k : Nat) (x0 : Int) (x1 : ByteArray) (x2 : Int) (h0 : 0 ≤ x0) (hk : 30 ≤ k) (h2 : 0 ≤ x2) :
    ∃ p a b c d, hansomlaw28_piece.f k x0 x1 x2 = some (p, a, b, c, d) ∧ isPiece p a b c d := by
  obtain ⟨k, rfl⟩ : ∃ m, k = m + 5 + 1 := ⟨k - 6, by omega⟩
  obtain ⟨nm, k', hk', he, hW, hn0, hn6, hq⟩ := name_l x1 x0 x2 5 k 0 ⟨#[81]⟩ (by omega) (by omega) (fun i hi => by have hi' : i < 1 := hi; obtain rfl : i = 0 := (by omega); decide) rfl (by decide)
  unfold hansomlaw28_piece.f
  rw [show ((0 : Int)) = ((0 : Nat) : Int) from rfl, he]
  obtain ⟨k', rfl⟩ : ∃ m, k' = m + 5 + 1 := ⟨k' - 6, by omega⟩
  rw [show k' + 5 + 1 = (k' + 5) + 1 from rfl]
  simp only [hansomlaw28_piece.j1]
  have hm5 : Int.tmod x0 5 = x0 % 5 := Int.tmod_eq_emod_of_nonneg h0
  rw [hm5]
  by_cases c0 : x0 % 5 = 0
  · rw [if_pos c0]
    unfold lex_Upper.f
    rw [if_pos (by omega), sb]
    exact ⟨nm, 1, _, 0, 0, rfl, name_piece nm hn0 (by omega) hW (by rw [hq]; decide)⟩
  rw [if_neg c0]
  by_cases c1 : x0 % 5 = 1
  · rw [if_pos c1, u64_24]
    obtain ⟨n, hn⟩ := Int.eq_ofNat_of_zero_le (show 0 ≤ x2 % 16777216 by omega)
    rw [hn]
    obtain ⟨t, ht, hd, hs⟩ := text_f 7 (k' + 5) n (by omega) (by omega) (by omega)
    rw [ht, sb]
    exact ⟨t, 2, _, (n : Int), 0, rfl, num_piece t n hd (by omega) (by omega)⟩
  rw [if_neg c1]
  by_cases c2 : x0 % 5 = 2
  · rw [if_pos c2]
    obtain ⟨t, ht, hT, h5⟩ := textl_l x1 5 (k' - 1) 0 ⟨#[]⟩ (by omega) (by omega) (fun x hx => by simp at hx) rfl
    rw [show k' - 1 + 5 + 1 = k' + 5 by omega] at ht
    rw [show ((0 : Nat) : Int) = 0 from rfl] at ht
    rw [ht]
    exact ⟨_, 3, t, 0, 0, rfl, text_piece t h5 hT⟩
  rw [if_neg c2]
  by_cases c3 : x0 % 5 = 3
  · rw [if_pos c3, u64_255, u64_255]
    obtain ⟨n, hn⟩ := Int.eq_ofNat_of_zero_le (show 0 ≤ x2 % 256 by omega)
    obtain ⟨m, hm⟩ := Int.eq_ofNat_of_zero_le (show 0 ≤ x2 / 256 % 256 by omega)
    rw [hn, hm]
    obtain ⟨t, ht, hd, hs⟩ := text_f 2 (k' + 5) n (by omega) (by omega) (by omega)
    obtain ⟨u, hu, hd2, hs2⟩ := text_f 2 (k' + 5) m (by omega) (by omega) (by omega)
    have h37 : (⟨#[37]⟩ : ByteArray).size = 1 := rfl
    rw [ht, sb, if_pos (by omega), hu, sb, if_pos (by rw [app_size]; omega)]
    exact ⟨_, 5, _, (n : Int), (m : Int), rfl, ratio_piece t u n m hd hd2 (by omega) (by omega) (by omega) (by omega)⟩
  rw [if_neg c3]
  have hm12 : Int.tmod x2 12 = x2 % 12 := Int.tmod_eq_emod_of_nonneg h2
  rw [hm12, if_pos (by omega), if_pos (by omega)]
  obtain ⟨m, hm⟩ := Int.eq_ofNat_of_zero_le (show 0 ≤ x2 % 12 by omega)
  rw [hm]
  have hcr := bt_range ⟨#[43, 45, 42, 47, 40, 41, 91, 93, 44, 58, 46, 61]⟩ (m : Int)
  obtain ⟨e, ev⟩ := one_byte _ hcr.1 hcr.2
  rw [e]
  exact ⟨_, 4, _, 0, 0, rfl, sign_piece _ (by rw [ev]; exact sign_tab2 m (by omega))⟩
/-! ### the law -/
theorem l1_all (l : List S28) (hl : l.length ≤ 1000) (d : Nat) : ∀ (k i : Nat), i + d = l.length → d + 1 < k → 1020 < k - d → hansomlaw28_LexLines.l1 k l l i = (hansomlaw28_awake.f (k - d - 1)).bind fun t => some t := by
  induction d with
  | zero =>
    intro k i hi hk _
    obtain ⟨k, rfl⟩ : ∃ m, k = m + 1 := ⟨k - 1, by omega⟩
    simp only [hansomlaw28_LexLines.l1]
    rw [if_neg (by omega)]
    rfl
  | succ d ih =>
    intro k i hi hk hk2
    obtain ⟨k, rfl⟩ : ∃ m, k = m + 1 := ⟨k - 1, by omega⟩
    simp only [hansomlaw28_LexLines.l1]
    rw [if_pos (by omega), if_pos (by omega), if_pos (by omega), if_neg (by simp), w64 (by omega) (by omega)]
    have := ih k (i + 1) (by omega) (by omega) (by omega)
    rw [show k + 1 - (d + 1) - 1 = k - d - 1 by omega, ← this]
    rfl
theorem awake_k (k : Nat) (hk : 1010 < k) : hansomlaw28_awake.f k = some true := by
  unfold hansomlaw28_awake.f
  rw [lex_Line.is _ k hk, sb]
  decide +kernel
theorem lines_end (k : Nat) (x : ByteArray) (l : List S28) (x0 : List Int) (x1 : List ByteArray) (x2 : List Int) (x9 : Int) (h : Inv x l) (hs : x.size ≤ 150) (hl : l.length ≤ 10) (hk : 1100 ≤ k) : hansomlaw28_LexLines.j1 k x0 x1 x2 x l x9 false = some true := by
  obtain ⟨k, rfl⟩ : ∃ m, k = m + 1 := ⟨k - 1, by omega⟩
  obtain ⟨k, rfl⟩ : ∃ m, k = m + 1 := ⟨k - 1, by omega⟩
  simp only [hansomlaw28_LexLines.j1]
  rw [if_neg (by simp), if_pos (by omega), lex_Line.is _ _ (by omega), sb]
  have hL := h.line hs
  unfold tailB at hL
  rw [hL]
  simp only
  rw [if_pos trivial]
  simp only [hansomlaw28_LexLines.j2]
  rw [if_neg (by simp)]
  have := l1_all l (by omega) l.length k 0 (by omega) (by omega) (by omega)
  rw [show (((0 : Nat) : Int)) = 0 from rfl] at this
  rw [this, awake_k _ (by omega), sb]
theorem blank_tab : ∀ m : Nat, m < 4 → isBlank (rdOf ByteArray.empty [(⟨#[32]⟩ : ByteArray), ⟨#[9]⟩, ⟨#[32, 32]⟩, ⟨#[32, 13]⟩] (m : Int)) ∧ (rdOf ByteArray.empty [(⟨#[32]⟩ : ByteArray), ⟨#[9]⟩, ⟨#[32, 32]⟩, ⟨#[32, 13]⟩] (m : Int)).size ≤ 2 := by
  intro m hm
  rcases (show m = 0 ∨ m = 1 ∨ m = 2 ∨ m = 3 by omega) with rfl | rfl | rfl | rfl
  · exact ⟨Or.inl rfl, by decide⟩
  · exact ⟨Or.inr (Or.inl rfl), by decide⟩
  · exact ⟨Or.inr (Or.inr (Or.inl rfl)), by decide⟩
  · exact ⟨Or.inr (Or.inr (Or.inr rfl)), by decide⟩
theorem step_all {x : ByteArray} {l : List S28} {i : Nat} (h : Inv x l) (hl : l.length = i) (hs : x.size ≤ 11 * i) (q p : ByteArray) (hq : isBlank q) (hq2 : q.size ≤ 2) (a : Int) (b : ByteArray) (c d : Int) (hp : isPiece p a b c d) : p.size ≤ 9 ∧ Inv (x ++ (q ++ p)) (l ++ [⟨a, b, c, d⟩]) ∧ (l ++ [(⟨a, b, c, d⟩ : S28)]).length = i + 1 ∧ (x ++ (q ++ p)).size ≤ 11 * (i + 1) := by
  have h9 : p.size ≤ 9 := hp.2.1
  refine ⟨h9, h.step q p hq a b c d hp, by rw [List.length_append, List.length_singleton, hl], ?_⟩
  rw [app_size, app_size]
  omega
theorem lines_l (x0 : List Int) (x1 : List ByteArray) (x2 : List Int) (hx2 : ∀ i : Int, 0 ≤ rd x2 i) (d : Nat) : ∀ (k i : Nat) (x : ByteArray) (l : List S28), i + d = 10 → Inv x l → l.length = i → x.size ≤ 11 * i → 1102 + 2 * d ≤ k → hansomlaw28_LexLines.l0 k x0 x1 x2 x l i = some true := by
  induction d with
  | zero =>
    intro k i x l hi h hl hs hk
    obtain ⟨k, rfl⟩ : ∃ m, k = m + 1 := ⟨k - 1, by omega⟩
    simp only [hansomlaw28_LexLines.l0]
    rw [decide_eq_false (show ¬ (i : Int) < 10 by omega)]
    split <;> exact lines_end k x l x0 x1 x2 i h (by omega) (by omega) (by omega)
  | succ d ih =>
    intro k i x l hi h hl hs hk
    obtain ⟨k, rfl⟩ : ∃ m, k = m + 1 := ⟨k - 1, by omega⟩
    simp only [hansomlaw28_LexLines.l0]
    by_cases hlt : (i : Int) < (x0.length : Int)
    · rw [if_pos hlt, decide_eq_true (show (i : Int) < 10 by omega)]
      obtain ⟨k, rfl⟩ : ∃ m, k = m + 1 := ⟨k - 1, by omega⟩
      have k30 : 30 ≤ k := by omega
      have i1 : i + 1 + d = 10 := by omega
      have k2 : 1102 + 2 * d ≤ k := by omega
      have xs : x.size ≤ 110 := by omega
      have ls : l.length < 3518437208883 := by omega
      simp only [hansomlaw28_LexLines.j1]
      rw [if_pos (by trivial)]
      obtain ⟨m, hm⟩ := Int.eq_ofNat_of_zero_le (show 0 ≤ rd x0 (i : Nat) / 256 % 4 by omega)
      have hm4 : m < 4 := by omega
      obtain ⟨hbl, hbs⟩ := blank_tab m hm4
      obtain ⟨q, hq⟩ : ∃ q, rdOf ByteArray.empty [(⟨#[32]⟩ : ByteArray), ⟨#[9]⟩, ⟨#[32, 32]⟩, ⟨#[32, 13]⟩] (m : Int) = q := ⟨_, rfl⟩
      rw [hq] at hbl hbs
      have h255 : 0 ≤ rd x0 (i : Nat) % 256 := by omega
      have hi0 : (0 : Int) ≤ (i : Int) := by omega
      have hw : wrap64 ((i : Int) + 1) = ((i + 1 : Nat) : Int) := by rw [w64 (by omega) (by omega)]; rfl
      have hdef : 0 ≤ IntKind.u64.wrap (IntKind.u64.wrap (i : Int) * 7919) := by rw [IntKind.wrap_u64]; omega
      rw [i64_255, i64_3, hm, hw]
      have go : ∀ (s : ByteArray) (n : Int), 0 ≤ n → ∃ p a b c e, hansomlaw28_piece.f k (rd x0 (i : Nat) % 256) s n = some (p, a, b, c, e) ∧ p.size ≤ 9 ∧ hansomlaw28_LexLines.l0 k x0 x1 x2 (x ++ (q ++ p)) (l ++ [⟨a, b, c, e⟩]) ((i + 1 : Nat) : Int) = some true := by
        intro s n hn
        obtain ⟨p, a, b, c, e, hp, hP⟩ := piece_is k (rd x0 (i : Nat) % 256) s n h255 k30 hn
        obtain ⟨h9, hI, hL, hS⟩ := step_all h hl hs q p hbl hbs a b c e hP
        exact ⟨p, a, b, c, e, hp, h9, ih k (i + 1) (x ++ (q ++ p)) (l ++ [⟨a, b, c, e⟩]) i1 hI hL hS k2⟩
      have fin : ∀ (s : ByteArray) (n : Int), 0 ≤ n → ((hansomlaw28_piece.f k (rd x0 (i : Nat) % 256) s n).bind fun bt => (some (([(⟨#[32]⟩ : ByteArray), (⟨#[9]⟩ : ByteArray), (⟨#[32, 32]⟩ : ByteArray), (⟨#[32, 13]⟩ : ByteArray)] : List ByteArray) : List ByteArray)).bind fun y => if 0 ≤ (m : Int) then if (m : Int) < (y.length : Int) then if (rdOf ByteArray.empty y (m : Int)).size + bt.1.size ≤ 9223372036854775807 then if x.size + ((rdOf ByteArray.empty y (m : Int)) ++ bt.1).size ≤ 9223372036854775807 then if l.length < 3518437208883 then hansomlaw28_LexLines.l0 k x0 x1 x2 (x ++ ((rdOf ByteArray.empty y (m : Int)) ++ bt.1)) (l ++ [(⟨bt.2.1, bt.2.2.1, bt.2.2.2.1, bt.2.2.2.2⟩ : S28)]) ((i + 1 : Nat) : Int) else none else none else none else none else none) = some true := by
        intro s n hn
        obtain ⟨p, a, b, c, e, hp, h9, hl0⟩ := go s n hn
        rw [hp, sb, sb, hq]
        have e4 : (m : Int) < (([(⟨#[32]⟩ : ByteArray), (⟨#[9]⟩ : ByteArray), (⟨#[32, 32]⟩ : ByteArray), (⟨#[32, 13]⟩ : ByteArray)] : List ByteArray).length : Int) := by show (m : Int) < 4; omega
        have m0 : (0 : Int) ≤ (m : Int) := Int.natCast_nonneg m
        have s1 : q.size + p.size ≤ 9223372036854775807 := by clear hm hdef hw e4 hp go; omega
        have s2 : x.size + (q ++ p).size ≤ 9223372036854775807 := by rw [app_size]; clear hm hdef hw e4 hp go; omega
        rw [if_pos m0, if_pos e4, if_pos s1, if_pos s2, if_pos ls]
        exact hl0
      by_cases h1 : (i : Int) < (x1.length : Int)
      · rw [if_pos h1, if_pos hi0]
        by_cases h2 : (i : Int) < (x2.length : Int)
        · rw [if_pos h2, if_pos hlt]; exact fin _ _ (hx2 _)
        · rw [if_neg h2, if_pos hlt]; exact fin _ _ hdef
      · rw [if_neg h1]
        by_cases h2 : (i : Int) < (x2.length : Int)
        · rw [if_pos h2, if_pos hi0, if_pos hlt]; exact fin _ _ (hx2 _)
        · rw [if_neg h2, if_pos hi0, if_pos hlt]; exact fin _ _ hdef
    · rw [if_neg hlt]
      exact lines_end k x l x0 x1 x2 i h (by omega) (by omega) (by omega)
theorem lines_true (x0 : List Int) (x1 : List ByteArray) (x2 : List Int) (hx2 : ∀ i : Int, 0 ≤ rd x2 i) : hansomlaw28_LexLines.f 1200 x0 x1 x2 = some true :=
  lines_l x0 x1 x2 hx2 10 1200 0 ⟨#[]⟩ [] rfl Inv.nil rfl (by decide) (by decide)
end Go.Proofs.Ytbededoebmbkdaa.QLexLines
