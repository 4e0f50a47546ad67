/- The walk of the law LexBad: it returns true at every input. -/
import Derived.Test.YtbededoebmbkdaaLexP
import Derived.Test.YtbededoebmbkdaaQLexLinesx6
import Derived.LoopTactic
import Derived.Outline
namespace Go.Proofs.Ytbededoebmbkdaa.QLexLines
open Go.RowKit Go.Proofs.YtbededoebmbkdaaW.PrintWords Go.Proofs.YtbededoebmbkdaaW.PrintLast Go.Proofs.YtbededoebmbkdaaW.PrintMore
attribute [local go_sem] max2_int min2_int max_two min_two
set_option linter.unusedVariables false
set_option linter.unusedSimpArgs false
theorem bad_1 : lineR ⟨#[39, 97, 98, 99]⟩ = ([], 3) := by rcases lineR_e ⟨#[39, 97, 98, 99]⟩ (by decide) with h | h; exact absurd h (by decide +kernel); exact h
theorem bad_2 : lineR ⟨#[49, 50, 120]⟩ = ([], 3) := by rcases lineR_e ⟨#[49, 50, 120]⟩ (by decide) with h | h; exact absurd h (by decide +kernel); exact h
theorem bad_3 : lineR ⟨#[77, 79, 86, 32, 33, 32]⟩ = ([], 3) := by rcases lineR_e ⟨#[77, 79, 86, 32, 33, 32]⟩ (by decide) with h | h; exact absurd h (by decide +kernel); exact h
def rep (n : Nat) : ByteArray := ⟨(List.replicate n 97).toArray⟩
theorem rep_198 : (lineR (rep 198)).2 = 0 := by decide +kernel
theorem rep_199 : (lineR (rep 199)).2 = 0 := by decide +kernel
theorem rep_200 : (lineR (rep 200)).2 = 0 := by decide +kernel
theorem awake_is : hansomlaw28_awake.f 1020 = some true := by
  unfold hansomlaw28_awake.f
  rw [lex_Line.is _ 1020 (by omega), sb]
  decide +kernel
theorem awake28_c (w : World) : Calls Try.prog 10 #[] w fun e w' => e = .returned (.bool true) ∧ Below w.heap.size w w' := hansomlaw28_awake.calls 1020 true w awake_is
theorem line_c (s : ByteArray) (l : List S28) (e : Int) (h : lineR s = (l, e)) (w : World) : Calls Try.prog 9 #[.string s] w fun E w' => ∃ A c, E = .returned (.tuple #[.slice A l.length c, .int .i64 e]) ∧ Below w.heap.size w w' := by
  refine (lex_Line.calls 1011 s l e w (by rw [lex_Line.is s _ (by omega), h])).mono ?_
  rintro E w' ⟨v, rfl, hr, hb⟩
  obtain ⟨A, c, rfl⟩ := Kd.R_slice hr
  exact ⟨A, c, rfl, hb⟩
theorem take_at (s : ByteArray) (k : Nat) (h : k < s.size) : (s.data.toList.take (k + 1)).all (fun c => My.okI (c.toNat : Int)) = ((s.data.toList.take k).all (fun c => My.okI (c.toNat : Int)) && My.okI (bt s (k : Nat))) := by
  rw [My.take_snoc s k h, List.all_append]
  simp [bt, h]
theorem rep_size (k : Nat) : (rep k).size = k := by
  show (List.replicate k 97).toArray.size = k
  rw [List.size_toArray, List.length_replicate]
theorem rep_succ (k : Nat) : rep k ++ ⟨#[97]⟩ = rep (k + 1) := by
  apply ByteArray.ext
  rw [ByteArray.data_append]
  simp only [rep, List.replicate_succ']
  rw [← List.append_toArray]
theorem i64_and7 (n : Int) : Go.bits .and .i64 n 7 = n % 8 := by
  have h3 : (BitVec.ofInt 64 7).toNat = 2 ^ 3 - 1 := by decide
  have key : (BitVec.ofInt 64 n &&& BitVec.ofInt 64 7).toNat = (n % ((2 ^ 64 : Nat) : Int)).toNat % 2 ^ 3 := by
    rw [BitVec.toNat_and, BitVec.toNat_ofInt, h3, Nat.and_two_pow_sub_one_eq_mod]
  show IntKind.i64.wrap ((BitVec.ofInt 64 n &&& BitVec.ofInt 64 7).toNat : Nat) = n % 8
  rw [key, IntKind.wrap_i64]
  omega
theorem and7 (n : Int) : 0 ≤ Go.bits .and .i64 n 7 ∧ Go.bits .and .i64 n 7 ≤ 7 := by rw [i64_and7]; omega
theorem rep_e (q : Nat) (h : q ≤ 7) : (q ≤ 2 ∧ (lineR (rep (198 + q))).2 = 0) ∨ (¬ q ≤ 2 ∧ (lineR (rep (198 + q))).2 = 8) := by
  by_cases hq : q ≤ 2
  · refine Or.inl ⟨hq, ?_⟩
    rcases (show q = 0 ∨ q = 1 ∨ q = 2 by omega) with rfl | rfl | rfl
    · exact rep_198
    · exact rep_199
    · exact rep_200
  · refine Or.inr ⟨hq, ?_⟩
    unfold lineR
    rw [if_pos (by rw [rep_size]; omega)]
set_option maxHeartbeats 4000000 in
set_option maxRecDepth 100000 in
theorem lexBad_w (s : ByteArray) (n : Int) (w : World) (ws : s.size ≤ maxLen) (wn : (Lit.int .i64 n).wf = true) :
    Calls Try.prog 4 #[.string s, .int .i64 n] w fun e w' => e = .returned (.bool true) ∧ Below w.heap.size w w' := by
  have hs : s.size ≤ 9223372036854775807 := by unfold maxLen at ws; omega
  clear ws
  obtain ⟨t, ht⟩ : ∃ t, s.extract 0 (if 60 < s.size then 60 else s.size) = t := ⟨_, rfl⟩
  have hts : t.size ≤ 60 := by rw [← ht, xsize _ _ _ (by split <;> omega)]; split <;> omega
  obtain ⟨l, e, hle⟩ : ∃ l e, lineR t = (l, e) := ⟨_, _, rfl⟩
  have hpl : (e = 0 ∧ My.cleanB t = true) ∨ (l = [] ∧ e = 3) := by
    rcases lineR_e t (by omega) with h | h
    · left
      rw [hle] at h
      refine ⟨h, ?_⟩
      cases hc : My.cleanB t
      · unfold lineR at hle
        rw [if_neg (by omega), hc, if_neg (by simp)] at hle
        injection hle with _ h2
        rw [← h2] at h
        exact absurd h (by simp)
      · rfl
    · right
      rw [hle] at h
      injection h with h1 h2
      exact ⟨h1, h2⟩
  have HL := Aside0.mk (line_c t l e hle)
  have hq7 := and7 n
  obtain ⟨q, hq⟩ : ∃ q, Go.bits .and .i64 n 7 = q := ⟨_, rfl⟩
  rw [hq] at hq7
  obtain ⟨q, rfl⟩ := Int.eq_ofNat_of_zero_le hq7.1
  have hq7' : q ≤ 7 := by omega
  obtain ⟨l2, e2, hle2⟩ : ∃ l e, lineR (rep (198 + q)) = (l, e) := ⟨_, _, rfl⟩
  have he2 : (q ≤ 2 ∧ e2 = 0) ∨ (¬ q ≤ 2 ∧ e2 = 8) := by
    have h := rep_e q hq7'
    rwa [hle2] at h
  have HL2 := Aside0.mk (line_c _ l2 e2 hle2)
  have HL3 := Aside0.mk (line_c _ _ _ bad_1)
  have HL4 := Aside0.mk (line_c _ _ _ bad_2)
  have HL5 := Aside0.mk (line_c _ _ _ bad_3)
  clear hle hle2 hq7 wn
  have HP := Aside0.mk hpl
  have HE := Aside0.mk he2
  clear hpl he2
  by_cases h60 : 60 < s.size
  all_goals
    first | rw [if_pos h60] at ht | rw [if_neg h60] at ht
    go_enter Try.func4, Try.ntmps4
    go_wp2_with fail
    refine (HL.out _).mono ?_
    rintro E w1 ⟨A, c, rfl, hb1⟩
    have BB := Aside0.mk hb1
    clear hb1
    go_wp2_with fail
    go_loop [8, 9] (fun v i => ∃ (k : Nat) (b : Bool), k ≤ t.size ∧ i = .int .i64 k ∧ v = .bool b ∧ Aside0 (b = (t.data.toList.take k).all (fun c => My.okI (c.toNat : Int)))) (fun _ i => t.size - (intOf i).toNat)
    case atStart => exact ⟨0, true, by omega, rfl, rfl, ⟨rfl⟩⟩
    case round =>
      obtain ⟨k, b, hk, rfl, rfl, HB⟩ := hrel
      by_cases hlt : k < t.size
      · have hx : ∀ h, ((t[k]'h).toNat : Int) = bt t (k : Nat) := bt_at t (k : Nat)
        have hr := bt_range t (k : Nat)
        obtain ⟨r0, r1⟩ := hr
        have HT := Aside0.mk (take_at t k hlt)
        cases b
        · go_wp2_with fail
          go_round
          case rel => exact ⟨k + 1, false, by omega, by go_num, rfl, ⟨by rw [HT.out, ← HB.out]; rfl⟩⟩
          case measure => simp [intOf]; omega
        generalize bt t (k : Int) = x at *
        have HO : Aside0 (∀ v, My.okI x = v → v = (t.data.toList.take (k + 1)).all (fun c => My.okI (c.toNat : Int))) := ⟨fun v hv => by rw [HT.out, ← HB.out, hv]; rfl⟩
        clear HT HB
        by_cases h1 : x = 9
        · subst h1
          go_wp2_with fail
          go_round
          case rel => exact ⟨k + 1, true, by omega, by go_num, rfl, ⟨HO.out true (by decide)⟩⟩
          case measure => simp [intOf]; omega
        by_cases h2 : x = 13
        · subst h2
          go_wp2_with fail
          go_round
          case rel => exact ⟨k + 1, true, by omega, by go_num, rfl, ⟨HO.out true (by decide)⟩⟩
          case measure => simp [intOf]; omega
        have t1 : (x == 9) = false := by simpa using h1
        have t2 : (x == 13) = false := by simpa using h2
        by_cases h3 : x < 32
        · go_wp2_with fail
          go_round
          case rel => exact ⟨k + 1, false, by omega, by go_num, rfl, ⟨HO.out false (by simp [My.okI]; omega)⟩⟩
          case measure => simp [intOf]; omega
        by_cases h4 : 126 < x
        · have t5 : decide (x < 127) = false := by simp; omega
          go_wp2_with fail
          go_round
          case rel => exact ⟨k + 1, false, by omega, by go_num, rfl, ⟨HO.out false (by simp [My.okI]; omega)⟩⟩
          case measure => simp [intOf]; omega
        · go_wp2_with fail
          go_round
          case rel => exact ⟨k + 1, true, by omega, by go_num, rfl, ⟨HO.out true (by simp [My.okI]; omega)⟩⟩
          case measure => simp [intOf]; omega
      · have hb : b = My.cleanB t := by
          rw [HB.out, List.take_of_length_le (by rw [data_length]; omega)]
          rfl
        clear HB
        have HC := Aside0.mk hb
        clear hb
        go_wp2_with fail
        go_loop [10, 11] (fun v i => ∃ k : Nat, k ≤ 198 + q ∧ i = .int .i64 k ∧ v = .string (rep k)) (fun _ i => 198 + q - (intOf i).toNat)
        case atStart => exact ⟨0, by omega, rfl, rfl⟩
        case round =>
          obtain ⟨j, hj, rfl, rfl⟩ := hrel
          have hrs := rep_size j
          have hrp := rep_succ j
          by_cases hjq : j < 198 + q
          · go_wp2_with fail
            go_round
            case rel => exact ⟨j + 1, by omega, by go_num, rfl⟩
            case measure => simp [intOf]; omega
          · obtain rfl : j = 198 + q := by omega
            clear hrp
            go_wp2_with fail
            refine (HL2.out _).mono ?_
            rintro E w2 ⟨A2, c2, rfl, hb2⟩
            have BB2 := Aside0.mk (below_step BB.out hb2)
            clear hb2
            go_wp2_with fail
            refine (HL3.out _).mono ?_
            rintro E w3 ⟨A3, c3, rfl, hb3⟩
            have BB3 := Aside0.mk (below_step BB2.out hb3)
            clear hb3
            go_wp2_with fail
            refine (HL4.out _).mono ?_
            rintro E w4 ⟨A4, c4, rfl, hb4⟩
            have BB4 := Aside0.mk (below_step BB3.out hb4)
            clear hb4
            go_wp2_with fail
            refine (HL5.out _).mono ?_
            rintro E w5 ⟨A5, c5, rfl, hb5⟩
            have BB5 := Aside0.mk (below_step BB4.out hb5)
            clear hb5
            go_wp2_with fail
            refine (awake28_c _).mono ?_
            rintro E w6 ⟨rfl, hb6⟩
            have BB6 := Aside0.mk (below_step BB5.out hb6)
            clear hb6
            rcases HP.out with ⟨rfl, hcl⟩ | ⟨rfl, rfl⟩ <;> rcases HE.out with ⟨hq2, rfl⟩ | ⟨hq2, rfl⟩
            · have hb := HC.out.trans hcl
              subst hb
              have u1 : decide (198 + q ≤ 200) = true := by simp; omega
              have u2 : decide ((198 : Int) + (q : Int) ≤ 200) = true := by simp; omega
              go_wp2_with fail
              go_ret
              exact ⟨rfl, BB6.out⟩
            · have hb := HC.out.trans hcl
              subst hb
              have u1 : decide (198 + q ≤ 200) = false := by simp; omega
              have u2 : decide ((198 : Int) + (q : Int) ≤ 200) = false := by simp; omega
              go_wp2_with fail
              go_ret
              exact ⟨rfl, BB6.out⟩
            · cases b
              all_goals
                have u1 : decide (198 + q ≤ 200) = true := by simp; omega
                have u2 : decide ((198 : Int) + (q : Int) ≤ 200) = true := by simp; omega
                go_wp2_with fail
                go_ret
                exact ⟨rfl, BB6.out⟩
            · cases b
              all_goals
                have u1 : decide (198 + q ≤ 200) = false := by simp; omega
                have u2 : decide ((198 : Int) + (q : Int) ≤ 200) = false := by simp; omega
                go_wp2_with fail
                go_ret
                exact ⟨rfl, BB6.out⟩
end Go.Proofs.Ytbededoebmbkdaa.QLexLines
