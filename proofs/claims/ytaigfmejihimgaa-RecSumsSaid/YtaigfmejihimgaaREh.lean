/- Records by the plain machine: check sums that are none, and bytes that are others. -/
import Derived.Test.YtaigfmejihimgaaREg
namespace Go.Proofs.Ytaigfmejihimgaa.VM
open Go Go.RowKit
set_option linter.unusedVariables false
set_option linter.unusedSimpArgs false
set_option maxRecDepth 40000
set_option maxHeartbeats 1600000
theorem sum_got (kind : UInt8) (l : List UInt8) (hl : l.length ≤ 4000) (c : UInt8) :
    getE (recH kind l ++ [c]) = (if c.toNat ≠ 0 ∧ c.toNat ≠ chkN (recH kind l) then 4 else 0) ∧ mOf (recH kind l ++ [c]) = l.length + 1 ∧ ((recH kind l ++ [c]).drop 3).take (mOf (recH kind l ++ [c]) - 1) = l := by
  have e1 : (recH kind l ++ [c]).getD 1 0 = ((l.length + 1) % 256).toUInt8 := rfl
  have e2 : (recH kind l ++ [c]).getD 2 0 = ((l.length + 1) / 256).toUInt8 := rfl
  have hm : mOf (recH kind l ++ [c]) = l.length + 1 := by
    unfold mOf
    rw [e1, e2, Nat.toUInt8_eq, Nat.toUInt8_eq, UInt8.toNat_ofNat', UInt8.toNat_ofNat']
    omega
  have hh := recH_len kind l
  have hlast : lastB (recH kind l ++ [c]) = c.toNat := by
    unfold lastB
    rw [hm, List.getD_eq_getElem?_getD, List.getElem?_append_right (by omega), hh, show 2 + (l.length + 1) - (l.length + 3) = 0 by omega]
    simp
  have ht : (recH kind l ++ [c]).take (2 + mOf (recH kind l ++ [c])) = recH kind l := by
    rw [hm, List.take_append_of_le_length (by omega), List.take_of_length_le (by omega)]
  refine ⟨?_, hm, ?_⟩
  · unfold getE
    rw [hlast, ht, hm]
    simp only [List.length_append, hh, List.length_singleton]
    rw [if_neg (by omega), if_neg (by omega), if_neg (by omega), if_neg (by omega)]
  · rw [hm]
    show (l ++ [c]).take (l.length + 1 - 1) = l
    rw [Nat.add_sub_cancel, List.take_append_of_le_length (Nat.le_refl _), List.take_length]
theorem set_last (kind : UInt8) (l : List UInt8) (x : UInt8) {i : Nat} (hi : i = l.length + 3) : (recB kind l).set i x = recH kind l ++ [x] := by
  unfold recB
  rw [List.set_append_right _ _ (by rw [recH_len]; omega), recH_len, show i - (l.length + 3) = 0 by omega]
  rfl
theorem set_mid (kind : UInt8) (l : List UInt8) (x : UInt8) {i : Nat} (h3 : 3 ≤ i) (hi : i < l.length + 3) : (recB kind l).set i x = recH kind (l.set (i - 3) x) ++ [chkB (recH kind l)] := by
  unfold recB
  rw [List.set_append_left _ _ (by rw [recH_len]; omega)]
  congr 1
  obtain ⟨j, rfl⟩ : ∃ j, i = j + 3 := ⟨i - 3, by omega⟩
  unfold recH
  simp only [List.set_cons_succ, Nat.add_sub_cancel, List.length_set]
theorem tot_set : ∀ (l : List UInt8) (i : Nat) (x : UInt8) (h : i < l.length), totB (l.set i x) + l[i].toNat = totB l + x.toNat
  | b :: l, 0, x, _ => by simp only [List.set_cons_zero, totB, List.getElem_cons_zero]; omega
  | b :: l, i + 1, x, h => by
    have := tot_set l i x (by simpa using h)
    simp only [List.set_cons_succ, totB, List.getElem_cons_succ]; omega
theorem chk_ne {a b : List UInt8} {d e : Nat} (h : totB a + d = totB b + e) (hd : d < 256) (he : e < 256) (hn : d ≠ e) : chkN a ≠ chkN b := by
  unfold chkN; omega
/-- A byte that is another is found, but where there is no check sum. -/
theorem sum_bad (kind : UInt8) (l : List UInt8) (hl : l.length ≤ 4000) {i : Nat} (h3 : 3 ≤ i) (hi : i < (recB kind l).length) (x : UInt8) (hx : x ≠ (recB kind l).getD i 0) :
    getE ((recB kind l).set i x) = if (((recB kind l).set i x).getD (l.length + 3) 0).toNat = 0 then 0 else 4 := by
  rw [recB_len] at hi
  by_cases c : i = l.length + 3
  · rw [set_last kind l x c, (sum_got kind l hl x).1]
    have e1 : (recH kind l ++ [x]).getD (l.length + 3) 0 = x := by
      rw [List.getD_eq_getElem?_getD, List.getElem?_append_right (by rw [recH_len]; omega), recH_len, Nat.sub_self]; rfl
    have e2 : (recB kind l).getD i 0 = chkB (recH kind l) := by
      unfold recB
      rw [c, List.getD_eq_getElem?_getD, List.getElem?_append_right (by rw [recH_len]; omega), recH_len, Nat.sub_self]; rfl
    rw [e1]
    rw [e2] at hx
    have hx2 : x.toNat ≠ chkN (recH kind l) := fun z => hx (UInt8.toNat_inj.1 (by rw [chkB_nat]; exact z))
    by_cases z : x.toNat = 0
    · rw [if_pos z, if_neg (by omega)]
    · rw [if_neg z, if_pos ⟨z, hx2⟩]
  · have hi2 : i < l.length + 3 := by omega
    rw [set_mid kind l x h3 hi2, (sum_got kind _ (by rw [List.length_set]; exact hl) _).1]
    have e1 : (recH kind (l.set (i - 3) x) ++ [chkB (recH kind l)]).getD (l.length + 3) 0 = chkB (recH kind l) := by
      rw [List.getD_eq_getElem?_getD, List.getElem?_append_right (by rw [recH_len, List.length_set]; omega), recH_len, List.length_set, Nat.sub_self]; rfl
    rw [e1, chkB_nat]
    have e2 : recH kind (l.set (i - 3) x) = (recH kind l).set i x := by
      obtain ⟨j, rfl⟩ : ∃ j, i = j + 3 := ⟨i - 3, by omega⟩
      unfold recH
      simp only [List.set_cons_succ, Nat.add_sub_cancel, List.length_set]
    have hil : i < (recH kind l).length := by rw [recH_len]; exact hi2
    have e3 : (recB kind l).getD i 0 = (recH kind l)[i] := by
      unfold recB
      rw [List.getD_eq_getElem?_getD, List.getElem?_append_left hil, List.getElem?_eq_getElem hil]; rfl
    have hne : chkN (recH kind l) ≠ chkN (recH kind (l.set (i - 3) x)) := by
      rw [e2]
      have ht := tot_set (recH kind l) i x hil
      rw [e3] at hx
      exact fun z => chk_ne ht ((recH kind l)[i]).toNat_lt x.toNat_lt (fun q => hx (UInt8.toNat_inj.1 q.symm)) z.symm
    by_cases z : chkN (recH kind l) = 0
    · rw [if_pos z, if_neg (by omega)]
    · rw [if_neg z, if_pos ⟨z, hne⟩]
theorem xor_byte (x y : UInt8) (hy : y ≠ 0) : ∃ z : UInt8, IntKind.u8.wrap ((BitVec.ofInt IntKind.u8.bits ((x.toNat : Nat) : Int) ^^^ BitVec.ofInt IntKind.u8.bits ((y.toNat : Nat) : Int)).toNat : Nat) = ((z.toNat : Nat) : Int) ∧ z ≠ x := by
  refine ⟨x ^^^ y, ?_, fun h => hy ?_⟩
  · have e : ∀ b : UInt8, (BitVec.ofInt IntKind.u8.bits ((b.toNat : Nat) : Int)).toNat = b.toNat := by
      intro b
      have := b.toNat_lt
      rw [BitVec.toNat_ofInt]; show (((b.toNat : Nat) : Int) % 256).toNat = _; omega
    have h := (x ^^^ y).toNat_lt
    rw [BitVec.toNat_xor, e, e, ← UInt8.toNat_xor, wu8]
    omega
  · have h2 : x ^^^ (x ^^^ y) = x ^^^ x := by rw [h]
    rw [← UInt8.xor_assoc, UInt8.xor_self, UInt8.zero_xor] at h2
    exact h2
theorem put_b {l : List UInt8} {i : Nat} (h : i < l.length) (x : UInt8) {off : Nat} (ho : off = i) : putAt off [.int .u8 ((x.toNat : Nat) : Int)] (bV l) = some (bV (l.set i x)) := by
  subst ho
  have : ∀ (i : Nat) (v : Val) (l : List Val), i < l.length → putAt i [v] l = some (l.set i v) := by
    intro i
    induction i with
    | zero => intro v l h; cases l with
      | nil => simp at h
      | cons x l => cases l <;> rfl
    | succ i ih => intro v l h; cases l with
      | nil => simp at h
      | cons y l =>
        show (putAt i [v] l).map (y :: ·) = _
        rw [ih v l (by simpa using h)]; rfl
  rw [this _ _ _ (by rw [bV_len]; exact h)]
  congr 1
  unfold bV
  rw [List.map_set]
theorem part_g {l : List UInt8} (i : Nat) (h : i < l.length) {off : Nat} (ho : off = i) : partV Try.prog 5 (bV l) off = some (.int .u8 (l.getD i 0).toNat) := by
  have := part_d (pre := []) (post := []) i h (off := off) (by simpa using ho)
  simpa using this
theorem wait_byte (y : Int) : ∃ b : UInt8, IntKind.u8.wrap (IntKind.i64.wrap ((IntKind.i64.wrap ((BitVec.ofInt IntKind.i64.bits y &&& BitVec.ofInt IntKind.i64.bits 255).toNat : Nat)).tmod 255 + 1)) = ((b.toNat : Nat) : Int) ∧ b ≠ 0 := by
  rw [and64_255]
  have h1 : 0 ≤ y % 256 ∧ y % 256 < 256 := by omega
  generalize y % 256 = z at *
  have h2 : z.tmod 255 = z % 255 := Int.tmod_eq_emod_of_nonneg h1.1
  rw [h2]
  have h3 : 0 ≤ z % 255 ∧ z % 255 < 255 := by omega
  generalize z % 255 = q at *
  rw [w64s _ (by omega) (by omega), wu8]
  refine ⟨UInt8.ofNat (q + 1).toNat, ?_, fun z => ?_⟩
  · rw [UInt8.toNat_ofNat']; omega
  · have := congrArg UInt8.toNat z
    rw [UInt8.toNat_ofNat'] at this
    have h0 : (0 : UInt8).toNat = 0 := rfl
    omega
theorem wait_place (x : Int) (n : Nat) (hn : 4 ≤ n) (hn2 : n < 1000) : ∃ j : Nat, IntKind.i64.wrap (3 + (IntKind.i64.wrap ((BitVec.ofInt IntKind.i64.bits x &&& BitVec.ofInt IntKind.i64.bits 255).toNat : Nat)).tmod (IntKind.i64.wrap (((n : Nat) : Int) - 3))) = (j : Int) ∧ 3 ≤ j ∧ j < n := by
  rw [and64_255, w64s ((n : Int) - 3) (by omega) (by omega)]
  have h1 : 0 ≤ x % 256 ∧ x % 256 < 256 := by omega
  generalize x % 256 = z at *
  have h2 : z.tmod ((n : Int) - 3) = z % ((n : Int) - 3) := Int.tmod_eq_emod_of_nonneg h1.1
  rw [h2]
  have h3 := Int.emod_nonneg z (show (n : Int) - 3 ≠ 0 by omega)
  have h4 := Int.emod_lt_of_pos z (show 0 < (n : Int) - 3 by omega)
  generalize z % ((n : Int) - 3) = q at *
  rw [w64s _ (by omega) (by omega)]
  exact ⟨(3 + q).toNat, by omega, by omega, by omega⟩
end Go.Proofs.Ytaigfmejihimgaa.VM
