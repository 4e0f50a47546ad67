/- Contracts of lex's leaves: up, clean, Upper; strings.IndexByte off the shelf. -/
import Derived.Test.YtneacfkkijjjlaaProg
import Derived.Below
import Derived.Deep.Draws
import Derived.OwnWalk
import Derived.Tactics
import Derived.WalkKit
import Derived.KernelRfl
import Derived.RowKit3
import Derived.Deep.LoopGhost
import Derived.Deep.QuietTactic
import Derived.BigQuiet
import Derived.Deep.RegionWith
import Derived.StillTailTactics
import Derived.WideLaws
import Derived.Laws.BitsLemmas
import Derived.Laws.RangeString
import Derived.Laws.RangeAny
import Derived.Lib.ConvBytes
import Derived.Lib.SlBytesRow
import Derived.RowKit
import Derived.Outline
import Derived.LoopTactic
import Derived.WalkLawsBesides
import Derived.Test.YtneacfkkijjjlaaWWords
import Derived.Test.YtneacfkkijjjlaaWLast
import Derived.Test.YtneacfkkijjjlaaWMore
import Derived.Test.YtneacfkkijjjlaaWArr
namespace Go.Proofs.Ytneacfkkijjjlaa.My
open Go.RowKit Go.Proofs.YtneacfkkijjjlaaW.PrintWords Go.Proofs.YtneacfkkijjjlaaW.PrintLast Go.Proofs.YtneacfkkijjjlaaW.PrintMore
set_option linter.unusedVariables false
set_option linter.unusedSimpArgs false
/-- A letter, great. -/
def upI (c : Int) : Int := if 97 ≤ c ∧ c ≤ 122 then c - 32 else c
theorem ri {k : IntKind} {a b : Int} (h : a = b) : Ending.returned (.int k a) = .returned (.int k b) := by rw [h]
theorem rb {a b : Bool} (h : a = b) : Ending.returned (.bool a) = .returned (.bool b) := by rw [h]
theorem up_c (c : Int) (h0 : 0 ≤ c) (h1 : c ≤ 255) (w : World) : Calls Try.prog 26 #[.int .u8 c] w fun e w' => e = .returned (.int .u8 (upI c)) ∧ w = w' := by
  by_cases a : 97 ≤ c
  · by_cases b : c ≤ 122
    all_goals
      go_enter Try.func26, Try.ntmps26
      go_wp2
      go_ret
      exact ⟨ri (by unfold upI; omega), rfl⟩
  · go_enter Try.func26, Try.ntmps26
    go_wp2
    go_ret
    exact ⟨ri (by unfold upI; omega), rfl⟩
/-- Plain letters, tabs and carriage returns alone. -/
def okI (c : Int) : Bool := decide ((32 ≤ c ∧ c ≤ 126) ∨ c = 9 ∨ c = 13)
def cleanB (s : ByteArray) : Bool := s.data.toList.all fun c => okI (c.toNat : Int)
theorem take_snoc (s : ByteArray) (k : Nat) (h : k < s.size) : s.data.toList.take (k + 1) = s.data.toList.take k ++ [s[k]] := by
  rw [List.take_succ_eq_append_getElem (by simpa using h)]; rfl
theorem clean_no (s : ByteArray) (k : Nat) (h : k < s.size) (hc : okI (s[k].toNat : Int) = false) : cleanB s = false := by
  unfold cleanB
  rw [List.all_eq_false]
  refine ⟨s[k], ?_, by simp [hc]⟩
  have : s[k] = s.data.toList[k]'(by simpa using h) := rfl
  rw [this]
  exact List.getElem_mem _
set_option maxHeartbeats 1000000 in
theorem clean_c (s : ByteArray) (w : World) : Calls Try.prog 17 #[.string s] w fun e w' => e = .returned (.bool (cleanB s)) ∧ Below w.heap.size w w' := by
  go_enter Try.func17, Try.ntmps17
  go_wp2
  go_loopw [2] (fun n w' => ∃ pos : Nat, w' = w.iter s pos ∧ n = .bool false ∧ pos ≤ s.size ∧ (s.data.toList.take pos).all (fun c => okI (c.toNat : Int)) = true) (fun _ w' => s.size - w'.iterPos w.heap.size)
  case atStart => exact ⟨0, rfl, rfl, by omega, rfl⟩
  case round =>
    obtain ⟨pos, rfl, rfl, hp0, hall⟩ := hrel
    by_cases hp : pos < s.size
    · have hts := take_snoc s pos hp
      by_cases ha : (s[pos]'hp).toNat < 128
      · have hnx := fun ty => run_next_ascii (P := Try.prog) w s pos ty hp ha
        have CN := Aside0.mk (clean_no s pos hp)
        have HA := Aside0.mk hall
        have HT := Aside0.mk hts
        clear hall hts
        obtain ⟨x, hx⟩ : ∃ x : Int, x = ((s[pos]'hp).toNat : Int) := ⟨_, rfl⟩
        rw [← hx] at hnx CN
        have hc0 : (0 : Int) ≤ x := by omega
        have hc1 : x < 128 := by omega
        have HX := Aside0.mk hx
        clear ha hx
        by_cases h1 : x = 9
        · subst h1
          go_wp2
          go_roundw
          case rel => exact ⟨pos + 1, rfl, rfl, by omega, by rw [HT.out, List.all_append, HA.out]; simp [← HX.out, okI]⟩
          case measure => simp; omega
        by_cases h2 : x = 13
        · subst h2
          go_wp2
          go_roundw
          case rel => exact ⟨pos + 1, rfl, rfl, by omega, by rw [HT.out, List.all_append, HA.out]; simp [← HX.out, okI]⟩
          case measure => simp; omega
        have t1 : (x == 9) = false := by simpa using h1
        have t2 : (x == 13) = false := by simpa using h2
        have t3 : (x != 9) = true := by simpa using h1
        have t4 : (x != 13) = true := by simpa using h2
        by_cases h3 : x < 32
        · have hcl := CN.out (by simp [okI, h1, h2]; omega)
          go_wp2
          go_ret
          first | exact ⟨rfl, (Below.refl _ _).alloc (Nat.le_refl _) _⟩ | exact ⟨rb hcl.symm, (Below.refl _ _).alloc (Nat.le_refl _) _⟩
        by_cases h4 : 126 < x
        · have hcl := CN.out (by simp [okI, h1, h2]; omega)
          go_wp2
          go_ret
          first | exact ⟨rfl, (Below.refl _ _).alloc (Nat.le_refl _) _⟩ | exact ⟨rb hcl.symm, (Below.refl _ _).alloc (Nat.le_refl _) _⟩
        · go_wp2
          go_roundw
          case rel => exact ⟨pos + 1, rfl, rfl, by omega, by rw [HT.out, List.all_append, HA.out]; simp [← HX.out, okI]; omega⟩
          case measure => simp; omega
      · have hnx : ∀ ty, (Instr.next (.pointer (some ⟨w.heap.size, 0, none⟩)) true ty).run Try.prog (w.iter s pos) = _ := fun ty => run_next_any w s pos ty hp
        have hd := decode_high s pos hp (by omega)
        have hcl := clean_no s pos hp (by simp [okI]; omega)
        generalize Utf8.decode s pos = D at *
        obtain ⟨x, n⟩ := D
        have hd1 : 128 ≤ x := hd.1
        obtain ⟨y, hy⟩ : ∃ y : Int, y = (x : Int) := ⟨_, rfl⟩
        simp only [← hy] at hnx
        have hy1 : 128 ≤ y := by omega
        clear hall hts hd hy hd1
        have t3 : (y != 9) = true := by simp; omega
        have t4 : (y != 13) = true := by simp; omega
        go_wp2
        go_ret
        first | exact ⟨rfl, (Below.refl _ _).alloc (Nat.le_refl _) _⟩ | exact ⟨rb hcl.symm, (Below.refl _ _).alloc (Nat.le_refl _) _⟩
    · have hnx : ∀ ty, (Instr.next (.pointer (some ⟨w.heap.size, 0, none⟩)) true ty).run Try.prog (w.iter s pos) = _ := fun ty => run_next_end w s pos ty hp
      have hcl : cleanB s = true := by
        unfold cleanB
        rwa [List.take_of_length_le (by simp; omega)] at hall
      clear hall
      go_wp2
      go_ret
      rw [hcl]
      first | exact ⟨rfl, (Below.refl _ _).alloc (Nat.le_refl _) _⟩ | exact ⟨rb hcl.symm, (Below.refl _ _).alloc (Nat.le_refl _) _⟩
/-- A text's letters, great. -/
def upU (c : UInt8) : UInt8 := if 97 ≤ c ∧ c ≤ 122 then c - 32 else c
def upperB (s : ByteArray) : ByteArray := ⟨(s.data.toList.map upU).toArray⟩
theorem upperB_size (s : ByteArray) : (upperB s).size = s.size := by
  show ((s.data.toList.map upU).toArray).size = s.size
  rw [List.size_toArray, List.length_map, data_length]
theorem upU_tab : ∀ n, n < 256 → ((upU (UInt8.ofNat n)).toNat : Int) = upI (n : Int) := by decide +kernel
theorem upU_I (c : UInt8) : ((upU c).toNat : Int) = upI (c.toNat : Int) := by
  have h := upU_tab c.toNat (UInt8.toNat_lt c)
  rwa [UInt8.ofNat_toNat] at h
theorem upperB_at (s : ByteArray) (j : Nat) (h : j < (upperB s).size) : (((upperB s)[j]'h).toNat : Int) = upI (bt s j) := by
  have hj : j < s.size := by rwa [upperB_size] at h
  have e : (upperB s)[j]'h = upU (s[j]'hj) := by
    show ((s.data.toList.map upU).toArray)[j]'(by rw [List.size_toArray, List.length_map, data_length]; exact hj) = upU (s.data[j]'hj)
    simp
  rw [e, upU_I]
  simp [bt, hj]
theorem upI_rng (c : Int) (h0 : 0 ≤ c) (h1 : c ≤ 255) : 0 ≤ upI c ∧ upI c ≤ 255 := by unfold upI; omega
set_option maxHeartbeats 1000000 in
theorem upper_c (s : ByteArray) (hs : s.size ≤ 9223372036854775807) (w : World) : Calls Try.prog 21 #[.string s] w fun e w' => e = .returned (.string (upperB s)) ∧ Below w.heap.size w w' := by
  have hcv := fun W => Lib.run_convert_string_bytes (P := Try.prog) W 9 57 5 s Try.underlying9 Try.underlying57 Try.underlying5
  go_enter Try.func21, Try.ntmps21
  go_wp2_with fail
  go_loopw [10] (fun i wr => ∃ k : Nat, k ≤ s.size ∧ i = .int .i64 k ∧ Aside0 (∀ j, j < s.size → wr.cell? ⟨w.heap.size, j, none⟩ = some (.int .u8 (if j < k then upI (bt s j) else bt s j))) ∧ Aside0 (∀ j, j < s.size → wr.frozen? ⟨w.heap.size, j, none⟩ = false) ∧ Aside0 (Below w.heap.size w wr)) (fun i _ => s.size - (intOf i).toNat)
  case atStart =>
    refine ⟨0, by omega, rfl, ⟨fun j hj => ?_⟩, ⟨fun j hj => ?_⟩, ⟨bytes_below (Below.refl _ _) (Nat.le_refl _) _ _⟩⟩
    · rw [Lib.bytesWorld_cell w _ s j hj, if_neg (by omega)]
      simp [bt, hj]
      rfl
    · have h := Lib.bytesWorld_at_new w 5 s
      have h2 : s.size ≤ (Lib.bytesCells w 5 s).size := by unfold Lib.bytesCells; rw [Array.size_append, Array.size_map]; exact Nat.le_add_right _ _
      simp [World.frozen?, h]
      omega
  case round =>
    obtain ⟨k, hk, rfl, HC, HF, HB⟩ := hrel
    by_cases hlt : k < s.size
    · have hck := HC.out k hlt
      rw [if_neg (by omega)] at hck
      have hfk := HF.out k hlt
      have hb := bt_range s k
      obtain ⟨b0, b1⟩ := hb
      have hu := upI_rng _ b0 b1
      go_wp2_with (go_at_call 26; refine (up_c _ (by omega) (by omega) _).mono ?_; rintro e w' ⟨rfl, rfl⟩)
      go_roundw
      case rel =>
        refine ⟨k + 1, by omega, by go_num, ⟨fun j hj => ?_⟩, ⟨fun j hj => ?_⟩, ⟨?_⟩⟩
        · by_cases e : j = k
          · subst e
            rw [if_pos (by omega)]
            exact World.cell?_setCell_same _ _ _ hck
          · rw [World.cell?_setCell_other _ _ _ _ (by intro h; injection h with _ h2; exact e h2.symm), HC.out j hj]
            by_cases h : j < k
            · rw [if_pos h, if_pos (by omega)]
            · rw [if_neg h, if_neg (by omega)]
        · rw [World.frozen?_setCell]; exact HF.out j hj
        · exact HB.out.setCell (by simp) _
      case measure => simp [intOf]; omega
    · have hbt : Lib.Bytes wr w.heap.size 0 (upperB s) := fun i hi => by
        have hi' : i < s.size := by rwa [upperB_size] at hi
        rw [Nat.zero_add, HC.out i hi', if_pos (by omega), upperB_at]
      have hcs : (convert 57 9 (.slice (some ⟨w.heap.size, 0, none⟩) s.size (grownCap w s.size 0 5))).run Try.prog wr = .ok (.string (upperB s)) wr := by
        have h := Lib.run_convert_whole (P := Try.prog) wr 57 5 9 Try.underlying57 Try.underlying5 Try.underlying9 w.heap.size 0 (upperB s) hbt (grownCap w s.size 0 5)
        rwa [upperB_size] at h
      clear hbt
      go_wp2
      go_ret
      exact ⟨rfl, HB.out⟩
end Go.Proofs.Ytneacfkkijjjlaa.My
