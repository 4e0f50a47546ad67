/- Contracts of the walks of layer 1 (bits) and of its reference: each function answers as a plain function of its numbers; nothing that stood is written. -/
import Derived.Test.YtdhingmjnhhjnaaProg
import Derived.Below
import Derived.Deep.Draws
import Derived.OwnWalk
import Derived.Tactics
import Derived.WalkKit
import Derived.KernelRfl
import Derived.RowKit3
import Derived.Deep.LoopGhost
import Derived.Deep.QuietTactic
import Derived.BigQuiet
import Derived.WideLaws
import Derived.Laws.BitsLemmas
import Derived.RowKit
import Derived.Outline
import Derived.WalkLawsBesides
import Derived.Test.YtdhingmjnhhjnaaWWords
import Derived.Test.YtdhingmjnhhjnaaWLast
import Derived.Test.YtdhingmjnhhjnaaWMore
import Derived.Test.YtdhingmjnhhjnaaWArr
namespace Go.Proofs.Ytdhingmjnhhjnaa.My
open Go.RowKit Go.Proofs.YtdhingmjnhhjnaaW.PrintWords Go.Proofs.YtdhingmjnhhjnaaW.PrintLast Go.Proofs.YtdhingmjnhhjnaaW.PrintMore
set_option linter.unusedVariables false
set_option linter.unusedSimpArgs false

theorem ri {k : IntKind} {a b : Int} (h : a = b) : Ending.returned (.int k a) = Ending.returned (.int k b) := by rw [h]
theorem vi {k : IntKind} {a b : Int} (h : a = b) : Value.int k a = Value.int k b := by rw [h]
theorem rb {a b : Bool} (h : a = b) : Ending.returned (.bool a) = Ending.returned (.bool b) := by rw [h]
theorem rs {a b : ByteArray} (h : a = b) : Ending.returned (.string a) = Ending.returned (.string b) := by rw [h]
theorem low_c (v : Int) (w : World) : Calls Try.prog 24 #[.int .u16 v] w fun e w' => e = .returned (.int .u8 (v % 256)) ∧ w = w' := by
  go_enter Try.func24, Try.ntmps24
  go_wp2
  go_ret
  exact ⟨rfl, rfl⟩
theorem high_c (v : Int) (w : World) : Calls Try.prog 25 #[.int .u16 v] w fun e w' => e = .returned (.int .u8 (v / 256 % 256)) ∧ w = w' := by
  go_enter Try.func25, Try.ntmps25
  go_wp2
  go_ret
  exact ⟨rfl, rfl⟩
theorem word_c (a b : Int) (h1 : 0 ≤ a) (h2 : a < 256) (h3 : 0 ≤ b) (h4 : b < 256) (w : World) : Calls Try.prog 26 #[.int .u8 a, .int .u8 b] w fun e w' => e = .returned (.int .u16 (b * 256 + a)) ∧ w = w' := by
  go_enter Try.func26, Try.ntmps26
  go_wp2
  go_ret
  refine ⟨ri ?_, rfl⟩
  try simp only [IntKind.wrap_u16]
  rw [u16_or _ _ (by omega) (by omega) (by omega) (by omega), Nat.or_comm, nat_join 8 _ _ (by omega) (by omega)]
  omega
/-- A byte as a word, its sign spread. -/
def signM (a : Int) : Int := if a < 128 then a else a + 65280
theorem sign_c (a : Int) (h1 : 0 ≤ a) (h2 : a < 256) (w : World) : Calls Try.prog 20 #[.int .u8 a] w fun e w' => e = .returned (.int .u16 (signM a)) ∧ w = w' := by
  go_enter Try.func20, Try.ntmps20
  go_wp2
  go_ret
  refine ⟨ri ?_, rfl⟩
  obtain ⟨n, rfl⟩ := Int.eq_ofNat_of_zero_le h1
  have h : n < 256 := by omega
  clear h1 h2
  revert n
  decide +kernel
theorem signM_b (a : Int) (h1 : 0 ≤ a) (h2 : a < 256) : 0 ≤ signM a ∧ signM a < 65536 ∧ signM a % 256 = a := by unfold signM; split <;> omega
/-- A word that is a byte whose sign is spread. -/
def fitsM (a : Int) : Bool := decide (a < 128) || decide (65408 ≤ a)
theorem fits_c (a : Int) (h1 : 0 ≤ a) (h2 : a < 65536) (w : World) : Calls Try.prog 22 #[.int .u16 a] w fun e w' => e = .returned (.bool (fitsM a)) ∧ w = w' := by
  go_enter Try.func22, Try.ntmps22
  go_wp2_with (first
    | (go_at_call 24; refine (low_c _ _).mono ?_; rintro e w' ⟨rfl, rfl⟩)
    | (go_at_call 20; refine (sign_c _ (by omega) (by omega) _).mono ?_; rintro e w' ⟨rfl, rfl⟩))
  go_ret
  refine ⟨rb ?_, rfl⟩
  unfold fitsM signM
  rw [Bool.eq_iff_iff]
  simp
  split <;> omega
theorem linear_c (s o : Int) (h1 : 0 ≤ s) (h2 : s < 65536) (h3 : 0 ≤ o) (h4 : o < 65536) (w : World) : Calls Try.prog 30 #[.int .u16 s, .int .u16 o] w fun e w' => e = .returned (.int .u32 ((s * 16 + o) % 1048576)) ∧ w = w' := by
  go_enter Try.func30, Try.ntmps30
  go_wp2
  go_ret
  refine ⟨ri ?_, rfl⟩
  rw [u32_and _ _ (by omega) (by omega) (by omega) (by omega)]
  rw [show (1048575 : Int).toNat = 2 ^ 20 - 1 from rfl, Nat.and_two_pow_sub_one_eq_mod]
  omega
/-- How many ones a number has in its lowest bits. -/
def onesM (n : Int) : Nat → Int
  | 0 => 0
  | k + 1 => n % 2 + onesM (n / 2) k
theorem onesM_b (k : Nat) : ∀ n : Int, 0 ≤ onesM n k ∧ onesM n k ≤ k := by
  induction k with
  | zero => intro n; simp [onesM]
  | succ k ih => intro n; have := ih (n / 2); simp only [onesM]; omega
def evenM (b : Int) : Bool := onesM b 8 % 2 == 0
theorem even_c (b : Int) (h1 : 0 ≤ b) (h2 : b < 256) (w : World) : Calls Try.prog 27 #[.int .u8 b] w fun e w' => e = .returned (.bool (evenM b)) ∧ w = w' := by
  go_enter Try.func27, Try.ntmps27
  go_wp2
  go_ret
  refine ⟨rb ?_, rfl⟩
  obtain ⟨n, rfl⟩ := Int.eq_ofNat_of_zero_le h1
  have h : n < 256 := by omega
  clear h1 h2
  revert n
  decide +kernel
def parasM (n : Int) : Int := if n < 1 then 0 else (n - 1) / 16 + 1
theorem paras_c (n : Int) (h1 : -9223372036854775808 ≤ n) (h2 : n ≤ 9223372036854775807) (w : World) : Calls Try.prog 33 #[.int .i64 n] w fun e w' => e = .returned (.int .i64 (parasM n)) ∧ w = w' := by
  by_cases h : n < 1
  all_goals
    go_enter Try.func33, Try.ntmps33
    go_wp2
    go_ret
    exact ⟨ri (by unfold parasM; first | rw [if_pos h] | (rw [if_neg (by omega)])), rfl⟩
theorem normal_c (n : Int) (h1 : 0 ≤ n) (h2 : n < 4294967296) (w : World) : Calls Try.prog 29 #[.int .u32 n] w fun e w' => e = .returned (.tuple #[.int .u16 (n % 1048576 / 16), .int .u16 (n % 16)]) ∧ w = w' := by
  go_enter Try.func29, Try.ntmps29
  go_wp2
  go_ret2
  refine ⟨?_, rfl⟩
  have e : Go.bits .and .u32 n 1048575 = n % 1048576 := by rw [u32_and _ _ h1 h2 (by omega) (by omega), show (1048575 : Int).toNat = 2 ^ 20 - 1 from rfl, Nat.and_two_pow_sub_one_eq_mod]; omega
  have e2 : Go.bits .and .u32 (n % 1048576) 15 = n % 16 := by rw [u32_and _ _ (by omega) (by omega) (by omega) (by omega), show (15 : Int).toNat = 2 ^ 4 - 1 from rfl, Nat.and_two_pow_sub_one_eq_mod]; omega
  show Ending.returned (.tuple #[.int .u16 (IntKind.u16.wrap (Go.bits .and .u32 n 1048575 / 16)), .int .u16 (IntKind.u16.wrap (Go.bits .and .u32 (Go.bits .and .u32 n 1048575) 15))]) = _
  rw [e, e2, IntKind.wrap_u16, IntKind.wrap_u16, Int.emod_eq_of_lt (by omega) (by omega), Int.emod_eq_of_lt (a := n % 16) (by omega) (by omega)]
theorem conv1 (w : World) (x : Int) : (convert 35 9 (.slice (some ⟨w.heap.size, 0, none⟩) 1 1)).run Try.prog (w.alloc (.cells #[.int .u8 x] 5)) = .ok (.string (strOfNums [x])) (w.alloc (.cells #[.int .u8 x] 5)) := by
  refine run_convert_bytes_arg _ 35 5 Try.underlying35 Try.underlying5 w.heap.size 0 1 1 [x] rfl ?_ 9 Try.underlying9
  intro i hi
  obtain rfl : i = 0 := by omega
  simp
theorem strOfNums_cat (a b : List Int) : strOfNums a ++ strOfNums b = strOfNums (a ++ b) := by
  apply ByteArray.ext
  rw [ByteArray.data_append]
  simp [strOfNums]
/-- A hexadecimal digit's letter. -/
def hexD (d : Int) : Int := if d < 10 then 48 + d else 55 + d
/-- A number behind so many digits. -/
def hexS (n : Int) : Nat → Int
  | 0 => n
  | i + 1 => hexS n i / 16
/-- So many digits of a number, the greatest first. -/
def hexL (n : Int) : Nat → List Int
  | 0 => []
  | i + 1 => hexD (hexS n i % 16) :: hexL n i
theorem hexL_len (n : Int) (i : Nat) : (hexL n i).length = i := by
  induction i with
  | zero => rfl
  | succ i ih => simp [hexL, ih]
theorem hexS_b (n : Int) (h0 : 0 ≤ n) (h1 : n < 4294967296) (i : Nat) : 0 ≤ hexS n i ∧ hexS n i < 4294967296 := by
  induction i with
  | zero => exact ⟨h0, h1⟩
  | succ i ih => unfold hexS; omega
theorem hexL_set (n : Int) (m i : Nat) (h : i < m) : (List.replicate (m - i) 0 ++ hexL n i).set (m - 1 - i) (hexD (hexS n i % 16)) = List.replicate (m - (i + 1)) 0 ++ hexL n (i + 1) := by
  obtain ⟨q, rfl⟩ : ∃ q, m = i + 1 + q := ⟨m - (i + 1), by omega⟩
  rw [show i + 1 + q - i = q + 1 by omega, show i + 1 + q - 1 - i = q by omega, show i + 1 + q - (i + 1) = q by omega]
  rw [List.replicate_succ', List.append_assoc, List.set_append]
  simp [hexL]
def mM (m : Int) : Int := if m < 1 then 1 else if 8 < m then 8 else m
theorem hex_bt (d : Int) (h0 : 0 ≤ d) (h1 : d < 16) : bt (⟨#[48, 49, 50, 51, 52, 53, 54, 55, 56, 57, 65, 66, 67, 68, 69, 70]⟩ : ByteArray) d = hexD d := by
  obtain ⟨n, rfl⟩ := Int.eq_ofNat_of_zero_le h0
  have h : n < 16 := by omega
  clear h0 h1
  revert n
  decide +kernel
theorem info_u8 : (Try.prog.info? 5).map (fun i => (i.zero, i.size, i.bytes)) = some (some (.int .u8 0), 1, 1) := by kernel_rfl

theorem mM_split (m j3 j4 : Int) (h3 : (if m < 1 then 1 else m) = j3) (h4 : (if 8 < j3 then 8 else j3) = j4) : mM m = j4 ∧ 1 ≤ j4 ∧ j4 ≤ 8 := by
  unfold mM
  by_cases a : m < 1
  · rw [if_pos a] at h3 ⊢; subst h3; rw [if_neg (by omega)] at h4; omega
  · rw [if_neg a] at h3 ⊢; subst h3
    by_cases b : 8 < m
    · rw [if_pos b] at h4 ⊢; omega
    · rw [if_neg b] at h4 ⊢; omega
set_option maxHeartbeats 8000000 in
set_option maxRecDepth 100000 in
theorem digits_c (n m : Int) (hn0 : 0 ≤ n) (hn : n < 4294967296) (w : World) : Calls Try.prog 36 #[.int .u32 n, .int .i64 m] w fun e w' => e = .returned (.string (strOfNums (hexL n (mM m).toNat))) ∧ Below w.heap.size w w' := by
  obtain ⟨j3, hj3⟩ : ∃ j_ : Int, (if m < 1 then 1 else m) = j_ := ⟨_, rfl⟩
  obtain ⟨j4, hj4⟩ : ∃ j_ : Int, (if 8 < j3 then 8 else j3) = j_ := ⟨_, rfl⟩
  obtain ⟨hm, b1, b2⟩ := mM_split m j3 j4 hj3 hj4
  obtain ⟨J, rfl⟩ := Int.eq_ofNat_of_zero_le (show 0 ≤ j4 by omega)
  have HM := Aside0.mk hm
  clear hm
  have HB := Aside0.mk (Below.refl w.heap.size w)
  have c5 : decide (0 ≤ (J : Int)) = true := decide_eq_true (by omega)
  obtain ⟨l0, hl0⟩ : ∃ l_ : List Int, l_ = List.replicate J 0 := ⟨_, rfl⟩
  have hlen : l0.length = J := by rw [hl0]; simp
  have HL0 := Aside0.mk hl0
  have HLEN := Aside0.mk hlen
  clear hl0 hlen
  go_enter Try.func36, Try.ntmps36
  go_wp2_with (first | ((with_reducible refine gate_dst (N := 11) rfl ?_); refine Kd.R_make (Kd.int .u8) w.heap.size 5 rfl (N := 11) rfl 35 _ _ rfl (J : Int) rfl rfl Try.underlying35 (.int .u8 0) 1 info_u8 rfl (by decide) (by decide) 0 (ok := fun _ => True) (okp := fun _ => True) rfl (fun _ hk => hk) trivial (by omega) (by omega) (Below.refl _ _) (Nat.le_refl _) ?_; intro v1 w1 ho hb _ _; simp only [Int.toNat_natCast] at ho; rw [← HL0.out] at ho; have HO := Aside0.mk ho; have HB1 := Aside0.mk hb; clear ho hb; obtain ⟨A1, c1, e1⟩ := Kd.R_slice HO.out; rw [HLEN.out] at e1; subst e1))
  go_loopw [0, 14] (fun v0 v14 w' => ∃ i : Nat, i ≤ J ∧ v0 = .int .u32 (hexS n i) ∧ v14 = .int .i64 i ∧ Aside0 (Kd.R (Kd.int .u8) 5 w' w.heap.size (fun _ => True) (.slice A1 J c1) (List.replicate (J - i) 0 ++ hexL n i)) ∧ Aside0 (Below w.heap.size w w')) (fun _ v14 _ => J - (intOf v14).toNat)
  case atStart => exact ⟨0, Nat.zero_le _, rfl, rfl, ⟨by have := HO.out; rw [HL0.out] at this; simpa [hexL] using this⟩, HB1⟩
  case round =>
    obtain ⟨i, hi, rfl, rfl, HR, HBi⟩ := hrel
    obtain ⟨s0, s1⟩ := hexS_b n hn0 hn i
    by_cases hlt : i < J
    · have eb : Go.bits .and .u32 (hexS n i) 15 = hexS n i % 16 := by
        rw [u32_and _ _ s0 s1 (by omega) (by omega), show (15 : Int).toNat = 2 ^ 4 - 1 from rfl, Nat.and_two_pow_sub_one_eq_mod]; omega
      have EB := Aside0.mk eb
      have hd0 : 0 ≤ Go.bits .and .u32 (hexS n i) 15 := by omega
      have hd1 : Go.bits .and .u32 (hexS n i) 15 < 16 := by omega
      clear eb
      have hx13 := bt_at (⟨#[48, 49, 50, 51, 52, 53, 54, 55, 56, 57, 65, 66, 67, 68, 69, 70]⟩ : ByteArray) (Go.bits .and .u32 (hexS n i) 15)
      have hlenL : (List.replicate (J - i) 0 ++ hexL n i).length = J := by simp [hexL_len]; omega
      obtain ⟨g, cap, eo, gb, gl, cl, HG⟩ := Kd.R_form HR.out (by omega)
      rw [hlenL] at eo
      injection eo with ea en ec
      subst ea; subst ec
      have GB := Aside0.mk gb
      clear gb gl HG
      obtain ⟨hx, hf⟩ := Kd.R_celln 0 HR.out ((J : Int) - 1 - i) (by omega) (by omega)
      have HP := Kd.R_putg HR.out ((J : Int) - 1 - i) (hexD (hexS n i % 16))
      rw [show ((J : Int) - 1 - (i : Int)).toNat = J - 1 - i by omega, hexL_set n J i hlt] at HP
      have HP' := Aside0.mk HP
      clear HP hlenL
      have q1 : 0 ≤ (J : Int) - 1 - i := by omega
      have q2 : (J : Int) - 1 - i < J := by omega
      rw [show ((J : Int) - 1 - (i : Int)).toNat = J - 1 - i by omega] at hx hf
      have HV := Aside0.mk (show bt (⟨#[48, 49, 50, 51, 52, 53, 54, 55, 56, 57, 65, 66, 67, 68, 69, 70]⟩ : ByteArray) (Go.bits .and .u32 (hexS n i) 15) = hexD (hexS n i % 16) by rw [EB.out]; exact hex_bt _ (by omega) (by omega))
      go_wp2_with (first | ((with_reducible refine gate_store (t := 5) (p := 25) rfl ?_); refine store_event (t := 5) (p := 25) (v := ?vo) (w1 := (wr.setCell ⟨g, J - 1 - i, none⟩ (.int .u8 (bt (⟨#[48, 49, 50, 51, 52, 53, 54, 55, 56, 57, 65, 66, 67, 68, 69, 70]⟩ : ByteArray) (Go.bits .and .u32 (hexS n i) 15))))) ?hg ?ho ?hn ?hr ?_; (case ho => rfl); (case hg => rfl); (case hn => rfl); (case hr => first | (go_simp; done) | (go_simp; rfl)); intro w19 hw; rw [HV.out] at hw; have HS := Aside0.mk hw; clear hw))
      go_roundw
      case measure => simp [intOf]; omega
      case rel => exact ⟨i + 1, by omega, rfl, by go_num, ⟨by rw [HS.out]; exact HP'.out.1⟩, ⟨by rw [HS.out]; exact below_set HBi.out GB.out⟩⟩
    · obtain rfl : i = J := by omega
      have hcv := own_string (P := Try.prog) Try.underlying35 Try.underlying5 Try.underlying9 (Kd.own_of_R HR.out)
      go_wp2
      go_ret
      exact ⟨rs (by rw [HM.out]; simp), HBi.out⟩
end Go.Proofs.Ytdhingmjnhhjnaa.My
