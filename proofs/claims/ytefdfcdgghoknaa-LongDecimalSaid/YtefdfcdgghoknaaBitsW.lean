/- Contracts of the walks of layer 1 (bits) and of its reference: each function answers as a plain function of its numbers; nothing that stood is written. -/
import Derived.Test.YtefdfcdgghoknaaProg
import Derived.Below
import Derived.Deep.Draws
import Derived.OwnWalk
import Derived.Tactics
import Derived.WalkKit
import Derived.KernelRfl
import Derived.RowKit3
import Derived.Deep.LoopGhost
import Derived.Deep.QuietTactic
import Derived.BigQuiet
import Derived.WideLaws
import Derived.Laws.BitsLemmas
import Derived.RowKit
import Derived.Outline
import Derived.WalkLawsBesides
import Derived.Test.YtefdfcdgghoknaaWWords
import Derived.Test.YtefdfcdgghoknaaWLast
import Derived.Test.YtefdfcdgghoknaaWMore
import Derived.Test.YtefdfcdgghoknaaWArr
namespace Go.Proofs.Ytefdfcdgghoknaa.My
open Go.RowKit Go.Proofs.YtefdfcdgghoknaaW.PrintWords Go.Proofs.YtefdfcdgghoknaaW.PrintLast Go.Proofs.YtefdfcdgghoknaaW.PrintMore
set_option linter.unusedVariables false
set_option linter.unusedSimpArgs false

theorem ri {k : IntKind} {a b : Int} (h : a = b) : Ending.returned (.int k a) = Ending.returned (.int k b) := by rw [h]
theorem vi {k : IntKind} {a b : Int} (h : a = b) : Value.int k a = Value.int k b := by rw [h]
theorem rb {a b : Bool} (h : a = b) : Ending.returned (.bool a) = Ending.returned (.bool b) := by rw [h]
theorem rs {a b : ByteArray} (h : a = b) : Ending.returned (.string a) = Ending.returned (.string b) := by rw [h]
theorem low_c (v : Int) (w : World) : Calls Try.prog 37 #[.int .u16 v] w fun e w' => e = .returned (.int .u8 (v % 256)) ∧ w = w' := by
  go_enter Try.func37, Try.ntmps37
  go_wp2
  go_ret
  exact ⟨rfl, rfl⟩
theorem high_c (v : Int) (w : World) : Calls Try.prog 38 #[.int .u16 v] w fun e w' => e = .returned (.int .u8 (v / 256 % 256)) ∧ w = w' := by
  go_enter Try.func38, Try.ntmps38
  go_wp2
  go_ret
  exact ⟨rfl, rfl⟩
theorem word_c (a b : Int) (h1 : 0 ≤ a) (h2 : a < 256) (h3 : 0 ≤ b) (h4 : b < 256) (w : World) : Calls Try.prog 39 #[.int .u8 a, .int .u8 b] w fun e w' => e = .returned (.int .u16 (b * 256 + a)) ∧ w = w' := by
  go_enter Try.func39, Try.ntmps39
  go_wp2
  go_ret
  refine ⟨ri ?_, rfl⟩
  try simp only [IntKind.wrap_u16]
  rw [u16_or _ _ (by omega) (by omega) (by omega) (by omega), Nat.or_comm, nat_join 8 _ _ (by omega) (by omega)]
  omega
/-- A byte as a word, its sign spread. -/
def signM (a : Int) : Int := if a < 128 then a else a + 65280
theorem signM_b (a : Int) (h1 : 0 ≤ a) (h2 : a < 256) : 0 ≤ signM a ∧ signM a < 65536 ∧ signM a % 256 = a := by unfold signM; split <;> omega
/-- A word that is a byte whose sign is spread. -/
def fitsM (a : Int) : Bool := decide (a < 128) || decide (65408 ≤ a)
/-- How many ones a number has in its lowest bits. -/
def onesM (n : Int) : Nat → Int
  | 0 => 0
  | k + 1 => n % 2 + onesM (n / 2) k
theorem onesM_b (k : Nat) : ∀ n : Int, 0 ≤ onesM n k ∧ onesM n k ≤ k := by
  induction k with
  | zero => intro n; simp [onesM]
  | succ k ih => intro n; have := ih (n / 2); simp only [onesM]; omega
def evenM (b : Int) : Bool := onesM b 8 % 2 == 0
theorem even_c (b : Int) (h1 : 0 ≤ b) (h2 : b < 256) (w : World) : Calls Try.prog 46 #[.int .u8 b] w fun e w' => e = .returned (.bool (evenM b)) ∧ w = w' := by
  go_enter Try.func46, Try.ntmps46
  go_wp2
  go_ret
  refine ⟨rb ?_, rfl⟩
  obtain ⟨n, rfl⟩ := Int.eq_ofNat_of_zero_le h1
  have h : n < 256 := by omega
  clear h1 h2
  revert n
  decide +kernel
def parasM (n : Int) : Int := if n < 1 then 0 else (n - 1) / 16 + 1
theorem strOfNums_cat (a b : List Int) : strOfNums a ++ strOfNums b = strOfNums (a ++ b) := by
  apply ByteArray.ext
  rw [ByteArray.data_append]
  simp [strOfNums]
/-- A hexadecimal digit's letter. -/
def hexD (d : Int) : Int := if d < 10 then 48 + d else 55 + d
/-- A number behind so many digits. -/
def hexS (n : Int) : Nat → Int
  | 0 => n
  | i + 1 => hexS n i / 16
/-- So many digits of a number, the greatest first. -/
def hexL (n : Int) : Nat → List Int
  | 0 => []
  | i + 1 => hexD (hexS n i % 16) :: hexL n i
theorem hexL_len (n : Int) (i : Nat) : (hexL n i).length = i := by
  induction i with
  | zero => rfl
  | succ i ih => simp [hexL, ih]
theorem hexS_b (n : Int) (h0 : 0 ≤ n) (h1 : n < 4294967296) (i : Nat) : 0 ≤ hexS n i ∧ hexS n i < 4294967296 := by
  induction i with
  | zero => exact ⟨h0, h1⟩
  | succ i ih => unfold hexS; omega
theorem hexL_set (n : Int) (m i : Nat) (h : i < m) : (List.replicate (m - i) 0 ++ hexL n i).set (m - 1 - i) (hexD (hexS n i % 16)) = List.replicate (m - (i + 1)) 0 ++ hexL n (i + 1) := by
  obtain ⟨q, rfl⟩ : ∃ q, m = i + 1 + q := ⟨m - (i + 1), by omega⟩
  rw [show i + 1 + q - i = q + 1 by omega, show i + 1 + q - 1 - i = q by omega, show i + 1 + q - (i + 1) = q by omega]
  rw [List.replicate_succ', List.append_assoc, List.set_append]
  simp [hexL]
def mM (m : Int) : Int := if m < 1 then 1 else if 8 < m then 8 else m
theorem hex_bt (d : Int) (h0 : 0 ≤ d) (h1 : d < 16) : bt (⟨#[48, 49, 50, 51, 52, 53, 54, 55, 56, 57, 65, 66, 67, 68, 69, 70]⟩ : ByteArray) d = hexD d := by
  obtain ⟨n, rfl⟩ := Int.eq_ofNat_of_zero_le h0
  have h : n < 16 := by omega
  clear h0 h1
  revert n
  decide +kernel
theorem mM_split (m j3 j4 : Int) (h3 : (if m < 1 then 1 else m) = j3) (h4 : (if 8 < j3 then 8 else j3) = j4) : mM m = j4 ∧ 1 ≤ j4 ∧ j4 ≤ 8 := by
  unfold mM
  by_cases a : m < 1
  · rw [if_pos a] at h3 ⊢; subst h3; rw [if_neg (by omega)] at h4; omega
  · rw [if_neg a] at h3 ⊢; subst h3
    by_cases b : 8 < m
    · rw [if_pos b] at h4 ⊢; omega
    · rw [if_neg b] at h4 ⊢; omega
end Go.Proofs.Ytefdfcdgghoknaa.My
