/- The walk of the law LongDigits: it returns true at every input. -/
import Derived.Test.YtefdfcdgghoknaaDecX
import Derived.Test.YtefdfcdgghoknaaLongV
import Derived.Test.YtefdfcdgghoknaaAluL
import Derived.Test.YtefdfcdgghoknaaLem
import Derived.Test.YtefdfcdgghoknaaAluB
namespace Go.Proofs.Ytefdfcdgghoknaa.My
open Go.RowKit Go.Proofs.YtefdfcdgghoknaaW.PrintWords Go.Proofs.YtefdfcdgghoknaaW.PrintLast Go.Proofs.YtefdfcdgghoknaaW.PrintMore
set_option linter.unusedVariables false
set_option linter.unusedSimpArgs false
/-- Two digits, four bits each. -/
def bcd (n : Nat) : Nat := n / 10 * 16 + n % 10
theorem bcd_lt (n : Nat) (h : n < 100) : bcd n < 256 := by unfold bcd; omega
theorem signs_4 (v : Nat) (wide : Bool) : signsN v wide % 4 = 0 ∧ signsN v wide / 16 % 2 = 0 := by unfold signsN; split <;> split <;> split <;> decide
theorem addF_bits (a b c : Nat) (wide : Bool) : (addF a b c wide / 16 % 2 = 1 ↔ carryN a b c 4 = 1) ∧ (addF a b c wide % 2 = 1 ↔ carryN a b c (szN wide) = 1) := by
  unfold addF
  obtain ⟨z, p, hs⟩ : ∃ z p : Bool, signsN (cutN (a + b + c) wide) wide = (if cutN (cutN (a + b + c) wide) wide / HH wide = 1 then 128 else 0) + (if z then 64 else 0) + (if p then 4 else 0) := ⟨decide (cutN (cutN (a + b + c) wide) wide = 0), decide (onesN (cutN (cutN (a + b + c) wide) wide % 256) 8 % 2 = 0), by unfold signsN; simp only [decide_eq_true_eq]⟩
  rw [hs]
  cases z <;> cases p <;> (split <;> split <;> split <;> split <;> simp_all)
theorem subF_bits (a b c : Nat) (wide : Bool) : (subF a b c wide / 16 % 2 = 1 ↔ borN a b c 4 = 1) ∧ (subF a b c wide % 2 = 1 ↔ borN a b c (szN wide) = 1) := by
  unfold subF
  obtain ⟨z, p, hs⟩ : ∃ z p : Bool, signsN (cutN (subS a b c) wide) wide = (if cutN (cutN (subS a b c) wide) wide / HH wide = 1 then 128 else 0) + (if z then 64 else 0) + (if p then 4 else 0) := ⟨decide (cutN (cutN (subS a b c) wide) wide = 0), decide (onesN (cutN (cutN (subS a b c) wide) wide % 256) 8 % 2 = 0), by unfold signsN; simp only [decide_eq_true_eq]⟩
  rw [hs]
  cases z <;> cases p <;> (split <;> split <;> split <;> split <;> simp_all)
theorem sum_tab : ∀ m, m < 19 → ∀ k, k < 19 → (decide (9 < (16 * m + k) % 256 % 16) || decide (k / 16 = 1)) = decide (9 < k) ∧ (decide (153 < (16 * m + k) % 256) || decide ((16 * m + k) / 256 = 1)) = decide (99 < 10 * m + k) ∧
    ((16 * m + k) % 256 + byN (decide (9 < k)) (decide (99 < 10 * m + k))) % 256 = bcd ((10 * m + k) % 100) := by decide +kernel
theorem dif_tab : ∀ m, m < 20 → ∀ k, k < 20 → 1 ≤ m → 1 ≤ k → (decide (9 < (16 * m + k + 86) % 256 % 16) || decide (k < 10)) = decide (k < 10) ∧ (decide (153 < (16 * m + k + 86) % 256) || decide (16 * m + k < 170)) = decide (10 * m + k < 110) ∧
    ((16 * m + k + 86) % 256 + 256 - byN (decide (k < 10)) (decide (10 * m + k < 110))) % 256 = bcd ((10 * m + k + 90) % 100) := by decide +kernel
/-- The sum's digits, put right. -/
theorem daa_sum (x y : Nat) (hx : x < 100) (hy : y < 100) :
    decX 11 (cutN (bcd x + bcd y + 0) false % 256) (halfB (cutN (bcd x + bcd y + 0) false % 256) (addF (bcd x) (bcd y) 0 false)) (wholeB (cutN (bcd x + bcd y + 0) false % 256) (addF (bcd x) (bcd y) 0 false)) = bcd ((x + y) % 100) ∧
    wholeB (cutN (bcd x + bcd y + 0) false % 256) (addF (bcd x) (bcd y) 0 false) = decide (99 < x + y) := by
  obtain ⟨e4, e1⟩ := addF_bits (bcd x) (bcd y) 0 false
  have lx := bcd_lt x hx
  have ly := bcd_lt y hy
  have hx1 : bcd x % 16 = x % 10 := by unfold bcd; omega
  have hy1 : bcd y % 16 = y % 10 := by unfold bcd; omega
  have c4 : carryN (bcd x) (bcd y) 0 4 = (x % 10 + y % 10) / 16 := by unfold carryN; rw [show (2 : Nat) ^ 4 = 16 from rfl, hx1, hy1, Nat.add_zero]
  have c8 : carryN (bcd x) (bcd y) 0 (szN false) = (bcd x + bcd y) / 256 := by unfold carryN; rw [show (2 : Nat) ^ szN false = 256 from rfl, Nat.mod_eq_of_lt lx, Nat.mod_eq_of_lt ly, Nat.add_zero]
  have hs : bcd x + bcd y = 16 * (x / 10 + y / 10) + (x % 10 + y % 10) := by unfold bcd; omega
  have hxy : x + y = 10 * (x / 10 + y / 10) + (x % 10 + y % 10) := by omega
  have hm : x / 10 + y / 10 < 19 := by omega
  have hk : x % 10 + y % 10 < 19 := by omega
  have hc : cutN (bcd x + bcd y + 0) false % 256 = (bcd x + bcd y) % 256 := by unfold cutN MM; simp
  have q1 : decide (addF (bcd x) (bcd y) 0 false / 16 % 2 = 1) = decide ((x % 10 + y % 10) / 16 = 1) := by rw [← c4]; exact decide_eq_decide.2 e4
  have q2 : decide (addF (bcd x) (bcd y) 0 false % 2 = 1) = decide ((bcd x + bcd y) / 256 = 1) := by rw [← c8]; exact decide_eq_decide.2 e1
  unfold halfB wholeB
  rw [q1, q2, hc, hs, hxy]
  clear e4 e1 lx ly hx1 hy1 c4 c8 hs hxy hc q1 q2
  generalize x / 10 + y / 10 = m at *
  generalize x % 10 + y % 10 = k at *
  obtain ⟨t1, t2, t3⟩ := sum_tab m hm k hk
  rw [t1, t2]
  exact ⟨t3, rfl⟩
theorem bcd_parts (x : Nat) (hx : x < 100) : ∃ a b : Nat, x = 10 * a + b ∧ a ≤ 9 ∧ b ≤ 9 ∧ bcd x = 16 * a + b := ⟨x / 10, x % 10, by omega, by omega, by omega, by unfold bcd; omega⟩
theorem bor4 (p q b d : Nat) (hp : p % 16 = b) (hq : q % 16 = d) (hb : b ≤ 9) (hd : d ≤ 9) (hQ : q < 256) : borN p q 0 4 = 1 ↔ b < d := by
  unfold borN carryN cmpl; rw [show (2 : Nat) ^ 4 = 16 from rfl, hp]
  have : (65535 - q) % 16 = 15 - d := by omega
  rw [this]; clear this hp hq hQ; omega
theorem bor8 (p q : Nat) (hp : p < 256) (hq : q < 256) : borN p q 0 (szN false) = 1 ↔ p < q := by
  unfold borN carryN cmpl; rw [show (2 : Nat) ^ szN false = 256 from rfl]
  have : (65535 - q) % 256 = 255 - q := by omega
  rw [this, Nat.mod_eq_of_lt hp]; clear this; omega
theorem sub8 (p q : Nat) (hp : p < 256) (hq : q < 256) : cutN (subS p q 0) false % 256 = (p + 256 - q) % 256 := by
  have : subS p q 0 = p + 65536 - q := by unfold subS cmpl; omega
  rw [this]; unfold cutN MM; simp; omega
theorem das_diff (x y : Nat) (hx : x < 100) (hy : y < 100) :
    decX 12 (cutN (subS (bcd x) (bcd y) 0) false % 256) (halfB (cutN (subS (bcd x) (bcd y) 0) false % 256) (subF (bcd x) (bcd y) 0 false)) (wholeB (cutN (subS (bcd x) (bcd y) 0) false % 256) (subF (bcd x) (bcd y) 0 false)) = bcd ((x + 100 - y) % 100) ∧
    wholeB (cutN (subS (bcd x) (bcd y) 0) false % 256) (subF (bcd x) (bcd y) 0 false) = decide (x < y) := by
  obtain ⟨e4, e1⟩ := subF_bits (bcd x) (bcd y) 0 false
  obtain ⟨a, b, ex, la, lb, hX⟩ := bcd_parts x hx
  obtain ⟨c, d, ey, lc, ld, hY⟩ := bcd_parts y hy
  have lX := bcd_lt x hx
  have lY := bcd_lt y hy
  have b4 := bor4 (bcd x) (bcd y) b d (by omega) (by omega) lb ld lY
  have b8 := bor8 (bcd x) (bcd y) lX lY
  have hc := sub8 (bcd x) (bcd y) lX lY
  have q1 : decide (subF (bcd x) (bcd y) 0 false / 16 % 2 = 1) = decide (b < d) := decide_eq_decide.2 (e4.trans b4)
  have q2 : decide (subF (bcd x) (bcd y) 0 false % 2 = 1) = decide (bcd x < bcd y) := decide_eq_decide.2 (e1.trans b8)
  unfold halfB wholeB
  rw [q1, q2, hc]
  clear e4 e1 b4 b8 hc q1 q2 lX lY
  rw [hX, hY]
  obtain ⟨k, hk⟩ : ∃ k, k + d = 10 + b := ⟨10 + b - d, by omega⟩
  obtain ⟨m, hm⟩ : ∃ m, m + c = 10 + a := ⟨10 + a - c, by omega⟩
  have q3 : decide (x < y) = decide (10 * m + k < 110) := decide_eq_decide.2 (by omega)
  have q4 : (x + 100 - y) % 100 = (10 * m + k + 90) % 100 := by rw [show x + 100 - y = 10 * m + k - 10 by omega]; omega
  have q5 : 16 * a + b + 256 - (16 * c + d) = 16 * m + k + 86 := by omega
  have q6 : decide (b < d) = decide (k < 10) := decide_eq_decide.2 (by omega)
  have q7 : decide (16 * a + b < 16 * c + d) = decide (16 * m + k < 170) := decide_eq_decide.2 (by omega)
  rw [q3, q4, q5, q6, q7]
  obtain ⟨t1, t2, t3⟩ := dif_tab m (by omega) k (by omega) (by omega) (by omega)
  rw [t1, t2]
  exact ⟨t3, rfl⟩
theorem decF_odd (name : Nat) (n1 : name ≠ 13) (n2 : name ≠ 14) (X was : Nat) (hf wh : Bool) : decF name X was hf wh % 2 = 1 ↔ wh = true := by
  rw [decF_da name n1 n2]
  obtain ⟨z, p, q, hs⟩ : ∃ z p q : Bool, signsN X false = (if q then 128 else 0) + (if z then 64 else 0) + (if p then 4 else 0) := ⟨decide (cutN X false = 0), decide (onesN (cutN X false % 256) 8 % 2 = 0), decide (cutN X false / HH false = 1), by unfold signsN; simp only [decide_eq_true_eq]⟩
  rw [hs]
  have h1 : was &&& 2048 = was / 2048 % 2 * 2048 := nat_bit 11 was
  rw [h1]
  rcases Nat.mod_two_eq_zero_or_one (was / 2048) with e | e <;> rw [e] <;> cases z <;> cases p <;> cases q <;> cases hf <;> cases wh <;> decide
theorem decF_lt (name : Nat) (n1 : name ≠ 13) (n2 : name ≠ 14) (X was : Nat) (hf wh : Bool) : decF name X was hf wh < 65536 := by
  rw [decF_da name n1 n2]
  have h1 := signsN_le X false
  refine Nat.or_lt_two_pow (n := 16) (Nat.or_lt_two_pow (n := 16) (Nat.or_lt_two_pow (n := 16) (Nat.lt_of_le_of_lt Nat.and_le_right (by decide)) ?_) ?_) (by omega)
  · split <;> decide
  · split <;> decide
theorem dec_one (name : Nat) (n1 : name ≠ 13) (n2 : name ≠ 14) (s X : Nat) (hf wh : Bool) (hs : s < 256) (hX : decX name (s % 256) hf wh = X) : decX name (s % 256) hf wh + 256 * decY name (s / 256) hf = X := by
  have : decY name (s / 256) hf = 0 := by unfold decY; rw [if_neg n1, if_neg n2]; omega
  omega
theorem bit_B (F : Nat) (h : F < 65536) (B : Bool) (hb : F % 2 = 1 ↔ B = true) : decide (0 < Go.bits .and .u16 (F : Int) 1) = B := by
  have hn := u16_and_nat F 1 h (by omega)
  rw [nat_mask1] at hn
  rw [show ((1 : Nat) : Int) = 1 from rfl] at hn
  rw [hn, Bool.eq_iff_iff, ← hb, decide_eq_true_eq]; omega
theorem t_sum (X Y : Nat) : ((X : Int) + (Y : Int)) % 100 = (((X + Y) % 100 : Nat) : Int) := by omega
theorem t_dif (X Y : Nat) (hx : X < 100) (hy : Y < 100) : ((X : Int) - (Y : Int) + 100) % 100 = (((X + 100 - Y) % 100 : Nat) : Int) := by omega
theorem t_bcd (N : Nat) : (N : Int) / 10 * 16 + (N : Int) % 10 = ((bcd N : Nat) : Int) := by unfold bcd; omega
theorem t_gt (X Y : Nat) : decide ((99 : Int) < (X : Int) + (Y : Int)) = decide (99 < X + Y) := decide_eq_decide.2 (by omega)
theorem t_lt (X Y : Nat) : decide ((X : Int) < (Y : Int)) = decide (X < Y) := decide_eq_decide.2 (by omega)
theorem t_gtw (X Y : Nat) (hx : X < 100) (hy : Y < 100) : decide ((99 : Int) < wrap64 ((X : Int) + (Y : Int))) = decide (99 < X + Y) := by rw [w64 (by omega) (by omega)]; exact t_gt X Y
theorem t_mod (A : Nat) : (A : Int) % 100 = ((A % 100 : Nat) : Int) := by omega
set_option maxRecDepth 100000 in
set_option maxHeartbeats 8000000 in
theorem longDigits_w (a b : Int) (w : World) (wa : (Lit.int .i64 a).wf = true) (wb : (Lit.int .i64 b).wf = true) :
    Calls Try.prog 6 #[.int .i64 a, .int .i64 b] w fun e w' => e = .returned (.bool true) ∧ Below w.heap.size w w' := by
  clear wa wb
  have ea := i64_mask 7 (by decide) a
  have eb := i64_mask 7 (by decide) b
  rw [show (2 : Int) ^ 7 - 1 = 127 by decide, show (2 : Int) ^ 7 = 128 by decide] at ea eb
  obtain ⟨A, hA⟩ : ∃ A : Nat, a % 128 = (A : Int) := ⟨(a % 128).toNat, by omega⟩
  obtain ⟨B, hB⟩ : ∃ B : Nat, b % 128 = (B : Int) := ⟨(b % 128).toNat, by omega⟩
  rw [hA] at ea
  rw [hB] at eb
  have lA : A < 128 := by omega
  have lB : B < 128 := by omega
  clear hA hB
  obtain ⟨X, hX⟩ : ∃ X : Nat, A % 100 = X := ⟨_, rfl⟩
  obtain ⟨Y, hY⟩ : ∃ Y : Nat, B % 100 = Y := ⟨_, rfl⟩
  have lX : X < 100 := by omega
  have lY : Y < 100 := by omega
  have eX := t_mod A
  have eY := t_mod B
  rw [hX] at eX
  rw [hY] at eY
  clear hX hY
  obtain ⟨s1, s2⟩ := daa_sum X Y lX lY
  obtain ⟨d1, d2⟩ := das_diff X Y lX lY
  have lP := bcd_lt X lX
  have lQ := bcd_lt Y lY
  have RA := radd_c (bcd X) (bcd Y) 0 false (by omega) (by omega) (by omega)
  have RS := rsub_c (bcd X) (bcd Y) 0 false (by omega) (by omega) (by omega)
  have lS : cutN (bcd X + bcd Y + 0) false < 256 := cutN_M _ false
  have lT : cutN (subS (bcd X) (bcd Y) 0) false < 256 := cutN_M _ false
  have lF := addF_le (bcd X) (bcd Y) 0 false
  have lG := subF_le (bcd X) (bcd Y) 0 false
  have DA := dec_11 (cutN (bcd X + bcd Y + 0) false) (addF (bcd X) (bcd Y) 0 false) (by omega) lF
  have DS := dec_12 (cutN (subS (bcd X) (bcd Y) 0) false) (subF (bcd X) (bcd Y) 0 false) (by omega) lG
  rw [dec_one 11 (by decide) (by decide) _ _ _ _ lS s1] at DA
  rw [dec_one 12 (by decide) (by decide) _ _ _ _ lT d1] at DS
  have fA := decF_odd 11 (by decide) (by decide) (decX 11 (cutN (bcd X + bcd Y + 0) false % 256) (halfB (cutN (bcd X + bcd Y + 0) false % 256) (addF (bcd X) (bcd Y) 0 false)) (wholeB (cutN (bcd X + bcd Y + 0) false % 256) (addF (bcd X) (bcd Y) 0 false))) (addF (bcd X) (bcd Y) 0 false) (halfB (cutN (bcd X + bcd Y + 0) false % 256) (addF (bcd X) (bcd Y) 0 false)) (wholeB (cutN (bcd X + bcd Y + 0) false % 256) (addF (bcd X) (bcd Y) 0 false))
  have fS := decF_odd 12 (by decide) (by decide) (decX 12 (cutN (subS (bcd X) (bcd Y) 0) false % 256) (halfB (cutN (subS (bcd X) (bcd Y) 0) false % 256) (subF (bcd X) (bcd Y) 0 false)) (wholeB (cutN (subS (bcd X) (bcd Y) 0) false % 256) (subF (bcd X) (bcd Y) 0 false))) (subF (bcd X) (bcd Y) 0 false) (halfB (cutN (subS (bcd X) (bcd Y) 0) false % 256) (subF (bcd X) (bcd Y) 0 false)) (wholeB (cutN (subS (bcd X) (bcd Y) 0) false % 256) (subF (bcd X) (bcd Y) 0 false))
  have gA := decF_lt 11 (by decide) (by decide) (decX 11 (cutN (bcd X + bcd Y + 0) false % 256) (halfB (cutN (bcd X + bcd Y + 0) false % 256) (addF (bcd X) (bcd Y) 0 false)) (wholeB (cutN (bcd X + bcd Y + 0) false % 256) (addF (bcd X) (bcd Y) 0 false))) (addF (bcd X) (bcd Y) 0 false) (halfB (cutN (bcd X + bcd Y + 0) false % 256) (addF (bcd X) (bcd Y) 0 false)) (wholeB (cutN (bcd X + bcd Y + 0) false % 256) (addF (bcd X) (bcd Y) 0 false))
  have gS := decF_lt 12 (by decide) (by decide) (decX 12 (cutN (subS (bcd X) (bcd Y) 0) false % 256) (halfB (cutN (subS (bcd X) (bcd Y) 0) false % 256) (subF (bcd X) (bcd Y) 0 false)) (wholeB (cutN (subS (bcd X) (bcd Y) 0) false % 256) (subF (bcd X) (bcd Y) 0 false))) (subF (bcd X) (bcd Y) 0 false) (halfB (cutN (subS (bcd X) (bcd Y) 0) false % 256) (subF (bcd X) (bcd Y) 0 false)) (wholeB (cutN (subS (bcd X) (bcd Y) 0) false % 256) (subF (bcd X) (bcd Y) 0 false))
  rw [s2] at fA gA DA
  rw [d2] at fS gS DS
  clear s1 s2 d1 d2
  generalize decF 11 _ _ _ _ = FA at *
  generalize decF 12 _ _ _ _ = FS at *
  have uA := bit_B FA gA _ fA
  have uS := bit_B FS gS _ fS
  clear fA fS gA gS
  have eP := t_bcd X
  have eQ := t_bcd Y
  have c1 : ((X : Int) + (Y : Int)) % 100 / 10 * 16 + ((X : Int) + (Y : Int)) % 10 = ((bcd ((X + Y) % 100) : Nat) : Int) := by
    rw [← t_bcd, ← t_sum X Y, Int.emod_emod_of_dvd _ (by decide : (10 : Int) ∣ 100)]
  have c2 : ((X : Int) - (Y : Int)) % 100 / 10 * 16 + ((X : Int) - (Y : Int)) % 10 = ((bcd ((X + 100 - Y) % 100) : Nat) : Int) := by
    rw [← t_bcd, ← t_dif X Y lX lY, Int.add_emod_right, Int.emod_emod_of_dvd _ (by decide : (10 : Int) ∣ 100)]
  have o1 := t_gtw X Y lX lY
  obtain ⟨BS, o2⟩ : ∃ BS, decide (X < Y) = BS := ⟨_, rfl⟩
  rw [o2] at uS
  generalize decide (99 < X + Y) = BA at *
  generalize bcd ((X + Y) % 100) = V1 at *
  generalize bcd ((X + 100 - Y) % 100) = V2 at *
  have C1 := Aside0.mk c1
  have C2 := Aside0.mk c2
  have O1 := Aside0.mk o1
  have O2 := Aside0.mk o2
  have UA := Aside0.mk uA
  have US := Aside0.mk uS
  clear c1 c2 o1 o2 uA uS
  generalize cutN (bcd X + bcd Y + 0) false = S at *
  generalize cutN (subS (bcd X) (bcd Y) 0) false = T at *
  generalize addF (bcd X) (bcd Y) 0 false = F at *
  generalize subF (bcd X) (bcd Y) 0 false = G at *
  rw [← eP, ← eQ] at RA RS
  clear eP eQ lP lQ
  have KA : Aside0 (∀ w, Calls Try.prog 22 #[.int .u16 ((X : Int) / 10 * 16 + (X : Int) % 10), .int .u16 ((Y : Int) / 10 * 16 + (Y : Int) % 10), .int .i64 0, .bool false] w fun e w' => e = .returned (.tuple #[.int .u16 (S : Nat), .int .u16 (F : Nat)]) ∧ Below w.heap.size w w') := ⟨RA⟩
  have KS : Aside0 (∀ w, Calls Try.prog 23 #[.int .u16 ((X : Int) / 10 * 16 + (X : Int) % 10), .int .u16 ((Y : Int) / 10 * 16 + (Y : Int) % 10), .int .i64 0, .bool false] w fun e w' => e = .returned (.tuple #[.int .u16 (T : Nat), .int .u16 (G : Nat)]) ∧ Below w.heap.size w w') := ⟨RS⟩
  have KD := Aside0.mk DA
  have KE := Aside0.mk DS
  clear RA RS DA DS
  have BB := Aside0.mk (Below.refl w.heap.size w)
  go_enter Try.func6, Try.ntmps6
  go_wp2_with fail
  refine (KA.out _).mono ?_
  rintro e w1 ⟨rfl, hb⟩
  have HB1 := Aside0.mk (below_step BB.out hb)
  clear hb
  go_wp2_with fail
  refine (KS.out _).mono ?_
  rintro e w2 ⟨rfl, hb⟩
  have HB2 := Aside0.mk (below_step HB1.out hb)
  clear hb
  go_wp2_with fail
  refine (KD.out _).mono ?_
  rintro e w3 ⟨rfl, rfl⟩
  go_wp2_with fail
  refine (KE.out _).mono ?_
  rintro e w3 ⟨rfl, rfl⟩
  clear ea eb eX eY lA lB lS lT lF lG
  go_wp2_with fail
  have c1 := C1.out
  have c2 := C2.out
  have o1 := O1.out
  have o2 := O2.out
  have uA := UA.out
  have uS := US.out
  clear lX lY
  refine (awake10_c _).mono ?_
  rintro e wd ⟨rfl, ⟨nd, rfl⟩⟩
  cases BA <;> cases BS
  all_goals
    go_wp2_with fail
    go_ret
    exact ⟨rfl, by repeat (first | exact HB2.out | apply below_drew1 | apply pw_below_drewN)⟩
end Go.Proofs.Ytefdfcdgghoknaa.My
