/- What the printed functions of hansomref08 come to: plain arithmetic. -/
import Derived.Test.YtefdfcdgghoknaaPDox
import Derived.Test.YtefdfcdgghoknaaLem
namespace Go.Proofs.Ytefdfcdgghoknaa.My
open Go.RowKit Go.Proofs.YtefdfcdgghoknaaW.PrintWords Go.Proofs.YtefdfcdgghoknaaW.PrintLast Go.Proofs.YtefdfcdgghoknaaW.PrintMore Go.Proofs.Ytefdfcdgghoknaa.PDo
set_option linter.unusedVariables false
set_option linter.unusedSimpArgs false

theorem w64 {a : Int} (h0 : -9223372036854775808 ≤ a) (h1 : a ≤ 9223372036854775807) : wrap64 a = a := by unfold wrap64; omega
theorem w16 {a : Int} (h0 : 0 ≤ a) (h1 : a < 65536) : IntKind.u16.wrap a = a := by rw [IntKind.wrap_u16]; omega

/-! ### bits of numbers -/
theorem div_succ (a i : Nat) : a / 2 ^ (i + 1) = a / 2 ^ i / 2 := by rw [Nat.pow_succ, Nat.div_div_eq_div_mul]
theorem mod_succ (a i : Nat) : a % 2 ^ (i + 1) = a % 2 ^ i + 2 ^ i * (a / 2 ^ i % 2) := by rw [Nat.mod_pow_succ]

theorem td (a : Int) (n : Int) (h : 0 ≤ a) : Int.tdiv a n = a / n := Int.tdiv_eq_ediv_of_nonneg h
theorem tm (a : Int) (n : Int) (h : 0 ≤ a) : Int.tmod a n = a % n := Int.tmod_eq_emod_of_nonneg h
theorem bit_l (a i d : Nat) (ha : a < 65536) : ∀ (j k : Nat), j + d = i → i < 20 → d < k → hansomref08_Bit.l0 k ((a / 2 ^ j : Nat) : Int) i j = some ((a / 2 ^ i % 2 : Nat) : Int) := by
  induction d with
  | zero =>
    intro j k hj hi hk
    obtain ⟨k, rfl⟩ : ∃ m, k = m + 1 := ⟨k - 1, by omega⟩
    obtain rfl : j = i := by omega
    have hb : a / 2 ^ j ≤ a := Nat.div_le_self _ _
    generalize a / 2 ^ j = x at *
    simp only [hansomref08_Bit.l0]
    rw [if_neg (by omega), tm _ _ (by omega), w64 (by omega) (by omega)]
    congr 1
  | succ d ih =>
    intro j k hj hi hk
    obtain ⟨k, rfl⟩ : ∃ m, k = m + 1 := ⟨k - 1, by omega⟩
    have hb : a / 2 ^ j ≤ a := Nat.div_le_self _ _
    have h := ih (j + 1) k (by omega) hi (by omega)
    rw [div_succ] at h
    generalize a / 2 ^ j = x at *
    simp only [hansomref08_Bit.l0]
    rw [if_pos (by omega), td _ _ (by omega), w16 (by omega) (by omega), w64 (by omega) (by omega), ← h]
    rfl
theorem bit_f (a i k : Nat) (ha : a < 65536) (hi : i < 20) (hk : 20 ≤ k) : hansomref08_Bit.f k a i = some ((a / 2 ^ i % 2 : Nat) : Int) := by
  have := bit_l a i i ha 0 k (by omega) hi (by omega)
  unfold hansomref08_Bit.f
  simpa using this
theorem bit_f' (a : Nat) (i : Int) (k : Nat) (ha : a < 65536) (h0 : 0 ≤ i) (hi : i < 20) (hk : 20 ≤ k) : hansomref08_Bit.f k a i = some ((a / 2 ^ i.toNat % 2 : Nat) : Int) := by
  obtain ⟨n, rfl⟩ := Int.eq_ofNat_of_zero_le h0
  exact bit_f a n k ha (by omega) hk

/-- How many ones there are in the lowest bits. -/
def onesN (n : Nat) : Nat → Nat
  | 0 => 0
  | k + 1 => n % 2 + onesN (n / 2) k
theorem onesN_le (k : Nat) : ∀ n, onesN n k ≤ k := by
  induction k with
  | zero => intro n; simp [onesN]
  | succ k ih => intro n; have := ih (n / 2); simp only [onesN]; omega
theorem ones_l (d : Nat) : ∀ (x k acc i n : Nat), x < 65536 → acc + d < 65536 → i + d = n → n < 20 → d < k → hansomref01_Ones.l0 k x n acc i = some ((acc + onesN x d : Nat) : Int) := by
  induction d with
  | zero =>
    intro x k acc i n hx ha hi hn hk
    obtain ⟨k, rfl⟩ : ∃ m, k = m + 1 := ⟨k - 1, by omega⟩
    simp only [hansomref01_Ones.l0]
    rw [if_neg (by omega)]
    simp [onesN]
  | succ d ih =>
    intro x k acc i n hx ha hi hn hk
    obtain ⟨k, rfl⟩ : ∃ m, k = m + 1 := ⟨k - 1, by omega⟩
    have hb := onesN_le d (x / 2)
    have h := ih (x / 2) k (acc + x % 2) (i + 1) n (by omega) (by omega) (by omega) hn (by omega)
    simp only [hansomref01_Ones.l0]
    rw [if_pos (by omega), td _ _ (by omega), tm _ _ (by omega), w16 (by omega) (by omega), w64 (a := (x : Int) % 2) (by omega) (by omega), w64 (by omega) (by omega), w64 (by omega) (by omega)]
    have e : some ((acc + onesN x (d + 1) : Nat) : Int) = some ((acc + x % 2 + onesN (x / 2) d : Nat) : Int) := by simp only [onesN]; congr 2; omega
    rw [e, ← h]
    rfl
theorem ones_f (x k : Nat) (hx : x < 65536) (hk : 20 ≤ k) : hansomref01_Ones.f k x 8 = some ((onesN x 8 : Nat) : Int) := by
  have := ones_l 8 x k 0 0 8 hx (by omega) (by omega) (by omega) (by omega)
  unfold hansomref01_Ones.f
  simpa using this

/-! ### the flags of a result -/
def MM (wide : Bool) : Nat := if wide then 65536 else 256
def HH (wide : Bool) : Nat := if wide then 32768 else 128
def szN (wide : Bool) : Nat := if wide then 16 else 8
def cutN (v : Nat) (wide : Bool) : Nat := v % MM wide
def signsN (v : Nat) (wide : Bool) : Nat := (if cutN v wide / HH wide = 1 then 128 else 0) + (if cutN v wide = 0 then 64 else 0) + (if onesN (cutN v wide % 256) 8 % 2 = 0 then 4 else 0)
theorem signsN_le (v : Nat) (wide : Bool) : signsN v wide ≤ 196 := by unfold signsN; split <;> split <;> split <;> omega
theorem MM_pow (wide : Bool) : MM wide = 2 ^ szN wide := by cases wide <;> rfl
theorem HH_pow (wide : Bool) : HH wide = 2 ^ (szN wide - 1) := by cases wide <;> rfl
theorem sz_b (wide : Bool) : 8 ≤ szN wide ∧ szN wide ≤ 16 := by cases wide <;> decide
theorem cutN_lt (v : Nat) (wide : Bool) : cutN v wide < 65536 := by unfold cutN MM; split <;> omega
theorem cut_f (v : Nat) (wide : Bool) (hv : v < 65536) : hansomref08_Cut.f v wide = some ((cutN v wide : Nat) : Int) := by
  unfold hansomref08_Cut.f cutN MM
  cases wide
  · simp only [Bool.false_eq_true, if_false]; rw [tm _ _ (by omega)]; rfl
  · simp only [if_true]; rw [Nat.mod_eq_of_lt hv]
theorem size_f (wide : Bool) : hansomref08_Size.f wide = some ((szN wide : Nat) : Int) := by cases wide <;> rfl
theorem signs_f (v k : Nat) (wide : Bool) (hv : v < 65536) (hk : 22 ≤ k) : hansomref08_Signs.f k v wide = some ((signsN v wide : Nat) : Int) := by
  have hc := cutN_lt v wide
  have hsz := sz_b wide
  have hbit : cutN v wide / 2 ^ (szN wide - 1) % 2 = cutN v wide / HH wide := by
    rw [← HH_pow]
    unfold cutN MM HH; cases wide <;> simp <;> omega
  have ho := onesN_le 8 (cutN v wide % 256)
  obtain ⟨k, rfl⟩ : ∃ m, k = m + 1 := ⟨k - 1, by omega⟩
  unfold hansomref08_Signs.f
  rw [cut_f v wide hv, Option.bind_some, size_f, Option.bind_some, w64 (by omega) (by omega), bit_f' _ _ _ hc (by omega) (by omega) (by omega), Option.bind_some]
  rw [show (((szN wide : Nat) : Int) - 1).toNat = szN wide - 1 by omega, hbit]
  have hone := ones_f (cutN v wide % 256) k (by omega) (by omega)
  have hm : Int.tmod ((cutN v wide : Nat) : Int) 256 = ((cutN v wide % 256 : Nat) : Int) := by rw [tm _ _ (by omega)]; rfl
  have hs : ∀ x5 : Nat, x5 < 1000 → hansomref08_Signs.j0 (k + 1) x5 ((cutN v wide : Nat) : Int) = some ((x5 + (if cutN v wide = 0 then 64 else 0) + (if onesN (cutN v wide % 256) 8 % 2 = 0 then 4 else 0) : Nat) : Int) := by
    intro x5 hx
    simp only [hansomref08_Signs.j0, hm, hone, Option.bind_some]
    rw [tm _ _ (by omega)]
    by_cases h0 : cutN v wide = 0
    · rw [if_pos (by omega), if_pos h0]
      by_cases h1 : onesN (cutN v wide % 256) 8 % 2 = 0
      · rw [if_pos (by omega), if_pos h1, w16 (a := (x5 : Int) + 64) (by omega) (by omega), w16 (by omega) (by omega)]; rfl
      · rw [if_neg (by omega), if_neg h1, w16 (by omega) (by omega)]; rfl
    · rw [if_neg (by omega), if_neg h0]
      by_cases h1 : onesN (cutN v wide % 256) 8 % 2 = 0
      · rw [if_pos (by omega), if_pos h1, w16 (by omega) (by omega)]; rfl
      · rw [if_neg (by omega), if_neg h1]; rfl
  unfold signsN
  by_cases h : cutN v wide / HH wide = 1
  · rw [if_pos (by omega), if_pos h]; exact hs 128 (by omega)
  · rw [if_neg (by omega), if_neg h]; exact hs 0 (by omega)

/-! ### numbers of bits -/
def ints (l : List Nat) : List Int := l.map fun (n : Nat) => (n : Int)
def ofN : List Nat → Nat
  | [] => 0
  | b :: l => b + 2 * ofN l
def bitsL (s n : Nat) : List Nat := (List.range n).map fun j => s / 2 ^ j % 2
theorem bitsL_succ (s n : Nat) : bitsL s (n + 1) = bitsL s n ++ [s / 2 ^ n % 2] := by simp [bitsL, List.range_succ]
theorem bitsL_len (s n : Nat) : (bitsL s n).length = n := by simp [bitsL]
theorem ofN_append (l : List Nat) (b : Nat) : ofN (l ++ [b]) = ofN l + 2 ^ l.length * b := by
  induction l with
  | nil => simp [ofN]
  | cons x l ih => simp only [List.cons_append, ofN, ih, List.length_cons, Nat.pow_succ]; rw [Nat.mul_add, ← Nat.add_assoc, ← Nat.mul_assoc, Nat.mul_comm 2 (2 ^ l.length)]
theorem ofN_bitsL (s n : Nat) : ofN (bitsL s n) = s % 2 ^ n := by
  induction n with
  | zero => simp [bitsL, ofN, Nat.mod_one]
  | succ n ih => rw [bitsL_succ, ofN_append, bitsL_len, ih, mod_succ]
theorem ints_append (l : List Nat) (b : Nat) : ints (l ++ [b]) = ints l ++ [(b : Int)] := by simp [ints]
theorem ints_len (l : List Nat) : (ints l).length = l.length := by simp [ints]
theorem ofN_lt (l : List Nat) (h : ∀ b ∈ l, b < 2) : ofN l < 2 ^ l.length := by
  induction l with
  | nil => simp [ofN]
  | cons x l ih =>
    have h1 := ih (fun b hb => h b (List.mem_cons_of_mem _ hb))
    have h2 := h x (List.mem_cons_self ..)
    simp only [ofN, List.length_cons, Nat.pow_succ]
    omega
theorem of_l (l : List Nat) (h : ∀ b ∈ l, b < 2) (hl : l.length ≤ 16) (d : Nat) : ∀ (i k : Nat), i + d = l.length → d < k → hansomref08_of.l0 k (ints l) ((ofN (l.take i) : Nat) : Int) ((2 ^ i % 65536 : Nat) : Int) i = some ((ofN l : Nat) : Int) := by
  have hlt := ofN_lt l h
  have hp : 2 ^ l.length ≤ 2 ^ 16 := Nat.pow_le_pow_right (by decide) hl
  induction d with
  | zero =>
    intro i k hi hk
    obtain ⟨k, rfl⟩ : ∃ m, k = m + 1 := ⟨k - 1, by omega⟩
    simp only [hansomref08_of.l0, ints_len]
    rw [if_neg (by omega), List.take_of_length_le (by omega)]
  | succ d ih =>
    intro i k hi hk
    obtain ⟨k, rfl⟩ : ∃ m, k = m + 1 := ⟨k - 1, by omega⟩
    have hlen : i < l.length := by omega
    have hget : rd (ints l) i = ((l[i] : Nat) : Int) := by simp [rd, ints, hlen]
    have hb : l[i] < 2 := h _ (List.getElem_mem _)
    have ht : ofN (l.take (i + 1)) = ofN (l.take i) + 2 ^ i * l[i] := by
      rw [List.take_succ_eq_append_getElem hlen, ofN_append, List.length_take, Nat.min_eq_left (by omega)]
    have ht2 := ofN_lt (l.take (i + 1)) (fun b hb => h b (List.mem_of_mem_take hb))
    rw [List.length_take, Nat.min_eq_left (by omega)] at ht2
    have hp2 : 2 ^ (i + 1) ≤ 2 ^ 16 := Nat.pow_le_pow_right (by decide) (by omega)
    have hpi : 2 ^ (i + 1) = 2 * 2 ^ i := by rw [Nat.pow_succ]; omega
    have h2 := ih (i + 1) k (by omega) (by omega)
    simp only [hansomref08_of.l0, ints_len]
    rw [if_pos (by omega), if_pos (by omega), hget, w64 (a := (i : Int) + 1) (by omega) (by omega)]
    have hm : (2 ^ i % 65536 : Nat) = 2 ^ i := Nat.mod_eq_of_lt (by omega)
    rw [hm, ← h2, ht, hpi]
    generalize 2 ^ i = P at *
    rw [w16 (a := ((l[i] : Nat) : Int)) (by omega) (by omega)]
    have hc : ((l[i] : Nat) : Int) * ((P : Nat) : Int) = ((P * l[i] : Nat) : Int) := by rw [Nat.mul_comm]; simp
    have hle : P * l[i] ≤ P := by
      have : l[i] = 0 ∨ l[i] = 1 := by omega
      rcases this with e | e <;> simp [e]
    rw [hc]
    generalize P * l[i] = Q at *
    generalize ofN (l.take i) = R at *
    rw [w16 (a := ((Q : Nat) : Int)) (by omega) (by omega), w16 (by omega) (by omega), IntKind.wrap_u16]
    congr 1
    · omega
theorem of_f (l : List Nat) (h : ∀ b ∈ l, b < 2) (hl : l.length ≤ 16) (k : Nat) (hk : 17 ≤ k) : hansomref08_of.f k (ints l) = some ((ofN l : Nat) : Int) := by
  have := of_l l h hl l.length 0 k (by omega) (by omega)
  unfold hansomref08_of.f
  simpa [ofN] using this
theorem bitsL_lt (s n : Nat) : ∀ b ∈ bitsL s n, b < 2 := by
  intro b hb
  simp only [bitsL, List.mem_map] at hb
  obtain ⟨j, _, rfl⟩ := hb
  omega

/-! ### sums -/
def carryN (a b c i : Nat) : Nat := (a % 2 ^ i + b % 2 ^ i + c) / 2 ^ i
theorem carryN_le (a b c i : Nat) (hc : c ≤ 1) : carryN a b c i ≤ 1 := by
  unfold carryN
  have h1 := Nat.mod_lt a (Nat.two_pow_pos i)
  have h2 := Nat.mod_lt b (Nat.two_pow_pos i)
  have : (a % 2 ^ i + b % 2 ^ i + c) / 2 ^ i < 2 := Nat.div_lt_of_lt_mul (by omega)
  omega
theorem carryN_zero (a b c : Nat) : carryN a b c 0 = c := by simp [carryN, Nat.mod_one]
theorem carryN_succ (a b c i : Nat) : carryN a b c (i + 1) = (a / 2 ^ i % 2 + b / 2 ^ i % 2 + carryN a b c i) / 2 := by
  unfold carryN
  rw [mod_succ, mod_succ, Nat.pow_succ, ← Nat.div_div_eq_div_mul]
  congr 1
  have e : a % 2 ^ i + 2 ^ i * (a / 2 ^ i % 2) + (b % 2 ^ i + 2 ^ i * (b / 2 ^ i % 2)) + c = (a % 2 ^ i + b % 2 ^ i + c) + 2 ^ i * (a / 2 ^ i % 2 + b / 2 ^ i % 2) := by rw [Nat.mul_add]; omega
  rw [e, Nat.add_mul_div_left _ _ (Nat.two_pow_pos i)]
  omega
theorem sum_bit (a b c i : Nat) : (a + b + c) / 2 ^ i % 2 = (a / 2 ^ i % 2 + b / 2 ^ i % 2 + carryN a b c i) % 2 := by
  unfold carryN
  have e : a + b + c = (a % 2 ^ i + b % 2 ^ i + c) + 2 ^ i * (a / 2 ^ i + b / 2 ^ i) := by
    have h1 := Nat.mod_add_div a (2 ^ i)
    have h2 := Nat.mod_add_div b (2 ^ i)
    rw [Nat.mul_add]; omega
  rw [e, Nat.add_mul_div_left _ _ (Nat.two_pow_pos i)]
  omega
def addF (a b c : Nat) (wide : Bool) : Nat := (if carryN a b c 4 = 1 then 16 else 0) + (if carryN a b c (szN wide) = 1 then 1 else 0) + (if carryN a b c (szN wide) = carryN a b c (szN wide - 1) then 0 else 2048) + signsN (cutN (a + b + c) wide) wide
theorem add_j (s : Nat) (wide : Bool) (x2 x11 x12 k : Nat) (h2 : x2 < 10) (h11 : x11 < 10) (h12 : x12 < 100) (hk : 40 ≤ k) :
    hansomref08_Add.j1 k x2 wide (ints (bitsL s (szN wide))) x11 x12 = some (((cutN s wide : Nat) : Int), ((x12 + (if x2 = x11 then 0 else 2048) + signsN (cutN s wide) wide : Nat) : Int)) := by
  obtain ⟨k, rfl⟩ : ∃ m, k = m + 1 := ⟨k - 1, by omega⟩
  have hof := of_f (bitsL s (szN wide)) (bitsL_lt _ _) (by rw [bitsL_len]; exact (sz_b wide).2) k (by omega)
  rw [ofN_bitsL, ← MM_pow] at hof
  have hcut := cutN_lt s wide
  have hs := signs_f (cutN s wide) k wide hcut (by omega)
  have hsl := signsN_le (cutN s wide) wide
  have hs' : hansomref08_Signs.f k ((s % MM wide : Nat) : Int) wide = some ((signsN (cutN s wide) wide : Nat) : Int) := hs
  simp only [hansomref08_Add.j1, hof, Option.bind_some, hs']
  generalize signsN (cutN s wide) wide = G at *
  by_cases h : x2 = x11
  · rw [if_pos (by omega), if_pos h, w16 (by omega) (by omega)]; rfl
  · rw [if_neg (by omega), if_neg h, w16 (a := (x12 : Int) + 2048) (by omega) (by omega), w16 (by omega) (by omega)]; rfl
theorem add_l (a b c : Nat) (wide : Bool) (ha : a < 65536) (hb : b < 65536) (hc : c ≤ 1) (d : Nat) : ∀ (i k last f : Nat), i + d = szN wide → 60 + d ≤ k → (last = if i = 0 then c else carryN a b c (i - 1)) → (f = if 4 ≤ i ∧ carryN a b c 4 = 1 then 16 else 0) →
    hansomref08_Add.l0 k a b (carryN a b c i : Nat) wide (ints (bitsL (a + b + c) i)) last f i = some (((cutN (a + b + c) wide : Nat) : Int), ((addF a b c wide : Nat) : Int)) := by
  obtain ⟨sz0, sz1⟩ := sz_b wide
  induction d with
  | zero =>
    intro i k last f hi hk hl hf
    obtain ⟨k, rfl⟩ : ∃ m, k = m + 1 := ⟨k - 1, by omega⟩
    obtain rfl : i = szN wide := by omega
    have c1 := carryN_le a b c (szN wide) hc
    have c2 := carryN_le a b c (szN wide - 1) hc
    rw [if_neg (by omega)] at hl
    simp only [hansomref08_Add.l0, size_f, Option.bind_some]
    rw [if_neg (by omega)]
    have hf2 : f = if carryN a b c 4 = 1 then 16 else 0 := by
      rw [hf]; by_cases h : carryN a b c 4 = 1
      · rw [if_pos ⟨by omega, h⟩, if_pos h]
      · rw [if_neg (fun q => h q.2), if_neg h]
    have hfl : f ≤ 16 := by rw [hf2]; split <;> omega
    have hA : addF a b c wide = f + (if carryN a b c (szN wide) = 1 then 1 else 0) + (if carryN a b c (szN wide) = last then 0 else 2048) + signsN (cutN (a + b + c) wide) wide := by unfold addF; rw [← hf2, ← hl]
    rw [hA]
    by_cases h : carryN a b c (szN wide) = 1
    · rw [if_pos (by omega), if_pos h, w16 (by omega) (by omega)]
      have := add_j (a + b + c) wide (carryN a b c (szN wide)) last (f + 1) k (by omega) (by omega) (by omega) (by omega)
      rw [← this]; rfl
    · rw [if_neg (by omega), if_neg h]
      have := add_j (a + b + c) wide (carryN a b c (szN wide)) last f k (by omega) (by omega) (by omega) (by omega)
      rw [this, Nat.add_zero]
  | succ d ih =>
    intro i k last f hi hk hl hf
    obtain ⟨k, rfl⟩ : ∃ m, k = m + 1 := ⟨k - 1, by omega⟩
    have c1 := carryN_le a b c i hc
    have cs := carryN_succ a b c i
    have sb := sum_bit a b c i
    have hfl : f ≤ 16 := by rw [hf]; split <;> omega
    have hlen : (ints (bitsL (a + b + c) i)).length = i := by rw [ints_len, bitsL_len]
    have h := ih (i + 1) k (carryN a b c i) (if 4 ≤ i + 1 ∧ carryN a b c 4 = 1 then 16 else 0) (by omega) (by omega) (by simp) rfl
    rw [bitsL_succ, ints_append, sb, cs] at h
    simp only [hansomref08_Add.l0, size_f, Option.bind_some]
    rw [if_pos (by omega), bit_f a i k ha (by omega) (by omega), Option.bind_some, bit_f b i k hb (by omega) (by omega), Option.bind_some, if_pos (by rw [hlen]; omega)]
    try simp only [Option.bind_some]
    rw [w64 (a := ((a / 2 ^ i % 2 : Nat) : Int) + ((b / 2 ^ i % 2 : Nat) : Int)) (by omega) (by omega), w64 (a := ((a / 2 ^ i % 2 : Nat) : Int) + ((b / 2 ^ i % 2 : Nat) : Int) + ((carryN a b c i : Nat) : Int)) (by omega) (by omega), td _ _ (by omega), tm _ _ (by omega), w64 (a := (((a / 2 ^ i % 2 : Nat) : Int) + ((b / 2 ^ i % 2 : Nat) : Int) + ((carryN a b c i : Nat) : Int)) / 2) (by omega) (by omega), w64 (a := (i : Int) + 1) (by omega) (by omega)]
    have hc4 : i = 3 → carryN a b c 4 = (a / 2 ^ i % 2 + b / 2 ^ i % 2 + carryN a b c i) / 2 := fun e => by subst e; exact cs
    generalize a / 2 ^ i % 2 = α at *
    generalize b / 2 ^ i % 2 = β at *
    generalize carryN a b c i = γ at *
    have e1 : ((α : Int) + β + γ) / 2 = (((α + β + γ) / 2 : Nat) : Int) := by omega
    have e2 : ((α : Int) + β + γ) % 2 = (((α + β + γ) % 2 : Nat) : Int) := by omega
    rw [e1, e2]
    by_cases h3 : i = 3
    · rw [if_pos (by omega)]
      have h4 := hc4 h3
      by_cases h1 : (α + β + γ) / 2 = 1
      · rw [if_pos (by omega)]
        rw [if_pos ⟨by omega, by omega⟩] at h
        rw [if_neg (by omega)] at hf
        rw [hf, w16 (by omega) (by omega)]
        exact h
      · rw [if_neg (by omega)]
        rw [if_neg (by omega)] at h
        rw [if_neg (by omega)] at hf
        rw [hf]
        exact h
    · rw [if_neg (by omega)]
      have : f = if 4 ≤ i + 1 ∧ carryN a b c 4 = 1 then 16 else 0 := by
        rw [hf]
        by_cases q : 4 ≤ i
        · have : 4 ≤ i + 1 := by omega
          simp [q, this]
        · rw [if_neg (by omega), if_neg (by omega)]
      rw [this]
      exact h
theorem add_f (a b c : Nat) (wide : Bool) (ha : a < 65536) (hb : b < 65536) (hc : c ≤ 1) (k : Nat) (hk : 80 ≤ k) : hansomref08_Add.f k a b c wide = some (((cutN (a + b + c) wide : Nat) : Int), ((addF a b c wide : Nat) : Int)) := by
  have h := add_l a b c wide ha hb hc (szN wide) 0 k c 0 (by omega) (by have := sz_b wide; omega) (by simp) (by simp)
  rw [carryN_zero] at h
  unfold hansomref08_Add.f
  exact h

/-! ### differences: sums with what is left to 65535 -/
def cmpl (b : Nat) : Nat := 65535 - b
theorem testBit_div (x i : Nat) : x.testBit i = decide (x / 2 ^ i % 2 = 1) := Nat.testBit_eq_decide_div_mod_eq
theorem cmpl_bit (b i : Nat) (hb : b < 65536) (hi : i < 16) : cmpl b / 2 ^ i % 2 = 1 - b / 2 ^ i % 2 := by
  have h := Nat.testBit_two_pow_sub_succ (x := b) (n := 16) (by omega) i
  have e : 2 ^ 16 - (b + 1) = cmpl b := by unfold cmpl; omega
  rw [e, testBit_div, testBit_div] at h
  have h1 := Nat.mod_two_eq_zero_or_one (cmpl b / 2 ^ i)
  have h2 := Nat.mod_two_eq_zero_or_one (b / 2 ^ i)
  rcases h1 with h1 | h1 <;> rcases h2 with h2 | h2 <;> rw [h1, h2] at h <;> simp [hi] at h <;> omega
def borN (a b c i : Nat) : Nat := 1 - carryN a (cmpl b) (1 - c) i
theorem borN_zero (a b c : Nat) (hc : c ≤ 1) : borN a b c 0 = c := by unfold borN; rw [carryN_zero]; omega
theorem borN_le (a b c i : Nat) : borN a b c i ≤ 1 := by unfold borN; omega
def subS (a b c : Nat) : Nat := a + cmpl b + (1 - c)
/-- One bit's difference: what is lent, and the digit. -/
theorem bor_step (a b c i : Nat) (hb : b < 65536) (hi : i < 16) (hc : c ≤ 1) : (borN a b c (i + 1) : Int) = (if (((a / 2 ^ i % 2 : Nat) : Int) - ((b / 2 ^ i % 2 : Nat) : Int) - (borN a b c i : Int)) < 0 then 1 else 0) ∧
    ((subS a b c / 2 ^ i % 2 : Nat) : Int) = ((a / 2 ^ i % 2 : Nat) : Int) - ((b / 2 ^ i % 2 : Nat) : Int) - (borN a b c i : Int) + 2 * (borN a b c (i + 1) : Int) := by
  have c1 := carryN_le a (cmpl b) (1 - c) i (by omega)
  have cs := carryN_succ a (cmpl b) (1 - c) i
  have sb := sum_bit a (cmpl b) (1 - c) i
  rw [cmpl_bit b i hb hi] at cs sb
  unfold subS borN
  rw [sb, cs]
  generalize carryN a (cmpl b) (1 - c) i = γ at *
  have h1 := Nat.mod_two_eq_zero_or_one (a / 2 ^ i)
  have h2 := Nat.mod_two_eq_zero_or_one (b / 2 ^ i)
  generalize a / 2 ^ i % 2 = α at *
  generalize b / 2 ^ i % 2 = β at *
  have h3 : γ = 0 ∨ γ = 1 := by omega
  rcases h1 with rfl | rfl <;> rcases h2 with rfl | rfl <;> rcases h3 with rfl | rfl <;> decide
def subF (a b c : Nat) (wide : Bool) : Nat := (if borN a b c 4 = 1 then 16 else 0) + (if borN a b c (szN wide) = 1 then 1 else 0) + (if borN a b c (szN wide) = borN a b c (szN wide - 1) then 0 else 2048) + signsN (cutN (subS a b c) wide) wide
theorem sub_j (s : Nat) (wide : Bool) (x2 x11 x12 k : Nat) (h2 : x2 < 10) (h11 : x11 < 10) (h12 : x12 < 100) (hk : 40 ≤ k) :
    hansomref08_Sub.j2 k x2 wide (ints (bitsL s (szN wide))) x11 x12 = some (((cutN s wide : Nat) : Int), ((x12 + (if x2 = x11 then 0 else 2048) + signsN (cutN s wide) wide : Nat) : Int)) := by
  obtain ⟨k, rfl⟩ : ∃ m, k = m + 1 := ⟨k - 1, by omega⟩
  have hof := of_f (bitsL s (szN wide)) (bitsL_lt _ _) (by rw [bitsL_len]; exact (sz_b wide).2) k (by omega)
  rw [ofN_bitsL, ← MM_pow] at hof
  have hcut := cutN_lt s wide
  have hs := signs_f (cutN s wide) k wide hcut (by omega)
  have hsl := signsN_le (cutN s wide) wide
  have hs' : hansomref08_Signs.f k ((s % MM wide : Nat) : Int) wide = some ((signsN (cutN s wide) wide : Nat) : Int) := hs
  simp only [hansomref08_Sub.j2, hof, Option.bind_some, hs']
  generalize signsN (cutN s wide) wide = G at *
  by_cases h : x2 = x11
  · rw [if_pos (by omega), if_pos h, w16 (by omega) (by omega)]; rfl
  · rw [if_neg (by omega), if_neg h, w16 (a := (x12 : Int) + 2048) (by omega) (by omega), w16 (by omega) (by omega)]; rfl
/-- The inner rounds: what is below 0 is made 0 or 1, and one is lent. -/
theorem sub_in (a b : Int) (wide : Bool) (L : List Int) (last f i : Int) (D : Int) (hL : L.length < 20) (h0 : -2 ≤ D) (h1 : D ≤ 1) (k : Nat) :
    hansomref08_Sub.l1 (k + 2) a b 0 wide L last f i D = (if D < 0 then hansomref08_Sub.l1 (k + 1) a b 1 wide L last f i (D + 2) else hansomref08_Sub.l1 (k + 2) a b 0 wide L last f i D) := by
  by_cases h : D < 0
  · rw [if_pos h]
    conv => lhs; simp only [hansomref08_Sub.l1]
    rw [if_pos h, w64 (a := 0 + 1) (by omega) (by omega), w64 (a := D + 2) (by omega) (by omega)]
    rfl
  · rw [if_neg h]
theorem sub_out (a b : Int) (wide : Bool) (L : List Int) (last f i : Int) (c D : Int) (hL : L.length < 20) (h0 : 0 ≤ D) (hi0 : 0 ≤ i) (hi1 : i < 100) (k : Nat) :
    hansomref08_Sub.l1 (k + 1) a b c wide L last f i D = hansomref08_Sub.l0 k a b c wide (L ++ [D]) last (if i = 3 ∧ c = 1 then IntKind.u16.wrap (f + 16) else f) (i + 1) := by
  conv => lhs; simp only [hansomref08_Sub.l1]
  rw [if_neg (by omega), if_pos (by omega), w64 (a := i + 1) (by omega) (by omega)]
  try simp only [Option.bind_some]
  by_cases h3 : i = 3
  · rw [if_pos h3]
    by_cases hc : c = 1
    · rw [if_pos hc, if_pos ⟨h3, hc⟩]
    · rw [if_neg hc, if_neg (fun q => hc q.2)]
  · rw [if_neg h3, if_neg (fun q => h3 q.1)]
theorem sub_l (a b c : Nat) (wide : Bool) (ha : a < 65536) (hb : b < 65536) (hc : c ≤ 1) (d : Nat) : ∀ (i k last f : Nat), i + d = szN wide → 60 + 5 * d ≤ k → (last = if i = 0 then c else borN a b c (i - 1)) → (f = if 4 ≤ i ∧ borN a b c 4 = 1 then 16 else 0) →
    hansomref08_Sub.l0 k a b (borN a b c i : Nat) wide (ints (bitsL (subS a b c) i)) last f i = some (((cutN (subS a b c) wide : Nat) : Int), ((subF a b c wide : Nat) : Int)) := by
  obtain ⟨sz0, sz1⟩ := sz_b wide
  induction d with
  | zero =>
    intro i k last f hi hk hl hf
    obtain ⟨k, rfl⟩ : ∃ m, k = m + 1 := ⟨k - 1, by omega⟩
    obtain rfl : i = szN wide := by omega
    have c1 := borN_le a b c (szN wide)
    have c2 := borN_le a b c (szN wide - 1)
    rw [if_neg (by omega)] at hl
    simp only [hansomref08_Sub.l0, size_f, Option.bind_some]
    rw [if_neg (by omega)]
    have hf2 : f = if borN a b c 4 = 1 then 16 else 0 := by
      rw [hf]; by_cases h : borN a b c 4 = 1
      · rw [if_pos ⟨by omega, h⟩, if_pos h]
      · rw [if_neg (fun q => h q.2), if_neg h]
    have hfl : f ≤ 16 := by rw [hf2]; split <;> omega
    have hA : subF a b c wide = f + (if borN a b c (szN wide) = 1 then 1 else 0) + (if borN a b c (szN wide) = last then 0 else 2048) + signsN (cutN (subS a b c) wide) wide := by unfold subF; rw [← hf2, ← hl]
    rw [hA]
    by_cases h : borN a b c (szN wide) = 1
    · rw [if_pos (by omega), if_pos h, w16 (by omega) (by omega)]
      have := sub_j (subS a b c) wide (borN a b c (szN wide)) last (f + 1) k (by omega) (by omega) (by omega) (by omega)
      rw [← this]; rfl
    · rw [if_neg (by omega), if_neg h]
      have := sub_j (subS a b c) wide (borN a b c (szN wide)) last f k (by omega) (by omega) (by omega) (by omega)
      rw [this, Nat.add_zero]
  | succ d ih =>
    intro i k last f hi hk hl hf
    obtain ⟨k, rfl⟩ : ∃ m, k = m + 4 := ⟨k - 4, by omega⟩
    have c1 := borN_le a b c i
    obtain ⟨b1, b2⟩ := bor_step a b c i hb (by omega) hc
    have hfl : f ≤ 16 := by rw [hf]; split <;> omega
    have hlen : (ints (bitsL (subS a b c) i)).length = i := by rw [ints_len, bitsL_len]
    have h : ∀ k', 60 + 5 * d ≤ k' → _ := fun k' hk' => ih (i + 1) k' (borN a b c i) (if 4 ≤ i + 1 ∧ borN a b c 4 = 1 then 16 else 0) (by omega) hk' (by simp) rfl
    rw [bitsL_succ, ints_append, b2] at h
    simp only [hansomref08_Sub.l0, size_f, Option.bind_some]
    rw [if_pos (by omega), bit_f a i (k + 3) ha (by omega) (by omega), Option.bind_some, bit_f b i (k + 3) hb (by omega) (by omega), Option.bind_some]
    rw [w64 (a := ((a / 2 ^ i % 2 : Nat) : Int) - ((b / 2 ^ i % 2 : Nat) : Int)) (by omega) (by omega), w64 (a := ((a / 2 ^ i % 2 : Nat) : Int) - ((b / 2 ^ i % 2 : Nat) : Int) - ((borN a b c i : Nat) : Int)) (by omega) (by omega)]
    have hd0 : -2 ≤ ((a / 2 ^ i % 2 : Nat) : Int) - ((b / 2 ^ i % 2 : Nat) : Int) - ((borN a b c i : Nat) : Int) := by omega
    have hd1 : ((a / 2 ^ i % 2 : Nat) : Int) - ((b / 2 ^ i % 2 : Nat) : Int) - ((borN a b c i : Nat) : Int) ≤ 1 := by omega
    have h4 : i = 3 → borN a b c 4 = borN a b c (i + 1) := fun e => by subst e; rfl
    generalize ((a / 2 ^ i % 2 : Nat) : Int) - ((b / 2 ^ i % 2 : Nat) : Int) - ((borN a b c i : Nat) : Int) = D at *
    have hff : ∀ C : Int, C = (borN a b c (i + 1) : Int) → (if (i : Int) = 3 ∧ C = 1 then IntKind.u16.wrap ((f : Int) + 16) else (f : Int)) = ((if 4 ≤ i + 1 ∧ borN a b c 4 = 1 then 16 else 0 : Nat) : Int) := by
      intro C hC
      by_cases h3 : i = 3
      · have e4 := h4 h3
        rw [if_neg (by omega)] at hf
        by_cases q : C = 1
        · rw [if_pos ⟨by omega, q⟩, if_pos ⟨by omega, by omega⟩, hf, w16 (by omega) (by omega)]; rfl
        · rw [if_neg (fun z => q z.2), if_neg (fun z => q (by omega)), hf]
      · rw [if_neg (fun z => h3 (by omega)), hf]
        by_cases q : 4 ≤ i
        · have : 4 ≤ i + 1 := by omega
          simp [q, this]
        · rw [if_neg (by omega), if_neg (by omega)]
    by_cases hD : D < 0
    · rw [if_pos hD] at b1
      rw [sub_in _ _ _ _ _ _ _ _ (by rw [hlen]; omega) hd0 hd1 (k + 1), if_pos hD, sub_out _ _ _ _ _ _ _ _ _ (by rw [hlen]; omega) (by omega) (by omega) (by omega) (k + 1)]
      rw [hff 1 b1.symm]
      have := h (k + 1) (by omega)
      rw [b1] at this
      rw [show D + 2 * 1 = D + 2 by omega] at this
      exact this
    · rw [if_neg hD] at b1
      rw [sub_out _ _ _ _ _ _ _ _ _ (by rw [hlen]; omega) (by omega) (by omega) (by omega) (k + 2)]
      rw [hff 0 b1.symm]
      have := h (k + 2) (by omega)
      rw [b1] at this
      rw [show D + 2 * 0 = D by omega] at this
      exact this
theorem sub_f (a b c : Nat) (wide : Bool) (ha : a < 65536) (hb : b < 65536) (hc : c ≤ 1) (k : Nat) (hk : 200 ≤ k) : hansomref08_Sub.f k a b c wide = some (((cutN (subS a b c) wide : Nat) : Int), ((subF a b c wide : Nat) : Int)) := by
  have h := sub_l a b c wide ha hb hc (szN wide) 0 k c 0 (by omega) (by have := sz_b wide; omega) (by simp) (by simp)
  rw [borN_zero a b c hc] at h
  unfold hansomref08_Sub.f
  exact h

/-! ### bit by bit -/
theorem each_l (x y s : Nat) (least : Int) (odd : Bool) (hx : x < 65536) (hy : y < 65536) (hl0 : 0 ≤ least) (hl1 : least < 10)
    (hs : ∀ i, i < 16 → s / 2 ^ i % 2 = (if odd then (if x / 2 ^ i % 2 + y / 2 ^ i % 2 = 1 then 1 else 0) else (if ((x / 2 ^ i % 2 : Nat) : Int) + ((y / 2 ^ i % 2 : Nat) : Int) ≥ least then 1 else 0))) (d : Nat) :
    ∀ (i k : Nat), i + d = 16 → 40 + d ≤ k → hansomref08_each.l0 k x y least odd (ints (bitsL s i)) i = some ((s % 65536 : Nat) : Int) := by
  induction d with
  | zero =>
    intro i k hi hk
    obtain ⟨k, rfl⟩ : ∃ m, k = m + 1 := ⟨k - 1, by omega⟩
    obtain rfl : i = 16 := by omega
    have hof := of_f (bitsL s 16) (bitsL_lt _ _) (by rw [bitsL_len]; omega) k (by omega)
    rw [ofN_bitsL] at hof
    simp only [hansomref08_each.l0]
    rw [if_neg (by omega), hof]
    rfl
  | succ d ih =>
    intro i k hi hk
    obtain ⟨k, rfl⟩ : ∃ m, k = m + 1 := ⟨k - 1, by omega⟩
    have hlen : (ints (bitsL s i)).length = i := by rw [ints_len, bitsL_len]
    have h := ih (i + 1) k (by omega) (by omega)
    rw [bitsL_succ, ints_append, hs i (by omega)] at h
    simp only [hansomref08_each.l0]
    rw [if_pos (by omega), bit_f x i k hx (by omega) (by omega), Option.bind_some, bit_f y i k hy (by omega) (by omega), Option.bind_some, w64 (a := ((x / 2 ^ i % 2 : Nat) : Int) + ((y / 2 ^ i % 2 : Nat) : Int)) (by omega) (by omega), w64 (a := (i : Int) + 1) (by omega) (by omega)]
    have hl2 : (ints (bitsL s i)).length < 17592186044416 := by rw [hlen]; omega
    simp only [if_pos hl2]
    generalize x / 2 ^ i % 2 = α at *
    generalize y / 2 ^ i % 2 = β at *
    cases odd
    · simp only [Bool.false_eq_true, if_false] at h ⊢
      by_cases q : (α : Int) + β ≥ least
      · rw [if_pos q] at h ⊢; exact h
      · rw [if_neg q] at h ⊢; exact h
    · simp only [if_true] at h ⊢
      by_cases q : α + β = 1
      · rw [if_pos q] at h; rw [if_pos (by omega)]; exact h
      · rw [if_neg q] at h; rw [if_neg (by omega)]; exact h
theorem bit_or (x y i : Nat) : (x ||| y) / 2 ^ i % 2 = if ((x / 2 ^ i % 2 : Nat) : Int) + ((y / 2 ^ i % 2 : Nat) : Int) ≥ 1 then 1 else 0 := by
  have h := Nat.testBit_or x y i
  rw [testBit_div, testBit_div, testBit_div] at h
  have h1 := Nat.mod_two_eq_zero_or_one ((x ||| y) / 2 ^ i)
  have h2 := Nat.mod_two_eq_zero_or_one (x / 2 ^ i)
  have h3 := Nat.mod_two_eq_zero_or_one (y / 2 ^ i)
  rcases h1 with h1 | h1 <;> rcases h2 with h2 | h2 <;> rcases h3 with h3 | h3 <;> rw [h1, h2, h3] at h <;> rw [h1, h2, h3] <;> simp at h ⊢
theorem bit_and (x y i : Nat) : (x &&& y) / 2 ^ i % 2 = if ((x / 2 ^ i % 2 : Nat) : Int) + ((y / 2 ^ i % 2 : Nat) : Int) ≥ 2 then 1 else 0 := by
  have h := Nat.testBit_and x y i
  rw [testBit_div, testBit_div, testBit_div] at h
  have h1 := Nat.mod_two_eq_zero_or_one ((x &&& y) / 2 ^ i)
  have h2 := Nat.mod_two_eq_zero_or_one (x / 2 ^ i)
  have h3 := Nat.mod_two_eq_zero_or_one (y / 2 ^ i)
  rcases h1 with h1 | h1 <;> rcases h2 with h2 | h2 <;> rcases h3 with h3 | h3 <;> rw [h1, h2, h3] at h <;> rw [h1, h2, h3] <;> simp at h ⊢
theorem bit_xor (x y i : Nat) : (x ^^^ y) / 2 ^ i % 2 = if x / 2 ^ i % 2 + y / 2 ^ i % 2 = 1 then 1 else 0 := by
  have h := Nat.testBit_xor x y i
  rw [testBit_div, testBit_div, testBit_div] at h
  have h1 := Nat.mod_two_eq_zero_or_one ((x ^^^ y) / 2 ^ i)
  have h2 := Nat.mod_two_eq_zero_or_one (x / 2 ^ i)
  have h3 := Nat.mod_two_eq_zero_or_one (y / 2 ^ i)
  rcases h1 with h1 | h1 <;> rcases h2 with h2 | h2 <;> rcases h3 with h3 | h3 <;> rw [h1, h2, h3] at h <;> rw [h1, h2, h3] <;> simp at h ⊢
theorem each_or (x y k : Nat) (hx : x < 65536) (hy : y < 65536) (hk : 60 ≤ k) : hansomref08_each.f k x y 1 false = some ((x ||| y : Nat) : Int) := by
  have := each_l x y (x ||| y) 1 false hx hy (by omega) (by omega) (fun i _ => by simpa using bit_or x y i) 16 0 k (by omega) (by omega)
  rw [Nat.mod_eq_of_lt (Nat.or_lt_two_pow (n := 16) hx hy)] at this
  exact this
theorem each_and (x y k : Nat) (hx : x < 65536) (hy : y < 65536) (hk : 60 ≤ k) : hansomref08_each.f k x y 2 false = some ((x &&& y : Nat) : Int) := by
  have := each_l x y (x &&& y) 2 false hx hy (by omega) (by omega) (fun i _ => by simpa using bit_and x y i) 16 0 k (by omega) (by omega)
  rw [Nat.mod_eq_of_lt (Nat.and_lt_two_pow (n := 16) _ hy)] at this
  exact this
theorem each_xor (x y k : Nat) (hx : x < 65536) (hy : y < 65536) (hk : 60 ≤ k) : hansomref08_each.f k x y 0 true = some ((x ^^^ y : Nat) : Int) := by
  have := each_l x y (x ^^^ y) 0 true hx hy (by omega) (by omega) (fun i _ => by simpa using bit_xor x y i) 16 0 k (by omega) (by omega)
  rw [Nat.mod_eq_of_lt (Nat.xor_lt_two_pow (n := 16) hx hy)] at this
  exact this

/-! ### what two numbers come to -/
def doN (name : Int) (x y : Nat) (carry wide : Bool) : Nat × Nat × Bool :=
  if name = 1 then (cutN (cutN x wide + cutN y wide + 0) wide, addF (cutN x wide) (cutN y wide) 0 wide, true)
  else if name = 3 then (cutN (cutN x wide + cutN y wide + carry.toNat) wide, addF (cutN x wide) (cutN y wide) carry.toNat wide, true)
  else if name = 6 ∨ name = 8 then (cutN (subS (cutN x wide) (cutN y wide) 0) wide, subF (cutN x wide) (cutN y wide) 0 wide, true)
  else if name = 4 then (cutN (subS (cutN x wide) (cutN y wide) carry.toNat) wide, subF (cutN x wide) (cutN y wide) carry.toNat wide, true)
  else if name = 2 then (cutN x wide ||| cutN y wide, signsN (cutN x wide ||| cutN y wide) wide, true)
  else if name = 5 ∨ name = 33 then (cutN x wide &&& cutN y wide, signsN (cutN x wide &&& cutN y wide) wide, true)
  else if name = 7 then (cutN x wide ^^^ cutN y wide, signsN (cutN x wide ^^^ cutN y wide) wide, true)
  else (0, 0, false)
theorem do_f (name : Int) (x y : Nat) (carry wide : Bool) (hx : x < 65536) (hy : y < 65536) (k : Nat) (hk : 300 ≤ k) :
    hansomref08_Do.f k name x y carry wide = some ((((doN name x y carry wide).1 : Nat) : Int), (((doN name x y carry wide).2.1 : Nat) : Int), (doN name x y carry wide).2.2) := by
  obtain ⟨k, rfl⟩ : ∃ m, k = m + 3 := ⟨k - 3, by omega⟩
  have ha := cutN_lt x wide
  have hb := cutN_lt y wide
  have key : hansomref08_Do.f (k + 3) name x y carry wide = hansomref08_Do.j0 (k + 3) name wide (cutN x wide : Nat) (cutN y wide : Nat) (carry.toNat : Nat) := by
    unfold hansomref08_Do.f
    rw [cut_f x wide hx, Option.bind_some, cut_f y wide hy, Option.bind_some]
    cases carry <;> rfl
  rw [key]
  have hc : carry.toNat ≤ 1 := Bool.toNat_le carry
  unfold doN
  generalize cutN x wide = a at *
  generalize cutN y wide = b at *
  generalize carry.toNat = c at *
  have A0 : hansomref08_Add.f (k + 2) (a : Int) (b : Int) 0 wide = some (((cutN (a + b + 0) wide : Nat) : Int), ((addF a b 0 wide : Nat) : Int)) := add_f a b 0 wide ha hb (by omega) _ (by omega)
  have A1 := add_f a b c wide ha hb hc (k + 2) (by omega)
  have S0 : hansomref08_Sub.f (k + 1) (a : Int) (b : Int) 0 wide = some (((cutN (subS a b 0) wide : Nat) : Int), ((subF a b 0 wide : Nat) : Int)) := sub_f a b 0 wide ha hb (by omega) _ (by omega)
  have S1 := sub_f a b c wide ha hb hc (k + 1) (by omega)
  have E1 := each_or a b (k + 1) ha hb (by omega)
  have E2 := each_and a b k ha hb (by omega)
  have E3 := each_xor a b k ha hb (by omega)
  have G1 := signs_f (a ||| b) (k + 1) wide (Nat.or_lt_two_pow (n := 16) ha hb) (by omega)
  have G2 := signs_f (a &&& b) k wide (Nat.and_lt_two_pow (n := 16) _ hb) (by omega)
  have G3 := signs_f (a ^^^ b) k wide (Nat.xor_lt_two_pow (n := 16) ha hb) (by omega)
  simp only [hansomref08_Do.j0, hansomref08_Do.j1, hansomref08_Do.j2, A0, A1, S0, S1, E1, E2, E3, G1, G2, G3, Option.bind_some]
  by_cases n1 : name = 1
  · subst n1; rfl
  by_cases n3 : name = 3
  · subst n3; rfl
  by_cases n6 : name = 6
  · subst n6; rfl
  by_cases n8 : name = 8
  · subst n8; rfl
  by_cases n4 : name = 4
  · subst n4; rfl
  by_cases n2 : name = 2
  · subst n2; rfl
  by_cases n5 : name = 5
  · subst n5; rfl
  by_cases n33 : name = 33
  · subst n33; rfl
  by_cases n7 : name = 7
  · subst n7; rfl
  simp [n1, n3, n6, n8, n4, n2, n5, n33, n7]
end Go.Proofs.Ytefdfcdgghoknaa.My
