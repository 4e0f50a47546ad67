/- The walk of the law FloatLess, one theorem for each pair of signs. -/
import Derived.BigQuiet
import Derived.Test.YtdhingmjnhhjnaaFloatT
import Derived.Test.YtdhingmjnhhjnaaFloatQ
namespace Go.Proofs.Ytdhingmjnhhjnaa.My
open Go.RowKit Go.Proofs.YtdhingmjnhhjnaaW.PrintWords Go.Proofs.YtdhingmjnhhjnaaW.PrintLast Go.Proofs.YtdhingmjnhhjnaaW.PrintMore
set_option linter.unusedVariables false
set_option linter.unusedSimpArgs false
theorem less_v (a b : Int) (B : Bool) (h : (ordF a.toNat b.toNat == some .lt) = B) (w : World) : Calls Try.prog 16 #[.int .u64 a, .int .u64 b] w fun e w' => e = .returned (.bool B) ∧ w = w' := by
  rw [← h]; exact less_c a b w
theorem nan_l_v (P : Nat) : (ordF (9221120237041090560 : Int).toNat (P : Int).toNat == some .lt) = false := by
  rw [show (9221120237041090560 : Int).toNat = 9221120237041090560 from rfl, ord_nan_l]; rfl
theorem nan_r_v (P : Nat) : (ordF (P : Int).toNat (9221120237041090560 : Int).toNat == some .lt) = false := by
  rw [show (9221120237041090560 : Int).toNat = 9221120237041090560 from rfl, ord_nan_r]; rfl
theorem inf_v (P : Nat) (h : (ordF P 9218868437227405312 == some .lt) = true) : (ordF (P : Int).toNat (9218868437227405312 : Int).toNat == some .lt) = true := by
  rw [show (9218868437227405312 : Int).toNat = 9218868437227405312 from rfl, Int.toNat_natCast]; exact h
set_option maxRecDepth 100000 in
set_option maxHeartbeats 4000000 in
theorem fl_0 (a0 a1 b0 b1 sign : Int) (x y v u L R : Nat) (P Q : Nat) (hx : Go.bits .and .u64 a0 16777215 = (x : Int)) (hy : Go.bits .and .u64 a1 16777215 = (y : Int)) (hv : Go.bits .and .u64 b0 16777215 = (v : Int)) (hu : Go.bits .and .u64 b1 16777215 = (u : Int))
    (wa0 : IntKind.u64.wrap a0 = a0) (wa1 : IntKind.u64.wrap a1 = a1) (wb0 : IntKind.u64.wrap b0 = b0) (wb1 : IntKind.u64.wrap b1 = b1) (wy : IntKind.u64.wrap ((y : Int) + 1) = (y : Int) + 1) (wu : IntKind.u64.wrap ((u : Int) + 1) = (u : Int) + 1)
    (x2 : x ≤ 16777215) (y2 : y ≤ 16777215) (v2 : v ≤ 16777215) (u2 : u ≤ 16777215) (k1 : Go.bits .and .i64 sign 1 = 0) (k2 : Go.bits .and .i64 sign 2 = 0) (k3 : Go.bits .and .i64 sign 3 = 0)
    (hL : (x : Int) * ((u : Int) + 1) = (L : Int)) (hR : (v : Int) * ((y : Int) + 1) = (R : Int)) (L2 : L ≤ 281474976710656) (R2 : R ≤ 281474976710656)
    (QP : ∀ w, Calls Try.prog 14 #[.bool false, .int .u64 x, .int .u64 ((y : Int) + 1)] w fun e w' => e = .returned (.int .u64 (P : Int)) ∧ w = w')
    (QQ : ∀ w, Calls Try.prog 14 #[.bool false, .int .u64 v, .int .u64 ((u : Int) + 1)] w fun e w' => e = .returned (.int .u64 (Q : Int)) ∧ w = w')
    (hB : (ordF P Q == some .lt) = decide (L < R)) (hI : (ordF P 9218868437227405312 == some .lt) = true) (w : World) :
    Calls Try.prog 4 #[.agg #[.int .u32 a0, .int .u32 a1], .agg #[.int .u32 b0, .int .u32 b1], .int .i64 sign] w fun e w' => e = .returned (.bool true) ∧ Below w.heap.size w w' := by
  have BB := Aside0.mk (((Below.refl w.heap.size w).alloc (Nat.le_refl _) (.cells #[.int .u32 a0, .int .u32 a1] 29)).alloc (Nat.le_of_lt (by simp)) (.cells #[.int .u32 b0, .int .u32 b1] 29))
  rcases (show L < R ∨ R ≤ L by omega) with hA | hA
  · have hB2 : (ordF P Q == some .lt) = true := hB.trans (by first | rfl | (simp; omega) | (simp; done))
    clear hB
    have L1 := Aside0.mk (less_v (P : Int) (Q : Int) true (by rw [Int.toNat_natCast, Int.toNat_natCast]; exact hB2))
    have L2' := Aside0.mk (less_v 9221120237041090560 (P : Int) false (nan_l_v P))
    have L3 := Aside0.mk (less_v (P : Int) 9221120237041090560 false (nan_r_v P))
    have L4 := Aside0.mk (less_v (P : Int) 9218868437227405312 true (inf_v P hI))
    have L5 := Aside0.mk (less_v 9223372036854775808 0 false (by decide +kernel))
    have L6 := Aside0.mk (less_v 0 9223372036854775808 false (by decide +kernel))
    have q3 := Aside0.mk (quot_c false 1 0 1 0 _ 9218868437227405312 rfl rfl rfl (by decide +kernel) (by decide +kernel) (by decide +kernel))
    have AP := Aside0.mk QP
    have AQ := Aside0.mk QQ
    clear QP QQ hB2 hI
    go_enter Try.func4, Try.ntmps4
    go_wp2_with fail
    go_quiet (fail)
    go_wp2_with fail
    go_quiet (fail)
    go_wp2_with fail
    clear wa0 wa1 wb0 wb1 wy wu hx hy hv hu
    go_wp2_with (first
      | (go_at_call 13; (with_reducible refine (awake35_c _).mono ?_); rintro e w' ⟨rfl, ⟨nd, rfl⟩⟩)
      | (go_at_call 14; (first | (with_reducible refine (AP.out _).mono ?_) | (with_reducible refine (AQ.out _).mono ?_) | (with_reducible refine (q3.out _).mono ?_)); rintro e w' ⟨rfl, rfl⟩)
      | (go_at_call 16; (first | (with_reducible refine (L2'.out _).mono ?_) | (with_reducible refine (L3.out _).mono ?_) | (with_reducible refine (L4.out _).mono ?_) | (with_reducible refine (L5.out _).mono ?_) | (with_reducible refine (L6.out _).mono ?_) | (with_reducible refine (L1.out _).mono ?_)); rintro e w' ⟨rfl, rfl⟩))
    
    go_ret
    exact ⟨by first | rfl | exact rb (by simp <;> omega), by repeat (first | exact BB.out | apply below_drew1 | apply pw_below_drewN)⟩
  · have hB2 : (ordF P Q == some .lt) = false := hB.trans (by first | rfl | (simp; omega) | (simp; done))
    clear hB
    have L1 := Aside0.mk (less_v (P : Int) (Q : Int) false (by rw [Int.toNat_natCast, Int.toNat_natCast]; exact hB2))
    have L2' := Aside0.mk (less_v 9221120237041090560 (P : Int) false (nan_l_v P))
    have L3 := Aside0.mk (less_v (P : Int) 9221120237041090560 false (nan_r_v P))
    have L4 := Aside0.mk (less_v (P : Int) 9218868437227405312 true (inf_v P hI))
    have L5 := Aside0.mk (less_v 9223372036854775808 0 false (by decide +kernel))
    have L6 := Aside0.mk (less_v 0 9223372036854775808 false (by decide +kernel))
    have q3 := Aside0.mk (quot_c false 1 0 1 0 _ 9218868437227405312 rfl rfl rfl (by decide +kernel) (by decide +kernel) (by decide +kernel))
    have AP := Aside0.mk QP
    have AQ := Aside0.mk QQ
    clear QP QQ hB2 hI
    go_enter Try.func4, Try.ntmps4
    go_wp2_with fail
    go_quiet (fail)
    go_wp2_with fail
    go_quiet (fail)
    go_wp2_with fail
    clear wa0 wa1 wb0 wb1 wy wu hx hy hv hu
    go_wp2_with (first
      | (go_at_call 13; (with_reducible refine (awake35_c _).mono ?_); rintro e w' ⟨rfl, ⟨nd, rfl⟩⟩)
      | (go_at_call 14; (first | (with_reducible refine (AP.out _).mono ?_) | (with_reducible refine (AQ.out _).mono ?_) | (with_reducible refine (q3.out _).mono ?_)); rintro e w' ⟨rfl, rfl⟩)
      | (go_at_call 16; (first | (with_reducible refine (L2'.out _).mono ?_) | (with_reducible refine (L3.out _).mono ?_) | (with_reducible refine (L4.out _).mono ?_) | (with_reducible refine (L5.out _).mono ?_) | (with_reducible refine (L6.out _).mono ?_) | (with_reducible refine (L1.out _).mono ?_)); rintro e w' ⟨rfl, rfl⟩))
    
    go_ret
    exact ⟨by first | rfl | exact rb (by simp <;> omega), by repeat (first | exact BB.out | apply below_drew1 | apply pw_below_drewN)⟩
set_option maxRecDepth 100000 in
set_option maxHeartbeats 4000000 in
theorem fl_1 (a0 a1 b0 b1 sign : Int) (x y v u L R : Nat) (P Q : Nat) (hx : Go.bits .and .u64 a0 16777215 = (x : Int)) (hy : Go.bits .and .u64 a1 16777215 = (y : Int)) (hv : Go.bits .and .u64 b0 16777215 = (v : Int)) (hu : Go.bits .and .u64 b1 16777215 = (u : Int))
    (wa0 : IntKind.u64.wrap a0 = a0) (wa1 : IntKind.u64.wrap a1 = a1) (wb0 : IntKind.u64.wrap b0 = b0) (wb1 : IntKind.u64.wrap b1 = b1) (wy : IntKind.u64.wrap ((y : Int) + 1) = (y : Int) + 1) (wu : IntKind.u64.wrap ((u : Int) + 1) = (u : Int) + 1)
    (x2 : x ≤ 16777215) (y2 : y ≤ 16777215) (v2 : v ≤ 16777215) (u2 : u ≤ 16777215) (k1 : Go.bits .and .i64 sign 1 = 1) (k2 : Go.bits .and .i64 sign 2 = 0) (k3 : Go.bits .and .i64 sign 3 = 1)
    (hL : (x : Int) * ((u : Int) + 1) = (L : Int)) (hR : (v : Int) * ((y : Int) + 1) = (R : Int)) (L2 : L ≤ 281474976710656) (R2 : R ≤ 281474976710656)
    (QP : ∀ w, Calls Try.prog 14 #[.bool true, .int .u64 x, .int .u64 ((y : Int) + 1)] w fun e w' => e = .returned (.int .u64 (P : Int)) ∧ w = w')
    (QQ : ∀ w, Calls Try.prog 14 #[.bool false, .int .u64 v, .int .u64 ((u : Int) + 1)] w fun e w' => e = .returned (.int .u64 (Q : Int)) ∧ w = w')
    (hB : (ordF P Q == some .lt) = decide (0 < L ∨ 0 < R)) (hI : (ordF P 9218868437227405312 == some .lt) = true) (w : World) :
    Calls Try.prog 4 #[.agg #[.int .u32 a0, .int .u32 a1], .agg #[.int .u32 b0, .int .u32 b1], .int .i64 sign] w fun e w' => e = .returned (.bool true) ∧ Below w.heap.size w w' := by
  have BB := Aside0.mk (((Below.refl w.heap.size w).alloc (Nat.le_refl _) (.cells #[.int .u32 a0, .int .u32 a1] 29)).alloc (Nat.le_of_lt (by simp)) (.cells #[.int .u32 b0, .int .u32 b1] 29))
  rcases (show 0 < L ∨ (L = 0 ∧ 0 < R) ∨ (L = 0 ∧ R = 0) by omega) with hA | ⟨rfl, hA⟩ | ⟨rfl, rfl⟩
  · have hB2 : (ordF P Q == some .lt) = true := hB.trans (by first | rfl | (simp; omega) | (simp; done))
    clear hB
    have L1 := Aside0.mk (less_v (P : Int) (Q : Int) true (by rw [Int.toNat_natCast, Int.toNat_natCast]; exact hB2))
    have L2' := Aside0.mk (less_v 9221120237041090560 (P : Int) false (nan_l_v P))
    have L3 := Aside0.mk (less_v (P : Int) 9221120237041090560 false (nan_r_v P))
    have L4 := Aside0.mk (less_v (P : Int) 9218868437227405312 true (inf_v P hI))
    have L5 := Aside0.mk (less_v 9223372036854775808 0 false (by decide +kernel))
    have L6 := Aside0.mk (less_v 0 9223372036854775808 false (by decide +kernel))
    have q3 := Aside0.mk (quot_c false 1 0 1 0 _ 9218868437227405312 rfl rfl rfl (by decide +kernel) (by decide +kernel) (by decide +kernel))
    have AP := Aside0.mk QP
    have AQ := Aside0.mk QQ
    clear QP QQ hB2 hI
    go_enter Try.func4, Try.ntmps4
    go_wp2_with fail
    go_quiet (fail)
    go_wp2_with fail
    go_quiet (fail)
    go_wp2_with fail
    clear wa0 wa1 wb0 wb1 wy wu hx hy hv hu
    go_wp2_with (first
      | (go_at_call 13; (with_reducible refine (awake35_c _).mono ?_); rintro e w' ⟨rfl, ⟨nd, rfl⟩⟩)
      | (go_at_call 14; (first | (with_reducible refine (AP.out _).mono ?_) | (with_reducible refine (AQ.out _).mono ?_) | (with_reducible refine (q3.out _).mono ?_)); rintro e w' ⟨rfl, rfl⟩)
      | (go_at_call 16; (first | (with_reducible refine (L2'.out _).mono ?_) | (with_reducible refine (L3.out _).mono ?_) | (with_reducible refine (L4.out _).mono ?_) | (with_reducible refine (L5.out _).mono ?_) | (with_reducible refine (L6.out _).mono ?_) | (with_reducible refine (L1.out _).mono ?_)); rintro e w' ⟨rfl, rfl⟩))
    
    go_ret
    exact ⟨by first | rfl | exact rb (by simp <;> omega), by repeat (first | exact BB.out | apply below_drew1 | apply pw_below_drewN)⟩
  · have hB2 : (ordF P Q == some .lt) = true := hB.trans (by first | rfl | (simp; omega) | (simp; done))
    clear hB
    have L1 := Aside0.mk (less_v (P : Int) (Q : Int) true (by rw [Int.toNat_natCast, Int.toNat_natCast]; exact hB2))
    have L2' := Aside0.mk (less_v 9221120237041090560 (P : Int) false (nan_l_v P))
    have L3 := Aside0.mk (less_v (P : Int) 9221120237041090560 false (nan_r_v P))
    have L4 := Aside0.mk (less_v (P : Int) 9218868437227405312 true (inf_v P hI))
    have L5 := Aside0.mk (less_v 9223372036854775808 0 false (by decide +kernel))
    have L6 := Aside0.mk (less_v 0 9223372036854775808 false (by decide +kernel))
    have q3 := Aside0.mk (quot_c false 1 0 1 0 _ 9218868437227405312 rfl rfl rfl (by decide +kernel) (by decide +kernel) (by decide +kernel))
    have AP := Aside0.mk QP
    have AQ := Aside0.mk QQ
    clear QP QQ hB2 hI
    go_enter Try.func4, Try.ntmps4
    go_wp2_with fail
    go_quiet (fail)
    go_wp2_with fail
    go_quiet (fail)
    go_wp2_with fail
    clear wa0 wa1 wb0 wb1 wy wu hx hy hv hu
    go_wp2_with (first
      | (go_at_call 13; (with_reducible refine (awake35_c _).mono ?_); rintro e w' ⟨rfl, ⟨nd, rfl⟩⟩)
      | (go_at_call 14; (first | (with_reducible refine (AP.out _).mono ?_) | (with_reducible refine (AQ.out _).mono ?_) | (with_reducible refine (q3.out _).mono ?_)); rintro e w' ⟨rfl, rfl⟩)
      | (go_at_call 16; (first | (with_reducible refine (L2'.out _).mono ?_) | (with_reducible refine (L3.out _).mono ?_) | (with_reducible refine (L4.out _).mono ?_) | (with_reducible refine (L5.out _).mono ?_) | (with_reducible refine (L6.out _).mono ?_) | (with_reducible refine (L1.out _).mono ?_)); rintro e w' ⟨rfl, rfl⟩))
    
    go_ret
    exact ⟨by first | rfl | exact rb (by simp <;> omega), by repeat (first | exact BB.out | apply below_drew1 | apply pw_below_drewN)⟩
  · have hB2 : (ordF P Q == some .lt) = false := hB.trans (by first | rfl | (simp; omega) | (simp; done))
    clear hB
    have L1 := Aside0.mk (less_v (P : Int) (Q : Int) false (by rw [Int.toNat_natCast, Int.toNat_natCast]; exact hB2))
    have L2' := Aside0.mk (less_v 9221120237041090560 (P : Int) false (nan_l_v P))
    have L3 := Aside0.mk (less_v (P : Int) 9221120237041090560 false (nan_r_v P))
    have L4 := Aside0.mk (less_v (P : Int) 9218868437227405312 true (inf_v P hI))
    have L5 := Aside0.mk (less_v 9223372036854775808 0 false (by decide +kernel))
    have L6 := Aside0.mk (less_v 0 9223372036854775808 false (by decide +kernel))
    have q3 := Aside0.mk (quot_c false 1 0 1 0 _ 9218868437227405312 rfl rfl rfl (by decide +kernel) (by decide +kernel) (by decide +kernel))
    have AP := Aside0.mk QP
    have AQ := Aside0.mk QQ
    clear QP QQ hB2 hI
    go_enter Try.func4, Try.ntmps4
    go_wp2_with fail
    go_quiet (fail)
    go_wp2_with fail
    go_quiet (fail)
    go_wp2_with fail
    clear wa0 wa1 wb0 wb1 wy wu hx hy hv hu
    go_wp2_with (first
      | (go_at_call 13; (with_reducible refine (awake35_c _).mono ?_); rintro e w' ⟨rfl, ⟨nd, rfl⟩⟩)
      | (go_at_call 14; (first | (with_reducible refine (AP.out _).mono ?_) | (with_reducible refine (AQ.out _).mono ?_) | (with_reducible refine (q3.out _).mono ?_)); rintro e w' ⟨rfl, rfl⟩)
      | (go_at_call 16; (first | (with_reducible refine (L2'.out _).mono ?_) | (with_reducible refine (L3.out _).mono ?_) | (with_reducible refine (L4.out _).mono ?_) | (with_reducible refine (L5.out _).mono ?_) | (with_reducible refine (L6.out _).mono ?_) | (with_reducible refine (L1.out _).mono ?_)); rintro e w' ⟨rfl, rfl⟩))
    
    go_ret
    exact ⟨by first | rfl | exact rb (by simp <;> omega), by repeat (first | exact BB.out | apply below_drew1 | apply pw_below_drewN)⟩
set_option maxRecDepth 100000 in
set_option maxHeartbeats 4000000 in
theorem fl_2 (a0 a1 b0 b1 sign : Int) (x y v u L R : Nat) (P Q : Nat) (hx : Go.bits .and .u64 a0 16777215 = (x : Int)) (hy : Go.bits .and .u64 a1 16777215 = (y : Int)) (hv : Go.bits .and .u64 b0 16777215 = (v : Int)) (hu : Go.bits .and .u64 b1 16777215 = (u : Int))
    (wa0 : IntKind.u64.wrap a0 = a0) (wa1 : IntKind.u64.wrap a1 = a1) (wb0 : IntKind.u64.wrap b0 = b0) (wb1 : IntKind.u64.wrap b1 = b1) (wy : IntKind.u64.wrap ((y : Int) + 1) = (y : Int) + 1) (wu : IntKind.u64.wrap ((u : Int) + 1) = (u : Int) + 1)
    (x2 : x ≤ 16777215) (y2 : y ≤ 16777215) (v2 : v ≤ 16777215) (u2 : u ≤ 16777215) (k1 : Go.bits .and .i64 sign 1 = 0) (k2 : Go.bits .and .i64 sign 2 = 2) (k3 : Go.bits .and .i64 sign 3 = 2)
    (hL : (x : Int) * ((u : Int) + 1) = (L : Int)) (hR : (v : Int) * ((y : Int) + 1) = (R : Int)) (L2 : L ≤ 281474976710656) (R2 : R ≤ 281474976710656)
    (QP : ∀ w, Calls Try.prog 14 #[.bool false, .int .u64 x, .int .u64 ((y : Int) + 1)] w fun e w' => e = .returned (.int .u64 (P : Int)) ∧ w = w')
    (QQ : ∀ w, Calls Try.prog 14 #[.bool true, .int .u64 v, .int .u64 ((u : Int) + 1)] w fun e w' => e = .returned (.int .u64 (Q : Int)) ∧ w = w')
    (hB : (ordF P Q == some .lt) = false) (hI : (ordF P 9218868437227405312 == some .lt) = true) (w : World) :
    Calls Try.prog 4 #[.agg #[.int .u32 a0, .int .u32 a1], .agg #[.int .u32 b0, .int .u32 b1], .int .i64 sign] w fun e w' => e = .returned (.bool true) ∧ Below w.heap.size w w' := by
  have BB := Aside0.mk (((Below.refl w.heap.size w).alloc (Nat.le_refl _) (.cells #[.int .u32 a0, .int .u32 a1] 29)).alloc (Nat.le_of_lt (by simp)) (.cells #[.int .u32 b0, .int .u32 b1] 29))
  have hB2 : (ordF P Q == some .lt) = false := hB.trans (by first | rfl | (simp; omega) | (simp; done))
  clear hB
  have L1 := Aside0.mk (less_v (P : Int) (Q : Int) false (by rw [Int.toNat_natCast, Int.toNat_natCast]; exact hB2))
  have L2' := Aside0.mk (less_v 9221120237041090560 (P : Int) false (nan_l_v P))
  have L3 := Aside0.mk (less_v (P : Int) 9221120237041090560 false (nan_r_v P))
  have L4 := Aside0.mk (less_v (P : Int) 9218868437227405312 true (inf_v P hI))
  have L5 := Aside0.mk (less_v 9223372036854775808 0 false (by decide +kernel))
  have L6 := Aside0.mk (less_v 0 9223372036854775808 false (by decide +kernel))
  have q3 := Aside0.mk (quot_c false 1 0 1 0 _ 9218868437227405312 rfl rfl rfl (by decide +kernel) (by decide +kernel) (by decide +kernel))
  have AP := Aside0.mk QP
  have AQ := Aside0.mk QQ
  clear QP QQ hB2 hI
  go_enter Try.func4, Try.ntmps4
  go_wp2_with fail
  go_quiet (fail)
  go_wp2_with fail
  go_quiet (fail)
  go_wp2_with fail
  clear wa0 wa1 wb0 wb1 wy wu hx hy hv hu
  go_wp2_with (first
    | (go_at_call 13; (with_reducible refine (awake35_c _).mono ?_); rintro e w' ⟨rfl, ⟨nd, rfl⟩⟩)
    | (go_at_call 14; (first | (with_reducible refine (AP.out _).mono ?_) | (with_reducible refine (AQ.out _).mono ?_) | (with_reducible refine (q3.out _).mono ?_)); rintro e w' ⟨rfl, rfl⟩)
    | (go_at_call 16; (first | (with_reducible refine (L2'.out _).mono ?_) | (with_reducible refine (L3.out _).mono ?_) | (with_reducible refine (L4.out _).mono ?_) | (with_reducible refine (L5.out _).mono ?_) | (with_reducible refine (L6.out _).mono ?_) | (with_reducible refine (L1.out _).mono ?_)); rintro e w' ⟨rfl, rfl⟩))
  
  go_ret
  exact ⟨by first | rfl | exact rb (by simp <;> omega), by repeat (first | exact BB.out | apply below_drew1 | apply pw_below_drewN)⟩
set_option maxRecDepth 100000 in
set_option maxHeartbeats 4000000 in
theorem fl_3 (a0 a1 b0 b1 sign : Int) (x y v u L R : Nat) (P Q : Nat) (hx : Go.bits .and .u64 a0 16777215 = (x : Int)) (hy : Go.bits .and .u64 a1 16777215 = (y : Int)) (hv : Go.bits .and .u64 b0 16777215 = (v : Int)) (hu : Go.bits .and .u64 b1 16777215 = (u : Int))
    (wa0 : IntKind.u64.wrap a0 = a0) (wa1 : IntKind.u64.wrap a1 = a1) (wb0 : IntKind.u64.wrap b0 = b0) (wb1 : IntKind.u64.wrap b1 = b1) (wy : IntKind.u64.wrap ((y : Int) + 1) = (y : Int) + 1) (wu : IntKind.u64.wrap ((u : Int) + 1) = (u : Int) + 1)
    (x2 : x ≤ 16777215) (y2 : y ≤ 16777215) (v2 : v ≤ 16777215) (u2 : u ≤ 16777215) (k1 : Go.bits .and .i64 sign 1 = 1) (k2 : Go.bits .and .i64 sign 2 = 2) (k3 : Go.bits .and .i64 sign 3 = 3)
    (hL : (x : Int) * ((u : Int) + 1) = (L : Int)) (hR : (v : Int) * ((y : Int) + 1) = (R : Int)) (L2 : L ≤ 281474976710656) (R2 : R ≤ 281474976710656)
    (QP : ∀ w, Calls Try.prog 14 #[.bool true, .int .u64 x, .int .u64 ((y : Int) + 1)] w fun e w' => e = .returned (.int .u64 (P : Int)) ∧ w = w')
    (QQ : ∀ w, Calls Try.prog 14 #[.bool true, .int .u64 v, .int .u64 ((u : Int) + 1)] w fun e w' => e = .returned (.int .u64 (Q : Int)) ∧ w = w')
    (hB : (ordF P Q == some .lt) = decide (R < L)) (hI : (ordF P 9218868437227405312 == some .lt) = true) (w : World) :
    Calls Try.prog 4 #[.agg #[.int .u32 a0, .int .u32 a1], .agg #[.int .u32 b0, .int .u32 b1], .int .i64 sign] w fun e w' => e = .returned (.bool true) ∧ Below w.heap.size w w' := by
  have BB := Aside0.mk (((Below.refl w.heap.size w).alloc (Nat.le_refl _) (.cells #[.int .u32 a0, .int .u32 a1] 29)).alloc (Nat.le_of_lt (by simp)) (.cells #[.int .u32 b0, .int .u32 b1] 29))
  rcases (show R < L ∨ L ≤ R by omega) with hA | hA
  · have hB2 : (ordF P Q == some .lt) = true := hB.trans (by first | rfl | (simp; omega) | (simp; done))
    clear hB
    have L1 := Aside0.mk (less_v (P : Int) (Q : Int) true (by rw [Int.toNat_natCast, Int.toNat_natCast]; exact hB2))
    have L2' := Aside0.mk (less_v 9221120237041090560 (P : Int) false (nan_l_v P))
    have L3 := Aside0.mk (less_v (P : Int) 9221120237041090560 false (nan_r_v P))
    have L4 := Aside0.mk (less_v (P : Int) 9218868437227405312 true (inf_v P hI))
    have L5 := Aside0.mk (less_v 9223372036854775808 0 false (by decide +kernel))
    have L6 := Aside0.mk (less_v 0 9223372036854775808 false (by decide +kernel))
    have q3 := Aside0.mk (quot_c false 1 0 1 0 _ 9218868437227405312 rfl rfl rfl (by decide +kernel) (by decide +kernel) (by decide +kernel))
    have AP := Aside0.mk QP
    have AQ := Aside0.mk QQ
    clear QP QQ hB2 hI
    go_enter Try.func4, Try.ntmps4
    go_wp2_with fail
    go_quiet (fail)
    go_wp2_with fail
    go_quiet (fail)
    go_wp2_with fail
    clear wa0 wa1 wb0 wb1 wy wu hx hy hv hu
    go_wp2_with (first
      | (go_at_call 13; (with_reducible refine (awake35_c _).mono ?_); rintro e w' ⟨rfl, ⟨nd, rfl⟩⟩)
      | (go_at_call 14; (first | (with_reducible refine (AP.out _).mono ?_) | (with_reducible refine (AQ.out _).mono ?_) | (with_reducible refine (q3.out _).mono ?_)); rintro e w' ⟨rfl, rfl⟩)
      | (go_at_call 16; (first | (with_reducible refine (L2'.out _).mono ?_) | (with_reducible refine (L3.out _).mono ?_) | (with_reducible refine (L4.out _).mono ?_) | (with_reducible refine (L5.out _).mono ?_) | (with_reducible refine (L6.out _).mono ?_) | (with_reducible refine (L1.out _).mono ?_)); rintro e w' ⟨rfl, rfl⟩))
    
    go_ret
    exact ⟨by first | rfl | exact rb (by simp <;> omega), by repeat (first | exact BB.out | apply below_drew1 | apply pw_below_drewN)⟩
  · have hB2 : (ordF P Q == some .lt) = false := hB.trans (by first | rfl | (simp; omega) | (simp; done))
    clear hB
    have L1 := Aside0.mk (less_v (P : Int) (Q : Int) false (by rw [Int.toNat_natCast, Int.toNat_natCast]; exact hB2))
    have L2' := Aside0.mk (less_v 9221120237041090560 (P : Int) false (nan_l_v P))
    have L3 := Aside0.mk (less_v (P : Int) 9221120237041090560 false (nan_r_v P))
    have L4 := Aside0.mk (less_v (P : Int) 9218868437227405312 true (inf_v P hI))
    have L5 := Aside0.mk (less_v 9223372036854775808 0 false (by decide +kernel))
    have L6 := Aside0.mk (less_v 0 9223372036854775808 false (by decide +kernel))
    have q3 := Aside0.mk (quot_c false 1 0 1 0 _ 9218868437227405312 rfl rfl rfl (by decide +kernel) (by decide +kernel) (by decide +kernel))
    have AP := Aside0.mk QP
    have AQ := Aside0.mk QQ
    clear QP QQ hB2 hI
    go_enter Try.func4, Try.ntmps4
    go_wp2_with fail
    go_quiet (fail)
    go_wp2_with fail
    go_quiet (fail)
    go_wp2_with fail
    clear wa0 wa1 wb0 wb1 wy wu hx hy hv hu
    go_wp2_with (first
      | (go_at_call 13; (with_reducible refine (awake35_c _).mono ?_); rintro e w' ⟨rfl, ⟨nd, rfl⟩⟩)
      | (go_at_call 14; (first | (with_reducible refine (AP.out _).mono ?_) | (with_reducible refine (AQ.out _).mono ?_) | (with_reducible refine (q3.out _).mono ?_)); rintro e w' ⟨rfl, rfl⟩)
      | (go_at_call 16; (first | (with_reducible refine (L2'.out _).mono ?_) | (with_reducible refine (L3.out _).mono ?_) | (with_reducible refine (L4.out _).mono ?_) | (with_reducible refine (L5.out _).mono ?_) | (with_reducible refine (L6.out _).mono ?_) | (with_reducible refine (L1.out _).mono ?_)); rintro e w' ⟨rfl, rfl⟩))
    
    go_ret
    exact ⟨by first | rfl | exact rb (by simp <;> omega), by repeat (first | exact BB.out | apply below_drew1 | apply pw_below_drewN)⟩
end Go.Proofs.Ytdhingmjnhhjnaa.My
