/- ShiftDoes by the plain machine: the law. -/
import Derived.Test.YtndgcjkmikhchaaSHf63f
import Derived.Test.YtndgcjkmikhchaaSHf63t
import Derived.Test.YtndgcjkmikhchaaSHf64f
import Derived.Test.YtndgcjkmikhchaaSHf64t
import Derived.Test.YtndgcjkmikhchaaSHf65f
import Derived.Test.YtndgcjkmikhchaaSHf65t
import Derived.Test.YtndgcjkmikhchaaSHf66f
import Derived.Test.YtndgcjkmikhchaaSHf66t
import Derived.Test.YtndgcjkmikhchaaSHf67f
import Derived.Test.YtndgcjkmikhchaaSHf67t
import Derived.Test.YtndgcjkmikhchaaSHf68f
import Derived.Test.YtndgcjkmikhchaaSHf68t
import Derived.Test.YtndgcjkmikhchaaSHf69f
import Derived.Test.YtndgcjkmikhchaaSHf69t
namespace Go.Proofs.Ytndgcjkmikhchaa.VM
open Go Go.RowKit
open Sh
set_option linter.unusedVariables false
set_option linter.unusedSimpArgs false
set_option maxRecDepth 40000
set_option maxHeartbeats 3200000
/-- What steps come to, none too. -/
def outA (name : Nat) (wide : Bool) (v : Nat) (was : Int) (n : Nat) : List Val := if n = 0 then [.int .u16 (cutN v wide : Nat), .int .u16 (wasZ was)] else outS name wide v was n
theorem doAll_F (mk : Mk) (k lo : Nat) (n : Nat) (hk : n + 10 ≤ k) (name v : Nat) (was : Int) (wide : Bool) (h0 : 63 ≤ name) (h1 : name ≤ 69) (hv : v < 65536) (hn : n < 256) (H : List Blk) :
    FF mk k lo 4 [.int .i64 name, .int .u16 v, .int .u8 n, .int .u16 was, .bool wide] H = some (.tup (outA name wide v was n ++ [.bool true]), H) := by
  unfold outA
  split
  · rename_i hz
    subst hz
    obtain ⟨k, rfl⟩ : ∃ m, k = m + 1 := ⟨k - 1, by omega⟩
    have g1 : ¬ ((name : Int) < 63) := by omega
    have g2 : ¬ ((69 : Int) < name) := by omega
    refine eq_of_ends ?_
    conv => enter [1]; whnf
    repeat' (first
      | refine Ends.some' ?_
      | (refine Ends.force ?_; conv => enter [1]; whnf)
      | (refine Ends.forceN ?_; conv => enter [1]; whnf)
      | (refine Ends.forceLs ?_; conv => enter [1]; whnf)
      | (refine Ends.call (cutA_F _ _ _ (by omega) _ hv _ _) ?_; conv => enter [1]; whnf)
      | (refine Ends.iteT (by first | with_reducible assumption | (simp [*]; done) | (apply decide_eq_true; omega) | fail "open") ?_; conv => enter [1]; whnf)
      | (refine Ends.iteF (by first | with_reducible assumption | (simp [*]; done) | (apply decide_eq_false; omega) | fail "open") ?_; conv => enter [1]; whnf)
      | (refine Ends.ite (fun h => ?_) (fun h => ?_) <;> (conv => enter [1]; whnf)))
    all_goals rfl
  · rename_i hz
    exact do_F mk k lo n hk name v was wide h0 h1 hv hn hz H
theorem shift0 (mk : Mk) (k lo : Nat) (hk : 60 ≤ k) (name v : Nat) (was : Int) (wide : Bool) (hv : v < 65536) (H : List Blk) (hlo : lo ≤ H.length) :
    Ends (FF mk k lo 5 [.int .i64 name, .int .u16 v, .int .i64 0, .int .u16 was, .bool wide] H) (fun r => r.1 = .tup [.int .u16 (cutN v wide : Nat), .int .u16 (wasZ was)]) := by
  obtain ⟨k, rfl⟩ : ∃ m, k = m + 1 := ⟨k - 1, by omega⟩
  have hsz : szN wide ≤ 16 := by cases wide <;> decide
  conv => enter [1]; whnf
  repeat' (first
    | refine Ends.some' ?_
    | (refine Ends.force ?_; conv => enter [1]; whnf)
    | (refine Ends.forceN ?_; conv => enter [1]; whnf)
    | (refine Ends.forceLs ?_; conv => enter [1]; whnf)
    | (refine Ends.call (size_F _ _ _ (by omega) _ _) ?_; conv => enter [1]; whnf)
    | (refine Ends.iteT (by first | with_reducible assumption | (simp [*]; done) | (apply decide_eq_true; omega) | fail "open") ?_; conv => enter [1]; whnf)
    | (refine Ends.iteF (by first | with_reducible assumption | (simp [*]; done) | (apply decide_eq_false; omega) | fail "open") ?_; conv => enter [1]; whnf)
    | (refine Ends.ite (fun h => ?_) (fun h => ?_) <;> (conv => enter [1]; whnf)))
  refine Ends.loop (fun m T M => ∃ (j : Nat) (G : List Blk) (loc : List (List Val)), j ≤ szN wide ∧ szN wide - j < m ∧ lo ≤ G.length ∧ T = [.int .i64 name, .int .u16 v, .int .i64 0, .int .u16 was, .bool wide, .undef, .undef, .undef, .undef, .undef, .undef, .undef, .int .i64 (szN wide : Nat), .sl (.hp G.length) 0 j 1, .int .i64 j, .undef, .undef, .undef, .undef, .undef, .undef, .undef, .undef, .undef, .undef, .undef, .undef, .undef, .undef, .undef, .undef, .undef, .undef, .undef, .undef, .undef, .undef, .undef, .undef, .undef, .undef, .undef, .undef, .undef, .undef, .undef, .undef, .undef, .undef, .undef, .undef, .undef, .undef, .undef, .undef, .undef, .undef, .undef, .undef, .undef, .undef, .undef, .undef, .undef, .undef, .undef, .undef, .undef, .undef, .undef, .undef, .undef, .undef, .undef, .undef, .undef, .undef, .undef, .undef, .undef, .undef, .undef, .undef, .undef, .undef, .undef, .undef, .undef, .undef, .undef, .undef, .undef, .undef, .undef, .undef, .undef, .undef, .undef, .undef, .undef, .undef, .undef, .undef, .undef, .undef, .undef, .undef, .undef, .undef, .undef, .undef, .undef, .undef, .undef, .undef, .undef, .undef, .undef, .undef, .undef, .undef, .undef, .undef, .undef, .undef, .undef, .undef, .undef, .undef, .undef, .undef, .undef, .undef, .undef, .undef, .undef, .undef, .undef, .undef, .undef, .undef, .undef, .undef, .undef, .undef, .undef, .undef, .undef, .undef, .undef, .undef, .undef, .undef, .undef, .undef, .undef, .undef, .undef, .undef, .undef, .undef, .undef, .undef, .undef, .undef, .undef, .undef, .undef, .undef, .undef, .undef, .undef, .undef] ∧ M = ⟨loc, G ++ [⟨bitsV (bitsL v j), true⟩]⟩) (fun T M ⟨j, _, _, _, h, _⟩ => by omega) ?_ _ _ ⟨0, H, [], by omega, by omega, hlo, rfl, rfl⟩
  rintro m T M L ⟨j, G, loc, j1, j2, jl, rfl, rfl⟩ hL
  conv => enter [1]; whnf
  refine Ends.ite (fun h => ?_) (fun h => ?_) <;> (conv => enter [1]; whnf)
  · have hj : j < szN wide := by have := of_decide_eq_true h; omega
    have hm := write_top (lo := lo) (G := G) jl
    have hl : (bitsV (bitsL v j)).length = j := by rw [bitsV_len, bitsL_len]
    have hs : ∀ (c : Val) (hp : List Blk), sliceCells ⟨loc ++ [[c]], hp⟩ 1 (.sl (.lo loc.length) 0 1 1) = some [c] := by
      intro c hp; simp [sliceCells, Mem.get, part?, dropN, takeN]
    refine Ends.call (bit_F _ _ _ (by omega) v j hv (by omega) _) ?_
    conv => enter [1]; whnf
    repeat' (first
      | refine Ends.some' ?_
      | (refine Ends.force ?_; conv => enter [1]; whnf)
      | (refine Ends.forceN ?_; conv => enter [1]; whnf)
      | (refine Ends.forceLs ?_; conv => enter [1]; whnf)
      | (refine Ends.opt (hs _ _) ?_; conv => enter [1]; whnf)
      | (refine Ends.opt (get_top _ _ _) ?_; conv => enter [1]; whnf)
      | (refine Ends.iteT (by with_reducible exact (decide_eq_true (by rw [hl]; omega))) ?_; conv => enter [1]; whnf)
      | (refine Ends.iteT (by first | with_reducible assumption | (simp [*]; done) | (apply decide_eq_true; omega) | fail "open") ?_; conv => enter [1]; whnf)
      | (refine Ends.iteF (by first | with_reducible assumption | (simp [*]; done) | (apply decide_eq_false; omega) | fail "open") ?_; conv => enter [1]; whnf)
      | (refine Ends.ite (fun h => ?_) (fun h => ?_) <;> (conv => enter [1]; whnf)))
    refine hL _ ⟨j + 1, (G ++ [(⟨bitsV (bitsL v j), true⟩ : Blk)]).set G.length ⟨[], false⟩, loc ++ [[.int .i64 ((v / 2 ^ j % 2 : Nat) : Int)]], by omega, by omega, by simp; omega, ?_, ?_⟩
    · have e3 : IntKind.i64.wrap ((j : Int) + 1) = ((j + 1 : Nat) : Int) := by rw [← i64N (j + 1) (by omega)]; rfl
      rw [← e3, List.length_set]
      rfl
    · rw [drop0, bitsV_append, bitsL_succ]
  have hj : j = szN wide := by have := of_decide_eq_false h; omega
  subst hj
  have hc : ofN (bitsL v (szN wide)) = cutN v wide := by rw [ofN_bitsL]; cases wide <;> rfl
  have ho : FF mk k lo 13 [.sl (.hp G.length) 0 (szN wide) 1] (G ++ [⟨bitsV (bitsL v (szN wide)), true⟩]) = some (.int .u16 (cutN v wide : Nat), (G ++ [⟨bitsV (bitsL v (szN wide)), true⟩])) := by
    have h := of_F mk k lo (by omega) (bitsL v (szN wide)) (bitsL_lt v _) (by rw [bitsL_len]; exact hsz) G.length _ (get_top [] G _)
    rw [bitsL_len, hc] at h
    exact h
  refine Ends.call ho ?_
  conv => enter [1]; whnf
  refine Ends.some' ?_
  rfl
theorem shiftAll (mk : Mk) (k lo : Nat) (n : Nat) (hk : n + 60 ≤ k) (name v : Nat) (was : Int) (wide : Bool) (h0 : 63 ≤ name) (h1 : name ≤ 69) (hv : v < 65536) (hn : n < 256) (H : List Blk) (hlo : lo ≤ H.length) :
    Ends (FF mk k lo 5 [.int .i64 name, .int .u16 v, .int .i64 n, .int .u16 was, .bool wide] H) (fun r => r.1 = .tup (outA name wide v was n)) := by
  unfold outA
  split
  · rename_i hz
    subst hz
    exact shift0 mk k lo (by omega) name v was wide hv H hlo
  · rename_i hz
    rcases (by omega : name = 63 ∨ name = 64 ∨ name = 65 ∨ name = 66 ∨ name = 67 ∨ name = 68 ∨ name = 69) with rfl | rfl | rfl | rfl | rfl | rfl | rfl <;> cases wide
    · exact shift_63_false mk k lo n hk v was hv hn hz H hlo
    · exact shift_63_true mk k lo n hk v was hv hn hz H hlo
    · exact shift_64_false mk k lo n hk v was hv hn hz H hlo
    · exact shift_64_true mk k lo n hk v was hv hn hz H hlo
    · exact shift_65_false mk k lo n hk v was hv hn hz H hlo
    · exact shift_65_true mk k lo n hk v was hv hn hz H hlo
    · exact shift_66_false mk k lo n hk v was hv hn hz H hlo
    · exact shift_66_true mk k lo n hk v was hv hn hz H hlo
    · exact shift_67_false mk k lo n hk v was hv hn hz H hlo
    · exact shift_67_true mk k lo n hk v was hv hn hz H hlo
    · exact shift_68_false mk k lo n hk v was hv hn hz H hlo
    · exact shift_68_true mk k lo n hk v was hv hn hz H hlo
    · exact shift_69_false mk k lo n hk v was hv hn hz H hlo
    · exact shift_69_true mk k lo n hk v was hv hn hz H hlo
theorem awake09_F (mk : Mk) (k lo : Nat) (hk : 20 ≤ k) (H : List Blk) : FF mk k lo 6 [] H = some (.bool true, H) := by
  obtain ⟨k, rfl⟩ : ∃ m, k = m + 20 := ⟨k - 20, by omega⟩
  kernel_rfl
theorem outA_two (name : Nat) (wide : Bool) (v : Nat) (was : Int) (n : Nat) : ∃ a b : Int, outA name wide v was n = [.int .u16 a, .int .u16 b] := by
  unfold outA outS
  split <;> exact ⟨_, _, rfl⟩
theorem shiftDoes_e (mk : Mk) (n0 n1 n2 n3 : Nat) (wide : Bool) (u0 : n0 < 65536) (u1 : n1 < 65536) (u2 : n2 < 65536) (u3 : n3 < 65536) : Ends (FF mk 400 0 3 [.agg [.int .u16 n0, .int .u16 n1, .int .u16 n2, .int .u16 n3], .bool wide] []) (fun r => r.1 = .bool true) := by
  obtain ⟨k, hk⟩ : ∃ k, k = 399 := ⟨_, rfl⟩
  show Ends (FF mk (399 + 1) 0 3 _ _) _
  rw [← hk]
  conv => enter [1]; whnf
  have e5 : IntKind.i64.wrap (63 + (IntKind.i64.wrap (n0 : Int)).tmod 7) = ((63 + n0 % 7 : Nat) : Int) := by
    rw [i64N n0 (by omega), show (7 : Int) = ((7 : Nat) : Int) from rfl, tmodN, show (63 : Int) = ((63 : Nat) : Int) from rfl, addN, i64N _ (by omega)]
  refine Ends.ite (fun h => ?_) (fun h => ?_) <;> clear h <;> (conv => enter [1]; whnf)
  · have e6 : IntKind.u8.wrap (n2 : Int) = ((n2 % 256 : Nat) : Int) := by rw [low_N]
    have e7 : IntKind.i64.wrap (IntKind.u8.wrap (n2 : Int)) = ((n2 % 256 : Nat) : Int) := by rw [e6, i64N _ (by omega)]
    obtain ⟨a, b, hab⟩ := outA_two (63 + n0 % 7) wide n1 n3 (n2 % 256)
    have hD := fun H => doAll_F mk k 0 (n2 % 256) (by omega) (63 + n0 % 7) n1 n3 wide (by omega) (by omega) u1 (by omega) H
    have hS := fun H => shiftAll mk k 0 (n2 % 256) (by omega) (63 + n0 % 7) n1 n3 wide (by omega) (by omega) u1 (by omega) H (by omega)
    rw [← e5, ← e6, hab] at hD
    rw [← e5, ← e7, hab] at hS
    refine Ends.call (hD _) ?_
    conv => enter [1]; whnf
    refine Ends.callE (hS _) (fun v H' hv => ?_)
    obtain rfl : v = _ := hv
    conv => enter [1]; whnf
    repeat' (first
      | refine Ends.some' ?_
      | (refine Ends.force ?_; conv => enter [1]; whnf)
      | (refine Ends.forceN ?_; conv => enter [1]; whnf)
      | (refine Ends.forceLs ?_; conv => enter [1]; whnf)
      | (refine Ends.call (awake09_F _ _ _ (by omega) _) ?_; conv => enter [1]; whnf)
      | (refine Ends.iteT (by first | with_reducible assumption | (simp [*]; done) | (apply decide_eq_true; omega) | fail "open") ?_; conv => enter [1]; whnf)
      | (refine Ends.iteF (by first | with_reducible assumption | (simp [*]; done) | (apply decide_eq_false; omega) | fail "open") ?_; conv => enter [1]; whnf)
      | (refine Ends.ite (fun h => ?_) (fun h => ?_) <;> (conv => enter [1]; whnf)))
    all_goals (first | (with_reducible rfl) | rfl | (simp_all; done))
  · have e6 : IntKind.u8.wrap ((n2 : Int).tmod 40) = ((n2 % 40 % 256 : Nat) : Int) := by rw [show (40 : Int) = ((40 : Nat) : Int) from rfl, tmodN]; rw [low_N]
    have e7 : IntKind.i64.wrap (IntKind.u8.wrap ((n2 : Int).tmod 40)) = ((n2 % 40 % 256 : Nat) : Int) := by rw [e6, i64N _ (by omega)]
    obtain ⟨a, b, hab⟩ := outA_two (63 + n0 % 7) wide n1 n3 (n2 % 40 % 256)
    have hD := fun H => doAll_F mk k 0 (n2 % 40 % 256) (by omega) (63 + n0 % 7) n1 n3 wide (by omega) (by omega) u1 (by omega) H
    have hS := fun H => shiftAll mk k 0 (n2 % 40 % 256) (by omega) (63 + n0 % 7) n1 n3 wide (by omega) (by omega) u1 (by omega) H (by omega)
    rw [← e5, ← e6, hab] at hD
    rw [← e5, ← e7, hab] at hS
    refine Ends.call (hD _) ?_
    conv => enter [1]; whnf
    refine Ends.callE (hS _) (fun v H' hv => ?_)
    obtain rfl : v = _ := hv
    conv => enter [1]; whnf
    repeat' (first
      | refine Ends.some' ?_
      | (refine Ends.force ?_; conv => enter [1]; whnf)
      | (refine Ends.forceN ?_; conv => enter [1]; whnf)
      | (refine Ends.forceLs ?_; conv => enter [1]; whnf)
      | (refine Ends.call (awake09_F _ _ _ (by omega) _) ?_; conv => enter [1]; whnf)
      | (refine Ends.iteT (by first | with_reducible assumption | (simp [*]; done) | (apply decide_eq_true; omega) | fail "open") ?_; conv => enter [1]; whnf)
      | (refine Ends.iteF (by first | with_reducible assumption | (simp [*]; done) | (apply decide_eq_false; omega) | fail "open") ?_; conv => enter [1]; whnf)
      | (refine Ends.ite (fun h => ?_) (fun h => ?_) <;> (conv => enter [1]; whnf)))
    all_goals (first | (with_reducible rfl) | rfl | (simp_all; done))
theorem nat_u16 {x : Int} (h : (Lit.int .u16 x).wf = true) : ∃ n : Nat, x = n ∧ n < 65536 := by
  simp only [Lit.wf, Bool.and_eq_true, decide_eq_true_eq] at h
  have h1 : IntKind.u16.min = 0 := rfl
  have h2 : IntKind.u16.max = 65535 := rfl
  exact ⟨x.toNat, by omega, by omega⟩
theorem shiftDoes_w (a0_0 a0_1 a0_2 a0_3 : Int) (a1 : Bool) (W : World) (w0 : (Lit.int .u16 a0_0).wf = true) (w1 : (Lit.int .u16 a0_1).wf = true) (w2 : (Lit.int .u16 a0_2).wf = true) (w3 : (Lit.int .u16 a0_3).wf = true) :
    Calls Try.prog 3 #[.agg #[.int .u16 a0_0, .int .u16 a0_1, .int .u16 a0_2, .int .u16 a0_3], .bool a1] W fun e W' => e = .returned (.bool true) ∧ Below W.heap.size W W' := by
  obtain ⟨n0, rfl, u0⟩ := nat_u16 w0
  obtain ⟨n1, rfl, u1⟩ := nat_u16 w1
  obtain ⟨n2, rfl, u2⟩ := nat_u16 w2
  obtain ⟨n3, rfl, u3⟩ := nat_u16 w3
  obtain ⟨⟨v, H'⟩, he, hv⟩ := shiftDoes_e Mk.plain n0 n1 n2 n3 a1 u0 u1 u2 u3
  replace hv : v = .bool true := hv
  subst hv
  refine law_of (ρ := fun _ => none) (H0 := []) follows annok extok he (fun b c z => by cases z) (fun k c cs z => by cases z) (fun b c z => by cases z) ?_
  exact ⟨⟨_, rfl, rfl, rfl, rfl, rfl, trivial⟩, rfl, trivial⟩
end Go.Proofs.Ytndgcjkmikhchaa.VM
