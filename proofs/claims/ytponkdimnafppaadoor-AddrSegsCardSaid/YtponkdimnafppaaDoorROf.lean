/- The reference's instructions, by the plain machine: one near another. -/
import Derived.Test.YtponkdimnafppaaDoorROe
namespace Go.Proofs.YtponkdimnafppaaDoor.VM
open Go Go.RowKit
set_option linter.unusedVariables false
set_option linter.unusedSimpArgs false
set_option maxRecDepth 40000
set_option maxHeartbeats 1600000
/-- An instruction's numbers are where they may be. -/
def inOk (z : IN) : Prop := 0 ≤ z.rep ∧ z.rep ≤ 2 ∧ 0 ≤ z.seg ∧ z.seg ≤ 4 ∧ 0 ≤ z.op ∧ z.op < 256 ∧ 0 ≤ z.mod ∧ z.mod < 4 ∧ 0 ≤ z.reg ∧ z.reg < 8 ∧ 0 ≤ z.rm ∧ z.rm < 8 ∧ 0 ≤ z.disp ∧ z.disp < 65536 ∧ 0 ≤ z.imm ∧ z.imm < 65536 ∧ 0 ≤ z.sel ∧ z.sel < 65536
theorem near05_F (mk : Mk) (k lo : Nat) (hk : 9300 ≤ k) (x : IN) (hop : 0 ≤ x.op ∧ x.op < 256) (h1 : 0 ≤ x.disp ∧ x.disp < 65536) (h2 : 0 ≤ x.imm ∧ x.imm < 65536) (h3 : 0 ≤ x.sel ∧ x.sel < 65536) (H : List Blk) : Ends (FF mk k lo 9 [.agg (inL x)] H) fun r => r.2 = H ∧ ∃ z : IN, r.1 = .agg (inL z) ∧ inOk z := by
  obtain ⟨xl, xr, xs, xo, xm, xg, xrm, xd, xi, xsel⟩ := x
  simp only at hop h1 h2 h3
  obtain ⟨k, rfl⟩ : ∃ m, k = m + 1 := ⟨k - 1, by omega⟩
  have ht : 0 ≤ xi.tmod 256 ∧ xi.tmod 256 < 256 := by rw [Int.tmod_eq_emod_of_nonneg h2.1]; omega
  have ht2 : 0 ≤ xd.tmod 256 ∧ xd.tmod 256 < 256 := by rw [Int.tmod_eq_emod_of_nonneg h1.1]; omega
  refine Ends.enter rfl ?_
  conv => enter [1]; whnf
  refine Ends.callE (row05_F mk k lo (by omega) ⟨xl, 0, 0, xo, 0, (IntKind.i64.wrap ((BitVec.ofInt IntKind.i64.bits xg &&& BitVec.ofInt IntKind.i64.bits 7).toNat : Nat)), 0, 0, 0, 0⟩ hop H) (fun v9 H9 hv => ?_)
  obtain ⟨hH9, y, ok, hv⟩ := hv
  have hH8 := Eq.symm hH9
  replace hv : v9 = .tup [.agg (rwL y), .bool ok] := hv
  subst hv
  dsimp only at hH8
  subst hH8
  clear hH9
  conv => enter [1]; whnf
  have h144 : inOk ⟨false, 0, 0, 144, 0, 0, 0, 0, 0, 0⟩ := by unfold inOk; decide
  cases ok
  · conv => enter [1]; whnf
    exact Ends.some' ⟨rfl, ⟨false, 0, 0, 144, 0, 0, 0, 0, 0, 0⟩, rfl, h144⟩
  · conv => enter [1]; whnf
    refine Ends.join (fun T M => ∃ (a : Bool) (b c d e f g h i j : Int), inOk ⟨a, b, c, d, e, f, g, h, i, j⟩ ∧ T = [.undef, .ptr (.lo 0) 0, .ptr (.lo 1) 0, .ptr (.lo 2) 0, .undef, .undef, .undef, .undef, .undef, .undef, .undef, .undef, .undef, .undef, .undef, .undef, .undef, .undef, .undef, .undef, .undef, .undef, .undef, .undef, .undef, .undef, .undef, .undef, .undef, .undef, .undef, .undef, .undef, .undef, .undef, .undef, .undef, .undef, .undef, .undef, .undef, .undef, .undef, .undef, .undef, .undef, .undef, .undef, .undef, .undef, .undef, .undef, .undef, .undef, .undef, .undef, .undef, .undef, .undef, .undef, .undef, .undef, .undef, .undef, .undef, .undef, .undef, .undef, .undef, .undef, .undef, .undef, .undef, .undef, .undef, .undef, .undef, .undef, .undef, .undef, .undef, .undef, .undef, .undef, .undef, .undef, .undef, .undef, .undef, .undef, .undef, .undef, .undef, .undef, .undef, .undef, .undef, .undef, .undef, .undef, .undef, .undef, .undef, .undef, .undef, .undef, .undef, .undef, .undef, .undef, .undef, .undef, .undef, .undef, .undef, .undef, .undef, .undef, .undef, .undef, .undef, .undef, .undef, .undef, .undef, .undef, .undef, .undef, .undef, .undef, .undef, .undef, .undef, .undef, .undef, .undef] ∧ M = ⟨[inL ⟨xl, xr, xs, xo, xm, xg, xrm, xd, xi, xsel⟩, [.bool a, .int .i64 b, .int .i64 c, .int .u8 d, .int .i64 e, .int .i64 f, .int .i64 g, .int .u16 h, .int .u16 i, .int .u16 j], rwL y], H⟩) (fun L KK hKK hL => ?_) ?_
    · conv => enter [1]; whnf
      repeat' (first
        | exact Ends.some' (⟨rfl, _, rfl⟩)
        | exact hL _ _ ⟨rfl, rfl⟩
        | exact hL _ _ ⟨_, _, _, _, _, _, _, _, _, _, (by simp only [inOk, and64_3, and64_7]; omega), rfl, rfl⟩
        | (refine Ends.callE (disps_F mk k lo (by omega) _ _ H) (fun v9 H9 hv => ?_); obtain ⟨hH9, d9, hv, hd9⟩ := hv; have hH8 := Eq.symm hH9; replace hv : v9 = .int .i64 d9 := hv; subst hv; dsimp only at hH8; subst hH8; clear hH9; conv => enter [1]; whnf)
        | (refine Ends.callE (sign_F mk k lo (by omega) (IntKind.u8.wrap (xd.tmod 256)) (by rw [wu8]; omega) H) (fun v9 H9 hv => ?_); obtain ⟨hH9, s9, hv, hs9⟩ := hv; have hH8 := Eq.symm hH9; replace hv : v9 = .int .u16 s9 := hv; subst hv; dsimp only at hH8; subst hH8; clear hH9; conv => enter [1]; whnf)
        | (refine Ends.forceN ?_; conv => enter [1]; whnf)
        | (refine Ends.ite (fun h => ?_) (fun h => ?_) <;> (conv => enter [1]; whnf)))
    rintro T M ⟨z1, z2, z3, z4, z5, z6, z7, z8, z9, z10, hz, rfl, rfl⟩
    have hz' := hz
    simp only [inOk] at hz'
    conv => enter [1]; whnf
    refine Ends.join (fun T M => ∃ (a : Bool) (b c d e f g h i j kk : Int), inOk ⟨a, b, c, d, e, f, g, h, i, j⟩ ∧ T = [.undef, .ptr (.lo 0) 0, .ptr (.lo 1) 0, .ptr (.lo 2) 0, .undef, .int .i64 kk, .undef, .undef, .undef, .undef, .undef, .undef, .undef, .undef, .undef, .undef, .undef, .undef, .undef, .undef, .undef, .undef, .undef, .undef, .undef, .undef, .undef, .undef, .undef, .undef, .undef, .undef, .undef, .undef, .undef, .undef, .undef, .undef, .undef, .undef, .undef, .undef, .undef, .undef, .undef, .undef, .undef, .undef, .undef, .undef, .undef, .undef, .undef, .undef, .undef, .undef, .undef, .undef, .undef, .undef, .undef, .undef, .undef, .undef, .undef, .undef, .undef, .undef, .undef, .undef, .undef, .undef, .undef, .undef, .undef, .undef, .undef, .undef, .undef, .undef, .undef, .undef, .undef, .undef, .undef, .undef, .undef, .undef, .undef, .undef, .undef, .undef, .undef, .undef, .undef, .undef, .undef, .undef, .undef, .undef, .undef, .undef, .undef, .undef, .undef, .undef, .undef, .undef, .undef, .undef, .undef, .undef, .undef, .undef, .undef, .undef, .undef, .undef, .undef, .undef, .undef, .undef, .undef, .undef, .undef, .undef, .undef, .undef, .undef, .undef, .undef, .undef, .undef, .undef, .undef, .undef] ∧ M = ⟨[inL ⟨xl, xr, xs, xo, xm, xg, xrm, xd, xi, xsel⟩, [.bool a, .int .i64 b, .int .i64 c, .int .u8 d, .int .i64 e, .int .i64 f, .int .i64 g, .int .u16 h, .int .u16 i, .int .u16 j], rwL y], H⟩) (fun L KK hKK hL => ?_) ?_
    · conv => enter [1]; whnf
      refine Ends.callE (rbytes_F mk k lo (by omega) y.a H) (fun v9 H9 hv => ?_)
      obtain ⟨hH9, n2, hv, hn2⟩ := hv
      have hH8 := Eq.symm hH9
      replace hv : v9 = .int .i64 n2 := hv
      subst hv
      dsimp only at hH8
      subst hH8
      clear hH9
      conv => enter [1]; whnf
      repeat' (first
        | exact Ends.some' (⟨rfl, _, rfl⟩)
        | exact hL _ _ ⟨rfl, rfl⟩
        | exact hL _ _ ⟨_, _, _, _, _, _, _, _, _, _, _, hz, rfl, rfl⟩
        | (refine Ends.forceN ?_; conv => enter [1]; whnf)
        | (refine Ends.ite (fun h => ?_) (fun h => ?_) <;> (conv => enter [1]; whnf)))
    clear hz hz'
    rintro T M ⟨z1, z2, z3, z4, z5, z6, z7, z8, z9, z10, kk, hz, rfl, rfl⟩
    have hz' := hz
    simp only [inOk] at hz'
    conv => enter [1]; whnf
    refine Ends.join (fun T M => ∃ (a : Bool) (b c d e f g h i j : Int), inOk ⟨a, b, c, d, e, f, g, h, i, j⟩ ∧ T = [.undef, .ptr (.lo 0) 0, .ptr (.lo 1) 0, .ptr (.lo 2) 0, .undef, .undef, .undef, .undef, .undef, .undef, .undef, .undef, .undef, .undef, .undef, .undef, .undef, .undef, .undef, .undef, .undef, .undef, .undef, .undef, .undef, .undef, .undef, .undef, .undef, .undef, .undef, .undef, .undef, .undef, .undef, .undef, .undef, .undef, .undef, .undef, .undef, .undef, .undef, .undef, .undef, .undef, .undef, .undef, .undef, .undef, .undef, .undef, .undef, .undef, .undef, .undef, .undef, .undef, .undef, .undef, .undef, .undef, .undef, .undef, .undef, .undef, .undef, .undef, .undef, .undef, .undef, .undef, .undef, .undef, .undef, .undef, .undef, .undef, .undef, .undef, .undef, .undef, .undef, .undef, .undef, .undef, .undef, .undef, .undef, .undef, .undef, .undef, .undef, .undef, .undef, .undef, .undef, .undef, .undef, .undef, .undef, .undef, .undef, .undef, .undef, .undef, .undef, .undef, .undef, .undef, .undef, .undef, .undef, .undef, .undef, .undef, .undef, .undef, .undef, .undef, .undef, .undef, .undef, .undef, .undef, .undef, .undef, .undef, .undef, .undef, .undef, .undef, .undef, .undef, .undef, .undef] ∧ M = ⟨[inL ⟨xl, xr, xs, xo, xm, xg, xrm, xd, xi, xsel⟩, [.bool a, .int .i64 b, .int .i64 c, .int .u8 d, .int .i64 e, .int .i64 f, .int .i64 g, .int .u16 h, .int .u16 i, .int .u16 j], rwL y], H⟩) (fun L KK hKK hL => ?_) ?_
    · conv => enter [1]; whnf
      repeat' (first
        | exact Ends.some' (⟨rfl, _, rfl⟩)
        | exact hL _ _ ⟨rfl, rfl⟩
        | exact hL _ _ ⟨_, _, _, _, _, _, _, _, _, _, (by simp only [inOk, and64_3, and64_7]; omega), rfl, rfl⟩
        | (refine Ends.callE (sign_F mk k lo (by omega) (IntKind.u8.wrap (xi.tmod 256)) (by rw [wu8]; omega) H) (fun v9 H9 hv => ?_); obtain ⟨hH9, s9, hv, hs9⟩ := hv; have hH8 := Eq.symm hH9; replace hv : v9 = .int .u16 s9 := hv; subst hv; dsimp only at hH8; subst hH8; clear hH9; conv => enter [1]; whnf)
        | (refine Ends.forceN ?_; conv => enter [1]; whnf)
        | (refine Ends.ite (fun h => ?_) (fun h => ?_) <;> (conv => enter [1]; whnf)))
    clear hz hz'
    rintro T M ⟨z1, z2, z3, z4, z5, z6, z7, z8, z9, z10, hz, rfl, rfl⟩
    have hz' := hz
    simp only [inOk] at hz'
    conv => enter [1]; whnf
    refine Ends.join (fun T M => ∃ (a : Bool) (b c d e f g h i j : Int), inOk ⟨a, b, c, d, e, f, g, h, i, j⟩ ∧ T = [.undef, .ptr (.lo 0) 0, .ptr (.lo 1) 0, .undef, .undef, .undef, .undef, .undef, .undef, .undef, .undef, .undef, .undef, .undef, .undef, .undef, .undef, .undef, .undef, .undef, .undef, .undef, .undef, .undef, .undef, .undef, .undef, .undef, .undef, .undef, .undef, .undef, .undef, .undef, .undef, .undef, .undef, .undef, .undef, .undef, .undef, .undef, .undef, .undef, .undef, .undef, .undef, .undef, .undef, .undef, .undef, .undef, .undef, .undef, .undef, .undef, .undef, .undef, .undef, .undef, .undef, .undef, .undef, .undef, .undef, .undef, .undef, .undef, .undef, .undef, .undef, .undef, .undef, .undef, .undef, .undef, .undef, .undef, .undef, .undef, .undef, .undef, .undef, .undef, .undef, .undef, .undef, .undef, .undef, .undef, .undef, .undef, .undef, .undef, .undef, .undef, .undef, .undef, .undef, .undef, .undef, .undef, .undef, .undef, .undef, .undef, .undef, .undef, .undef, .undef, .undef, .undef, .undef, .undef, .undef, .undef, .undef, .undef, .undef, .undef, .undef, .undef, .undef, .undef, .undef, .undef, .undef, .undef, .undef, .undef, .undef, .undef, .undef, .undef, .undef, .undef] ∧ M = ⟨[inL ⟨xl, xr, xs, xo, xm, xg, xrm, xd, xi, xsel⟩, [.bool a, .int .i64 b, .int .i64 c, .int .u8 d, .int .i64 e, .int .i64 f, .int .i64 g, .int .u16 h, .int .u16 i, .int .u16 j], rwL y], H⟩) (fun L KK hKK hL => ?_) ?_
    · conv => enter [1]; whnf
      refine Ends.callE (reps_F mk k lo (by omega) y.nm H) (fun v9 H9 hv => ?_)
      obtain ⟨hH9, n1, hv, hn1⟩ := hv
      have hH8 := Eq.symm hH9
      replace hv : v9 = .int .i64 n1 := hv
      subst hv
      dsimp only at hH8
      subst hH8
      clear hH9
      conv => enter [1]; whnf
      repeat' (first
        | exact Ends.some' (⟨rfl, _, rfl⟩)
        | exact hL _ _ ⟨rfl, rfl⟩
        | exact hL _ _ ⟨_, _, _, _, _, _, _, _, _, _, (by simp only [inOk, and64_3, and64_7]; omega), rfl, rfl⟩
        | (refine Ends.forceN ?_; conv => enter [1]; whnf)
        | (refine Ends.ite (fun h => ?_) (fun h => ?_) <;> (conv => enter [1]; whnf)))
    clear hz hz'
    rintro T M ⟨z1, z2, z3, z4, z5, z6, z7, z8, z9, z10, hz, rfl, rfl⟩
    have hz' := hz
    simp only [inOk] at hz'
    conv => enter [1]; whnf
    refine Ends.join (fun T M => ∃ (a : Bool) (b c d e f g h i j : Int), inOk ⟨a, b, c, d, e, f, g, h, i, j⟩ ∧ T = [.undef, .undef, .ptr (.lo 1) 0, .undef, .undef, .undef, .undef, .undef, .undef, .undef, .undef, .undef, .undef, .undef, .undef, .undef, .undef, .undef, .undef, .undef, .undef, .undef, .undef, .undef, .undef, .undef, .undef, .undef, .undef, .undef, .undef, .undef, .undef, .undef, .undef, .undef, .undef, .undef, .undef, .undef, .undef, .undef, .undef, .undef, .undef, .undef, .undef, .undef, .undef, .undef, .undef, .undef, .undef, .undef, .undef, .undef, .undef, .undef, .undef, .undef, .undef, .undef, .undef, .undef, .undef, .undef, .undef, .undef, .undef, .undef, .undef, .undef, .undef, .undef, .undef, .undef, .undef, .undef, .undef, .undef, .undef, .undef, .undef, .undef, .undef, .undef, .undef, .undef, .undef, .undef, .undef, .undef, .undef, .undef, .undef, .undef, .undef, .undef, .undef, .undef, .undef, .undef, .undef, .undef, .undef, .undef, .undef, .undef, .undef, .undef, .undef, .undef, .undef, .undef, .undef, .undef, .undef, .undef, .undef, .undef, .undef, .undef, .undef, .undef, .undef, .undef, .undef, .undef, .undef, .undef, .undef, .undef, .undef, .undef, .undef, .undef] ∧ M = ⟨[inL ⟨xl, xr, xs, xo, xm, xg, xrm, xd, xi, xsel⟩, [.bool a, .int .i64 b, .int .i64 c, .int .u8 d, .int .i64 e, .int .i64 f, .int .i64 g, .int .u16 h, .int .u16 i, .int .u16 j], rwL y], H⟩) (fun L KK hKK hL => ?_) ?_
    · conv => enter [1]; whnf
      refine Ends.ite (fun h => ?_) (fun h => ?_) <;> (conv => enter [1]; whnf)
      · have h7 := of_decide_eq_true h
        rw [and64_7] at h7
        dsimp only at h7
        exact hL _ _ ⟨_, _, _, _, _, _, _, _, _, _, (by simp only [inOk, and64_3, and64_7]; omega), rfl, rfl⟩
      · exact hL _ _ ⟨_, _, _, _, _, _, _, _, _, _, (by simp only [inOk, and64_3, and64_7]; omega), rfl, rfl⟩
    clear hz hz'
    rintro T M ⟨z1, z2, z3, z4, z5, z6, z7, z8, z9, z10, hz, rfl, rfl⟩
    have hz' := hz
    simp only [inOk] at hz'
    conv => enter [1]; whnf
    refine Ends.callE (may05_F mk k lo (by omega) ⟨z1, z2, z3, z4, z5, z6, z7, z8, z9, z10⟩ ⟨hz.2.2.2.2.1, hz.2.2.2.2.2.1⟩ H) (fun v9 H9 hv => ?_)
    obtain ⟨hH9, b1, hv⟩ := hv
    have hH8 := Eq.symm hH9
    replace hv : v9 = .bool b1 := hv
    subst hv
    dsimp only at hH8
    subst hH8
    clear hH9
    conv => enter [1]; whnf
    cases b1
    · conv => enter [1]; whnf
      exact Ends.some' ⟨rfl, ⟨false, 0, 0, 144, 0, 0, 0, 0, 0, 0⟩, rfl, h144⟩
    · conv => enter [1]; whnf
      exact Ends.some' ⟨rfl, ⟨z1, z2, z3, z4, z5, z6, z7, z8, z9, z10⟩, rfl, hz⟩
end Go.Proofs.YtponkdimnafppaaDoor.VM
