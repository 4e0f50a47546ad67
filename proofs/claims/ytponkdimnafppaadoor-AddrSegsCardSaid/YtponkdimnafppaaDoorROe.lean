/- The reference's instructions, by the plain machine: whether one may be. -/
import Derived.Test.YtponkdimnafppaaDoorROd
namespace Go.Proofs.YtponkdimnafppaaDoor.VM
open Go Go.RowKit
set_option linter.unusedVariables false
set_option linter.unusedSimpArgs false
set_option maxRecDepth 40000
set_option maxHeartbeats 1600000
theorem may05_F (mk : Mk) (k lo : Nat) (hk : 9200 ≤ k) (x : IN) (hop : 0 ≤ x.op ∧ x.op < 256) (H : List Blk) : Ends (FF mk k lo 36 [.agg (inL x)] H) fun r => r.2 = H ∧ ∃ b : Bool, r.1 = .bool b := by
  obtain ⟨k, rfl⟩ : ∃ m, k = m + 1 := ⟨k - 1, by omega⟩
  refine Ends.enter rfl ?_
  conv => enter [1]; whnf
  refine Ends.callE (row05_F mk k lo (by omega) x hop H) (fun v9 H9 hv => ?_)
  obtain ⟨hH9, y, ok, hv⟩ := hv
  have hH8 := Eq.symm hH9
  replace hv : v9 = .tup [.agg (rwL y), .bool ok] := hv
  subst hv
  dsimp only at hH8
  subst hH8
  clear hH9
  conv => enter [1]; whnf
  repeat' (first
    | exact Ends.some' (⟨rfl, _, rfl⟩)
    | exact hL _ _ ⟨rfl, rfl⟩
    | (refine Ends.forceN ?_; conv => enter [1]; whnf)
    | (refine Ends.ite (fun h => ?_) (fun h => ?_) <;> (conv => enter [1]; whnf)))
  refine Ends.callE (reps_F mk k lo (by omega) y.nm H) (fun v9 H9 hv => ?_)
  obtain ⟨hH9, n1, hv, hn1⟩ := hv
  have hH8 := Eq.symm hH9
  replace hv : v9 = .int .i64 n1 := hv
  subst hv
  dsimp only at hH8
  subst hH8
  clear hH9
  conv => enter [1]; whnf
  refine Ends.join (fun T M => T = [.undef, .ptr (.lo 0) 0, .undef, .ptr (.lo 1) 0, .undef, .undef, .undef, .undef, .undef, .undef, .undef, .undef, .undef, .undef, .undef, .undef, .undef, .undef, .undef, .undef, .undef, .undef, .undef, .undef, .undef, .undef, .undef, .undef, .undef, .undef, .undef, .undef, .undef, .undef, .undef, .undef, .undef, .undef, .undef, .undef, .undef, .undef, .undef, .undef, .undef, .undef, .undef, .undef, .undef, .undef, .undef, .undef, .undef, .undef, .undef, .undef, .undef, .undef, .undef, .undef, .undef, .undef, .undef, .undef, .undef, .undef, .undef, .undef, .undef, .undef, .undef, .undef, .undef, .undef, .undef, .undef, .undef, .undef, .undef, .undef, .undef, .undef, .undef, .undef, .undef, .undef, .undef, .undef, .undef, .undef, .undef, .undef, .undef, .undef, .undef, .undef, .undef, .undef, .undef, .undef, .undef, .undef, .undef, .undef, .undef, .undef, .undef, .undef, .undef, .undef, .undef, .undef, .undef, .undef, .undef, .undef, .undef, .undef, .undef, .undef, .undef, .undef, .undef, .undef, .undef, .undef, .undef, .undef, .undef, .undef, .undef, .undef, .undef, .undef, .undef, .undef, .undef, .undef, .undef, .undef, .undef, .undef, .undef, .undef, .undef, .undef, .undef, .undef, .undef, .undef, .undef, .undef, .undef, .undef, .undef, .undef, .undef, .undef, .undef, .undef, .undef, .undef, .undef, .undef, .undef, .undef, .undef, .undef, .undef, .undef, .undef, .undef, .undef, .undef, .undef, .undef, .undef, .undef, .undef, .undef, .undef, .undef, .undef, .undef, .undef, .undef, .undef, .undef, .undef, .undef, .undef, .undef, .undef, .undef, .undef, .undef, .undef, .undef, .undef, .undef, .undef, .undef, .undef, .undef, .undef, .undef, .undef, .undef, .undef, .undef] ∧ M = ⟨[inL x, rwL y], H⟩) (fun L KK hKK hL => ?_) ?_
  · conv => enter [1]; whnf
    repeat' (first
      | exact Ends.some' (⟨rfl, _, rfl⟩)
      | exact hL _ _ ⟨rfl, rfl⟩
      | (rw [hKK]; conv => enter [1]; whnf)
      | (refine Ends.forceN ?_; conv => enter [1]; whnf)
      | (refine Ends.ite (fun h => ?_) (fun h => ?_) <;> (conv => enter [1]; whnf)))
  rintro T M ⟨rfl, rfl⟩
  conv => enter [1]; whnf
  refine Ends.join (fun T M => T = [.undef, .ptr (.lo 0) 0, .undef, .ptr (.lo 1) 0, .undef, .undef, .undef, .undef, .undef, .undef, .undef, .undef, .undef, .undef, .undef, .undef, .undef, .undef, .undef, .undef, .undef, .undef, .undef, .undef, .undef, .undef, .undef, .undef, .undef, .undef, .undef, .undef, .undef, .undef, .undef, .undef, .undef, .undef, .undef, .undef, .undef, .undef, .undef, .undef, .undef, .undef, .undef, .undef, .undef, .undef, .undef, .undef, .undef, .undef, .undef, .undef, .undef, .undef, .undef, .undef, .undef, .undef, .undef, .undef, .undef, .undef, .undef, .undef, .undef, .undef, .undef, .undef, .undef, .undef, .undef, .undef, .undef, .undef, .undef, .undef, .undef, .undef, .undef, .undef, .undef, .undef, .undef, .undef, .undef, .undef, .undef, .undef, .undef, .undef, .undef, .undef, .undef, .undef, .undef, .undef, .undef, .undef, .undef, .undef, .undef, .undef, .undef, .undef, .undef, .undef, .undef, .undef, .undef, .undef, .undef, .undef, .undef, .undef, .undef, .undef, .undef, .undef, .undef, .undef, .undef, .undef, .undef, .undef, .undef, .undef, .undef, .undef, .undef, .undef, .undef, .undef, .undef, .undef, .undef, .undef, .undef, .undef, .undef, .undef, .undef, .undef, .undef, .undef, .undef, .undef, .undef, .undef, .undef, .undef, .undef, .undef, .undef, .undef, .undef, .undef, .undef, .undef, .undef, .undef, .undef, .undef, .undef, .undef, .undef, .undef, .undef, .undef, .undef, .undef, .undef, .undef, .undef, .undef, .undef, .undef, .undef, .undef, .undef, .undef, .undef, .undef, .undef, .undef, .undef, .undef, .undef, .undef, .undef, .undef, .undef, .undef, .undef, .undef, .undef, .undef, .undef, .undef, .undef, .undef, .undef, .undef, .undef, .undef, .undef, .undef] ∧ M = ⟨[inL x, rwL y], H⟩) (fun L KK hKK hL => ?_) ?_
  · conv => enter [1]; whnf
    refine Ends.ite (fun h => ?_) (fun h => ?_) <;> (conv => enter [1]; whnf)
    · skip
      repeat' (first
        | exact Ends.some' (⟨rfl, _, rfl⟩)
        | exact hL _ _ ⟨rfl, rfl⟩
        | (rw [hKK]; conv => enter [1]; whnf)
        | (refine Ends.forceN ?_; conv => enter [1]; whnf)
        | (refine Ends.ite (fun h => ?_) (fun h => ?_) <;> (conv => enter [1]; whnf)))
    · skip
      repeat' (first
        | exact Ends.some' (⟨rfl, _, rfl⟩)
        | exact hL _ _ ⟨rfl, rfl⟩
        | (rw [hKK]; conv => enter [1]; whnf)
        | (refine Ends.forceN ?_; conv => enter [1]; whnf)
        | (refine Ends.ite (fun h => ?_) (fun h => ?_) <;> (conv => enter [1]; whnf)))
      all_goals
        refine Ends.join (fun T M => T = [.undef, .ptr (.lo 0) 0, .undef, .ptr (.lo 1) 0, .undef, .undef, .undef, .undef, .undef, .undef, .undef, .undef, .undef, .undef, .undef, .undef, .undef, .undef, .undef, .undef, .undef, .undef, .undef, .undef, .undef, .undef, .undef, .undef, .undef, .undef, .undef, .undef, .undef, .undef, .undef, .undef, .undef, .undef, .undef, .undef, .undef, .undef, .undef, .undef, .undef, .undef, .undef, .undef, .undef, .undef, .undef, .undef, .undef, .undef, .undef, .undef, .undef, .undef, .undef, .undef, .undef, .undef, .undef, .undef, .undef, .undef, .undef, .undef, .undef, .undef, .undef, .undef, .undef, .undef, .undef, .undef, .undef, .undef, .undef, .undef, .undef, .undef, .undef, .undef, .undef, .undef, .undef, .undef, .undef, .undef, .undef, .undef, .undef, .undef, .undef, .undef, .undef, .undef, .undef, .undef, .undef, .undef, .undef, .undef, .undef, .undef, .undef, .undef, .undef, .undef, .undef, .undef, .undef, .undef, .undef, .undef, .undef, .undef, .undef, .undef, .undef, .undef, .undef, .undef, .undef, .undef, .undef, .undef, .undef, .undef, .undef, .undef, .undef, .undef, .undef, .undef, .undef, .undef, .undef, .undef, .undef, .undef, .undef, .undef, .undef, .undef, .undef, .undef, .undef, .undef, .undef, .undef, .undef, .undef, .undef, .undef, .undef, .undef, .undef, .undef, .undef, .undef, .undef, .undef, .undef, .undef, .undef, .undef, .undef, .undef, .undef, .undef, .undef, .undef, .undef, .undef, .undef, .undef, .undef, .undef, .undef, .undef, .undef, .undef, .undef, .undef, .undef, .undef, .undef, .undef, .undef, .undef, .undef, .undef, .undef, .undef, .undef, .undef, .undef, .undef, .undef, .undef, .undef, .undef, .undef, .undef, .undef, .undef, .undef, .undef] ∧ M = ⟨[inL x, rwL y], H⟩) (fun L3 KK3 hKK3 hL3 => ?_) ?_
        · conv => enter [1]; whnf
          repeat' (first
            | exact Ends.some' (⟨rfl, _, rfl⟩)
            | exact hL _ _ ⟨rfl, rfl⟩
            | exact hL3 _ _ ⟨rfl, rfl⟩
            | (rw [hKK3]; conv => enter [1]; whnf)
            | (rw [hKK]; conv => enter [1]; whnf)
            | (refine Ends.forceN ?_; conv => enter [1]; whnf)
            | (refine Ends.ite (fun h => ?_) (fun h => ?_) <;> (conv => enter [1]; whnf)))
        rintro T M ⟨rfl, rfl⟩
        conv => enter [1]; whnf
        refine Ends.callE (disps_F mk k lo (by omega) x.mod x.rm H) (fun v9 H9 hv => ?_)
        obtain ⟨hH9, d, hv, hd⟩ := hv
        have hH8 := Eq.symm hH9
        replace hv : v9 = .int .i64 d := hv
        subst hv
        dsimp only at hH8
        subst hH8
        clear hH9
        conv => enter [1]; whnf
        repeat' (first
          | exact Ends.some' (⟨rfl, _, rfl⟩)
          | exact hL _ _ ⟨rfl, rfl⟩
          | (rw [hKK]; conv => enter [1]; whnf)
          | (refine Ends.callE (fits_F mk k lo (by omega) x.disp H) (fun v9 H9 hv => ?_); obtain ⟨hH9, b9, hv⟩ := hv; have hH8 := Eq.symm hH9; replace hv : v9 = .bool b9 := hv; subst hv; dsimp only at hH8; subst hH8; clear hH9; conv => enter [1]; whnf)
          | (refine Ends.forceN ?_; conv => enter [1]; whnf)
          | (refine Ends.ite (fun h => ?_) (fun h => ?_) <;> (conv => enter [1]; whnf)))
  rintro T M ⟨rfl, rfl⟩
  conv => enter [1]; whnf
  refine Ends.join (fun T M => ∃ kk : Int, T = [.undef, .ptr (.lo 0) 0, .undef, .ptr (.lo 1) 0, .undef, .undef, .undef, .int .i64 kk, .undef, .undef, .undef, .undef, .undef, .undef, .undef, .undef, .undef, .undef, .undef, .undef, .undef, .undef, .undef, .undef, .undef, .undef, .undef, .undef, .undef, .undef, .undef, .undef, .undef, .undef, .undef, .undef, .undef, .undef, .undef, .undef, .undef, .undef, .undef, .undef, .undef, .undef, .undef, .undef, .undef, .undef, .undef, .undef, .undef, .undef, .undef, .undef, .undef, .undef, .undef, .undef, .undef, .undef, .undef, .undef, .undef, .undef, .undef, .undef, .undef, .undef, .undef, .undef, .undef, .undef, .undef, .undef, .undef, .undef, .undef, .undef, .undef, .undef, .undef, .undef, .undef, .undef, .undef, .undef, .undef, .undef, .undef, .undef, .undef, .undef, .undef, .undef, .undef, .undef, .undef, .undef, .undef, .undef, .undef, .undef, .undef, .undef, .undef, .undef, .undef, .undef, .undef, .undef, .undef, .undef, .undef, .undef, .undef, .undef, .undef, .undef, .undef, .undef, .undef, .undef, .undef, .undef, .undef, .undef, .undef, .undef, .undef, .undef, .undef, .undef, .undef, .undef, .undef, .undef, .undef, .undef, .undef, .undef, .undef, .undef, .undef, .undef, .undef, .undef, .undef, .undef, .undef, .undef, .undef, .undef, .undef, .undef, .undef, .undef, .undef, .undef, .undef, .undef, .undef, .undef, .undef, .undef, .undef, .undef, .undef, .undef, .undef, .undef, .undef, .undef, .undef, .undef, .undef, .undef, .undef, .undef, .undef, .undef, .undef, .undef, .undef, .undef, .undef, .undef, .undef, .undef, .undef, .undef, .undef, .undef, .undef, .undef, .undef, .undef, .undef, .undef, .undef, .undef, .undef, .undef, .undef, .undef, .undef, .undef, .undef, .undef] ∧ M = ⟨[inL x, rwL y], H⟩) (fun L KK hKK hL => ?_) ?_
  · conv => enter [1]; whnf
    refine Ends.callE (rbytes_F mk k lo (by omega) y.a H) (fun v9 H9 hv => ?_)
    obtain ⟨hH9, n2, hv, hn2⟩ := hv
    have hH8 := Eq.symm hH9
    replace hv : v9 = .int .i64 n2 := hv
    subst hv
    dsimp only at hH8
    subst hH8
    clear hH9
    conv => enter [1]; whnf
    repeat' (first
      | exact Ends.some' (⟨rfl, _, rfl⟩)
      | exact hL _ _ ⟨rfl, rfl⟩
      | exact hL _ _ ⟨_, rfl, rfl⟩
      | (refine Ends.forceN ?_; conv => enter [1]; whnf)
      | (refine Ends.ite (fun h => ?_) (fun h => ?_) <;> (conv => enter [1]; whnf)))
  rintro T M ⟨kk, rfl, rfl⟩
  conv => enter [1]; whnf
  repeat' (first
    | exact Ends.some' (⟨rfl, _, rfl⟩)
    | exact hL _ _ ⟨rfl, rfl⟩
    | (refine Ends.callE (fits_F mk k lo (by omega) x.imm H) (fun v9 H9 hv => ?_); obtain ⟨hH9, b9, hv⟩ := hv; have hH8 := Eq.symm hH9; replace hv : v9 = .bool b9 := hv; subst hv; dsimp only at hH8; subst hH8; clear hH9; conv => enter [1]; whnf)
    | (refine Ends.forceN ?_; conv => enter [1]; whnf)
    | (refine Ends.ite (fun h => ?_) (fun h => ?_) <;> (conv => enter [1]; whnf)))
end Go.Proofs.YtponkdimnafppaaDoor.VM
