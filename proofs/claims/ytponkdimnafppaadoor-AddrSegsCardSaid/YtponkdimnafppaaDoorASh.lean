/- AddrSegs by the plain machine. -/
import Derived.Test.YtponkdimnafppaaDoorASg
namespace Go.Proofs.YtponkdimnafppaaDoor.VM
open Go Go.RowKit
set_option linter.unusedVariables false
set_option linter.unusedSimpArgs false
set_option maxRecDepth 40000
set_option maxHeartbeats 3200000
theorem eqBadPlace (mk : Mk) : mk.bad Tryd.prog 37 = false := (mk.bad_ok _ _).trans (by kernel_rfl)
theorem addrSegs_e (mk : Mk) (K lo : Nat) (hK : K = 9400) (g s : Nat → VT) (ip f : Int) (x : IN) (hop : 0 ≤ x.op ∧ x.op < 256) (h1 : 0 ≤ x.disp ∧ x.disp < 65536) (h2 : 0 ≤ x.imm ∧ x.imm < 65536) (h3 : 0 ≤ x.sel ∧ x.sel < 65536) (H : List Blk) (h0 : H[0]? = some ⟨basesL, true⟩) :
    Ends (FF mk (K + 1) lo 4 [.agg (regsL g s ip f), .agg (inL x)] H) (fun r => r.1 = .bool true) := by
  refine Ends.enter rfl ?_
  obtain ⟨xl, xr, xs, xo, xm, xg, xrm, xd, xi, xsel⟩ := x
  simp only at hop h1 h2 h3
  conv => enter [1]; whnf
  refine Ends.callE (near05_F mk K lo (by omega) ⟨xl, xr, xs, xo, xm, xg, xrm, xd, xi, xsel⟩ hop h1 h2 h3 H) (fun v9 H9 hv => ?_)
  obtain ⟨hH9, z, hv, hz⟩ := hv
  have hH8 := Eq.symm hH9
  replace hv : v9 = .agg (inL z) := hv
  subst hv
  dsimp only at hH8
  subst hH8
  clear hH9
  conv => enter [1]; whnf
  obtain ⟨z1, z2, sg, z4, z5, z6, z7, zd, zi, zs⟩ := z
  simp only [inOk] at hz
  have hs1 : 0 ≤ sg ∧ sg ≤ 4 := by omega
  clear hz
  obtain ⟨md, hmd⟩ : ∃ md : Int, md = xm % 4 := ⟨_, rfl⟩
  obtain ⟨rm, hrm⟩ : ∃ rm : Int, rm = xrm % 8 := ⟨_, rfl⟩
  have hmd2 : 0 ≤ md ∧ md < 4 := by omega
  have hrm2 : 0 ≤ rm ∧ rm < 8 := by omega
  conv => enter [1]; whnf
  rw [and64_3, and64_7, ← hmd, ← hrm]
  clear hmd hrm
  have hoff := off_F mk K lo (by omega) g s ip f ⟨z1, z2, sg, z4, md, z6, rm, zd, zi, zs⟩ H h0
  have hof := of_F mk K lo (by omega) g s ip f ⟨z1, z2, sg, z4, md, z6, rm, zd, zi, zs⟩ hs1 H h0
  have hdef := default_F mk K lo (by omega) ⟨z1, z2, sg, z4, md, z6, rm, zd, zi, zs⟩ H
  have hdir := direct_F mk K lo (by omega) g s ip f ⟨z1, z2, sg, z4, md, z6, rm, zd, zi, zs⟩ H
  replace hoff : _ = some (Val.tup [.int .u16 (offP g md rm zd).1, .bool (offP g md rm zd).2], H) := hoff
  replace hof : _ = some (Val.tup [.agg (pairV (s (defP ⟨z1, z2, sg, z4, md, z6, rm, zd, zi, zs⟩).toNat) ++ [.int .u16 (offP g md rm zd).1]), .bool (offP g md rm zd).2], H) := hof
  generalize offP g md rm zd = o at hoff hof
  obtain ⟨o1, o2⟩ := o
  by_cases c1 : 0 < sg
  · have c1' : sg > 0 := c1
    have hdP : defP ⟨z1, z2, sg, z4, md, z6, rm, zd, zi, zs⟩ = sg - 1 := if_pos ⟨c1, hs1.2⟩
    have hdD : dirP ⟨z1, z2, sg, z4, md, z6, rm, zd, zi, zs⟩ = sg - 1 := if_pos ⟨c1, hs1.2⟩
    rw [hdP] at hof hdef
    rw [hdD] at hdir
    obtain ⟨q, hq⟩ : ∃ q : Nat, sg - 1 = (q : Int) := ⟨(sg - 1).toNat, by omega⟩
    have hq4 : q < 4 := by omega
    have hw : IntKind.i64.wrap (sg - 1) = (q : Int) := by rw [w64n _ (by omega) (by omega)]; exact hq
    rw [hq] at hof hdef hdir
    rw [show ((q : Int)).toNat = q from rfl] at hof hdir
    have hsp : ∀ off, off = 16 + q * 2 → partV Tryd.prog 24 (regsL g s ip f) off = some (.agg (pairV (s q))) := fun off ho => spart g s ip f q hq4 ho
    generalize s q = y at hof hdir hsp
    obtain ⟨y1, y2⟩ := y
    by_cases m3 : md = 3
    · skip
      conv => enter [1]; whnf
      repeat (first
        | (refine Ends.force ?_; conv => enter [1]; whnf)
        | (refine Ends.forceN ?_; conv => enter [1]; whnf)
        | (refine Ends.forceLs ?_; conv => enter [1]; whnf)
        | (refine Ends.iteT (by first | with_reducible assumption | (simp [*]; done) | (apply decide_eq_true; omega) | fail "open") ?_; conv => enter [1]; whnf)
        | (refine Ends.iteF (by first | with_reducible assumption | (simp [*]; done) | (apply decide_eq_false; omega) | fail "open") ?_; conv => enter [1]; whnf))
      rw [hw]
      conv => enter [1]; whnf
      repeat (first
        | (refine Ends.force ?_; conv => enter [1]; whnf)
        | (refine Ends.forceN ?_; conv => enter [1]; whnf)
        | (refine Ends.forceLs ?_; conv => enter [1]; whnf)
        | (refine Ends.iteT (by first | with_reducible assumption | (simp [*]; done) | (apply decide_eq_true; omega) | fail "open") ?_; conv => enter [1]; whnf)
        | (refine Ends.iteF (by first | with_reducible assumption | (simp [*]; done) | (apply decide_eq_false; omega) | fail "open") ?_; conv => enter [1]; whnf))
      refine Ends.call (hoff) ?_
      conv => enter [1]; whnf
      repeat (first
        | (refine Ends.force ?_; conv => enter [1]; whnf)
        | (refine Ends.forceN ?_; conv => enter [1]; whnf)
        | (refine Ends.forceLs ?_; conv => enter [1]; whnf)
        | (refine Ends.iteT (by first | with_reducible assumption | (simp [*]; done) | (apply decide_eq_true; omega) | fail "open") ?_; conv => enter [1]; whnf)
        | (refine Ends.iteF (by first | with_reducible assumption | (simp [*]; done) | (apply decide_eq_false; omega) | fail "open") ?_; conv => enter [1]; whnf))
      refine Ends.call (hof) ?_
      conv => enter [1]; whnf
      repeat (first
        | (refine Ends.force ?_; conv => enter [1]; whnf)
        | (refine Ends.forceN ?_; conv => enter [1]; whnf)
        | (refine Ends.forceLs ?_; conv => enter [1]; whnf)
        | (refine Ends.iteT (by first | with_reducible assumption | (simp [*]; done) | (apply decide_eq_true; omega) | fail "open") ?_; conv => enter [1]; whnf)
        | (refine Ends.iteF (by first | with_reducible assumption | (simp [*]; done) | (apply decide_eq_false; omega) | fail "open") ?_; conv => enter [1]; whnf))
      refine Ends.call (awake11_F mk K lo (by omega) H h0) ?_
      conv => enter [1]; whnf
      repeat (first
        | (refine Ends.force ?_; conv => enter [1]; whnf)
        | (refine Ends.forceN ?_; conv => enter [1]; whnf)
        | (refine Ends.forceLs ?_; conv => enter [1]; whnf)
        | (refine Ends.iteT (by first | with_reducible assumption | (simp [*]; done) | (apply decide_eq_true; omega) | fail "open") ?_; conv => enter [1]; whnf)
        | (refine Ends.iteF (by first | with_reducible assumption | (simp [*]; done) | (apply decide_eq_false; omega) | fail "open") ?_; conv => enter [1]; whnf))
      refine Ends.call (hdef) ?_
      conv => enter [1]; whnf
      repeat (first
        | (refine Ends.force ?_; conv => enter [1]; whnf)
        | (refine Ends.forceN ?_; conv => enter [1]; whnf)
        | (refine Ends.forceLs ?_; conv => enter [1]; whnf)
        | (refine Ends.iteT (by first | with_reducible assumption | (simp [*]; done) | (apply decide_eq_true; omega) | fail "open") ?_; conv => enter [1]; whnf)
        | (refine Ends.iteF (by first | with_reducible assumption | (simp [*]; done) | (apply decide_eq_false; omega) | fail "open") ?_; conv => enter [1]; whnf))
      refine Ends.opt (hsp _ (by omega)) ?_
      conv => enter [1]; whnf
      refine Ends.iteF (eqBadPlace mk) ?_
      conv => enter [1]; whnf
      repeat (first
        | (refine Ends.force ?_; conv => enter [1]; whnf)
        | (refine Ends.forceN ?_; conv => enter [1]; whnf)
        | (refine Ends.forceLs ?_; conv => enter [1]; whnf)
        | (refine Ends.iteT (by first | with_reducible assumption | (simp [*]; done) | (apply decide_eq_true; omega) | fail "open") ?_; conv => enter [1]; whnf)
        | (refine Ends.iteF (by first | with_reducible assumption | (simp [*]; done) | (apply decide_eq_false; omega) | fail "open") ?_; conv => enter [1]; whnf))
      refine Ends.call (hdir) ?_
      conv => enter [1]; whnf
      repeat (first
        | (refine Ends.force ?_; conv => enter [1]; whnf)
        | (refine Ends.forceN ?_; conv => enter [1]; whnf)
        | (refine Ends.forceLs ?_; conv => enter [1]; whnf)
        | (refine Ends.iteT (by first | with_reducible assumption | (simp [*]; done) | (apply decide_eq_true; omega) | fail "open") ?_; conv => enter [1]; whnf)
        | (refine Ends.iteF (by first | with_reducible assumption | (simp [*]; done) | (apply decide_eq_false; omega) | fail "open") ?_; conv => enter [1]; whnf))
      refine Ends.opt (hsp _ (by omega)) ?_
      conv => enter [1]; whnf
      refine Ends.iteF (eqBadPlace mk) ?_
      conv => enter [1]; whnf
      exact Ends.some' (by simp)
    by_cases r2 : rm = 2
    · skip
      have m4 : md < 3 := by omega
      conv => enter [1]; whnf
      repeat (first
        | (refine Ends.force ?_; conv => enter [1]; whnf)
        | (refine Ends.forceN ?_; conv => enter [1]; whnf)
        | (refine Ends.forceLs ?_; conv => enter [1]; whnf)
        | (refine Ends.iteT (by first | with_reducible assumption | (simp [*]; done) | (apply decide_eq_true; omega) | fail "open") ?_; conv => enter [1]; whnf)
        | (refine Ends.iteF (by first | with_reducible assumption | (simp [*]; done) | (apply decide_eq_false; omega) | fail "open") ?_; conv => enter [1]; whnf))
      rw [hw]
      conv => enter [1]; whnf
      repeat (first
        | (refine Ends.force ?_; conv => enter [1]; whnf)
        | (refine Ends.forceN ?_; conv => enter [1]; whnf)
        | (refine Ends.forceLs ?_; conv => enter [1]; whnf)
        | (refine Ends.iteT (by first | with_reducible assumption | (simp [*]; done) | (apply decide_eq_true; omega) | fail "open") ?_; conv => enter [1]; whnf)
        | (refine Ends.iteF (by first | with_reducible assumption | (simp [*]; done) | (apply decide_eq_false; omega) | fail "open") ?_; conv => enter [1]; whnf))
      refine Ends.call (hoff) ?_
      conv => enter [1]; whnf
      repeat (first
        | (refine Ends.force ?_; conv => enter [1]; whnf)
        | (refine Ends.forceN ?_; conv => enter [1]; whnf)
        | (refine Ends.forceLs ?_; conv => enter [1]; whnf)
        | (refine Ends.iteT (by first | with_reducible assumption | (simp [*]; done) | (apply decide_eq_true; omega) | fail "open") ?_; conv => enter [1]; whnf)
        | (refine Ends.iteF (by first | with_reducible assumption | (simp [*]; done) | (apply decide_eq_false; omega) | fail "open") ?_; conv => enter [1]; whnf))
      refine Ends.call (hof) ?_
      conv => enter [1]; whnf
      repeat (first
        | (refine Ends.force ?_; conv => enter [1]; whnf)
        | (refine Ends.forceN ?_; conv => enter [1]; whnf)
        | (refine Ends.forceLs ?_; conv => enter [1]; whnf)
        | (refine Ends.iteT (by first | with_reducible assumption | (simp [*]; done) | (apply decide_eq_true; omega) | fail "open") ?_; conv => enter [1]; whnf)
        | (refine Ends.iteF (by first | with_reducible assumption | (simp [*]; done) | (apply decide_eq_false; omega) | fail "open") ?_; conv => enter [1]; whnf))
      refine Ends.call (awake11_F mk K lo (by omega) H h0) ?_
      conv => enter [1]; whnf
      repeat (first
        | (refine Ends.force ?_; conv => enter [1]; whnf)
        | (refine Ends.forceN ?_; conv => enter [1]; whnf)
        | (refine Ends.forceLs ?_; conv => enter [1]; whnf)
        | (refine Ends.iteT (by first | with_reducible assumption | (simp [*]; done) | (apply decide_eq_true; omega) | fail "open") ?_; conv => enter [1]; whnf)
        | (refine Ends.iteF (by first | with_reducible assumption | (simp [*]; done) | (apply decide_eq_false; omega) | fail "open") ?_; conv => enter [1]; whnf))
      refine Ends.call (hdef) ?_
      conv => enter [1]; whnf
      repeat (first
        | (refine Ends.force ?_; conv => enter [1]; whnf)
        | (refine Ends.forceN ?_; conv => enter [1]; whnf)
        | (refine Ends.forceLs ?_; conv => enter [1]; whnf)
        | (refine Ends.iteT (by first | with_reducible assumption | (simp [*]; done) | (apply decide_eq_true; omega) | fail "open") ?_; conv => enter [1]; whnf)
        | (refine Ends.iteF (by first | with_reducible assumption | (simp [*]; done) | (apply decide_eq_false; omega) | fail "open") ?_; conv => enter [1]; whnf))
      refine Ends.opt (hsp _ (by omega)) ?_
      conv => enter [1]; whnf
      refine Ends.iteF (eqBadPlace mk) ?_
      conv => enter [1]; whnf
      repeat (first
        | (refine Ends.force ?_; conv => enter [1]; whnf)
        | (refine Ends.forceN ?_; conv => enter [1]; whnf)
        | (refine Ends.forceLs ?_; conv => enter [1]; whnf)
        | (refine Ends.iteT (by first | with_reducible assumption | (simp [*]; done) | (apply decide_eq_true; omega) | fail "open") ?_; conv => enter [1]; whnf)
        | (refine Ends.iteF (by first | with_reducible assumption | (simp [*]; done) | (apply decide_eq_false; omega) | fail "open") ?_; conv => enter [1]; whnf))
      refine Ends.call (hdir) ?_
      conv => enter [1]; whnf
      repeat (first
        | (refine Ends.force ?_; conv => enter [1]; whnf)
        | (refine Ends.forceN ?_; conv => enter [1]; whnf)
        | (refine Ends.forceLs ?_; conv => enter [1]; whnf)
        | (refine Ends.iteT (by first | with_reducible assumption | (simp [*]; done) | (apply decide_eq_true; omega) | fail "open") ?_; conv => enter [1]; whnf)
        | (refine Ends.iteF (by first | with_reducible assumption | (simp [*]; done) | (apply decide_eq_false; omega) | fail "open") ?_; conv => enter [1]; whnf))
      refine Ends.opt (hsp _ (by omega)) ?_
      conv => enter [1]; whnf
      refine Ends.iteF (eqBadPlace mk) ?_
      conv => enter [1]; whnf
      exact Ends.some' (by simp)
    by_cases r3 : rm = 3
    · skip
      have m4 : md < 3 := by omega
      conv => enter [1]; whnf
      repeat (first
        | (refine Ends.force ?_; conv => enter [1]; whnf)
        | (refine Ends.forceN ?_; conv => enter [1]; whnf)
        | (refine Ends.forceLs ?_; conv => enter [1]; whnf)
        | (refine Ends.iteT (by first | with_reducible assumption | (simp [*]; done) | (apply decide_eq_true; omega) | fail "open") ?_; conv => enter [1]; whnf)
        | (refine Ends.iteF (by first | with_reducible assumption | (simp [*]; done) | (apply decide_eq_false; omega) | fail "open") ?_; conv => enter [1]; whnf))
      rw [hw]
      conv => enter [1]; whnf
      repeat (first
        | (refine Ends.force ?_; conv => enter [1]; whnf)
        | (refine Ends.forceN ?_; conv => enter [1]; whnf)
        | (refine Ends.forceLs ?_; conv => enter [1]; whnf)
        | (refine Ends.iteT (by first | with_reducible assumption | (simp [*]; done) | (apply decide_eq_true; omega) | fail "open") ?_; conv => enter [1]; whnf)
        | (refine Ends.iteF (by first | with_reducible assumption | (simp [*]; done) | (apply decide_eq_false; omega) | fail "open") ?_; conv => enter [1]; whnf))
      refine Ends.call (hoff) ?_
      conv => enter [1]; whnf
      repeat (first
        | (refine Ends.force ?_; conv => enter [1]; whnf)
        | (refine Ends.forceN ?_; conv => enter [1]; whnf)
        | (refine Ends.forceLs ?_; conv => enter [1]; whnf)
        | (refine Ends.iteT (by first | with_reducible assumption | (simp [*]; done) | (apply decide_eq_true; omega) | fail "open") ?_; conv => enter [1]; whnf)
        | (refine Ends.iteF (by first | with_reducible assumption | (simp [*]; done) | (apply decide_eq_false; omega) | fail "open") ?_; conv => enter [1]; whnf))
      refine Ends.call (hof) ?_
      conv => enter [1]; whnf
      repeat (first
        | (refine Ends.force ?_; conv => enter [1]; whnf)
        | (refine Ends.forceN ?_; conv => enter [1]; whnf)
        | (refine Ends.forceLs ?_; conv => enter [1]; whnf)
        | (refine Ends.iteT (by first | with_reducible assumption | (simp [*]; done) | (apply decide_eq_true; omega) | fail "open") ?_; conv => enter [1]; whnf)
        | (refine Ends.iteF (by first | with_reducible assumption | (simp [*]; done) | (apply decide_eq_false; omega) | fail "open") ?_; conv => enter [1]; whnf))
      refine Ends.call (awake11_F mk K lo (by omega) H h0) ?_
      conv => enter [1]; whnf
      repeat (first
        | (refine Ends.force ?_; conv => enter [1]; whnf)
        | (refine Ends.forceN ?_; conv => enter [1]; whnf)
        | (refine Ends.forceLs ?_; conv => enter [1]; whnf)
        | (refine Ends.iteT (by first | with_reducible assumption | (simp [*]; done) | (apply decide_eq_true; omega) | fail "open") ?_; conv => enter [1]; whnf)
        | (refine Ends.iteF (by first | with_reducible assumption | (simp [*]; done) | (apply decide_eq_false; omega) | fail "open") ?_; conv => enter [1]; whnf))
      refine Ends.call (hdef) ?_
      conv => enter [1]; whnf
      repeat (first
        | (refine Ends.force ?_; conv => enter [1]; whnf)
        | (refine Ends.forceN ?_; conv => enter [1]; whnf)
        | (refine Ends.forceLs ?_; conv => enter [1]; whnf)
        | (refine Ends.iteT (by first | with_reducible assumption | (simp [*]; done) | (apply decide_eq_true; omega) | fail "open") ?_; conv => enter [1]; whnf)
        | (refine Ends.iteF (by first | with_reducible assumption | (simp [*]; done) | (apply decide_eq_false; omega) | fail "open") ?_; conv => enter [1]; whnf))
      refine Ends.opt (hsp _ (by omega)) ?_
      conv => enter [1]; whnf
      refine Ends.iteF (eqBadPlace mk) ?_
      conv => enter [1]; whnf
      repeat (first
        | (refine Ends.force ?_; conv => enter [1]; whnf)
        | (refine Ends.forceN ?_; conv => enter [1]; whnf)
        | (refine Ends.forceLs ?_; conv => enter [1]; whnf)
        | (refine Ends.iteT (by first | with_reducible assumption | (simp [*]; done) | (apply decide_eq_true; omega) | fail "open") ?_; conv => enter [1]; whnf)
        | (refine Ends.iteF (by first | with_reducible assumption | (simp [*]; done) | (apply decide_eq_false; omega) | fail "open") ?_; conv => enter [1]; whnf))
      refine Ends.call (hdir) ?_
      conv => enter [1]; whnf
      repeat (first
        | (refine Ends.force ?_; conv => enter [1]; whnf)
        | (refine Ends.forceN ?_; conv => enter [1]; whnf)
        | (refine Ends.forceLs ?_; conv => enter [1]; whnf)
        | (refine Ends.iteT (by first | with_reducible assumption | (simp [*]; done) | (apply decide_eq_true; omega) | fail "open") ?_; conv => enter [1]; whnf)
        | (refine Ends.iteF (by first | with_reducible assumption | (simp [*]; done) | (apply decide_eq_false; omega) | fail "open") ?_; conv => enter [1]; whnf))
      refine Ends.opt (hsp _ (by omega)) ?_
      conv => enter [1]; whnf
      refine Ends.iteF (eqBadPlace mk) ?_
      conv => enter [1]; whnf
      exact Ends.some' (by simp)
    by_cases r6 : rm = 6 ∧ md = 0
    · skip
      obtain ⟨r6, m0⟩ := r6
      have m4 : md < 3 := by omega
      have mp : ¬ md > 0 := by omega
      conv => enter [1]; whnf
      repeat (first
        | (refine Ends.force ?_; conv => enter [1]; whnf)
        | (refine Ends.forceN ?_; conv => enter [1]; whnf)
        | (refine Ends.forceLs ?_; conv => enter [1]; whnf)
        | (refine Ends.iteT (by first | with_reducible assumption | (simp [*]; done) | (apply decide_eq_true; omega) | fail "open") ?_; conv => enter [1]; whnf)
        | (refine Ends.iteF (by first | with_reducible assumption | (simp [*]; done) | (apply decide_eq_false; omega) | fail "open") ?_; conv => enter [1]; whnf))
      rw [hw]
      conv => enter [1]; whnf
      repeat (first
        | (refine Ends.force ?_; conv => enter [1]; whnf)
        | (refine Ends.forceN ?_; conv => enter [1]; whnf)
        | (refine Ends.forceLs ?_; conv => enter [1]; whnf)
        | (refine Ends.iteT (by first | with_reducible assumption | (simp [*]; done) | (apply decide_eq_true; omega) | fail "open") ?_; conv => enter [1]; whnf)
        | (refine Ends.iteF (by first | with_reducible assumption | (simp [*]; done) | (apply decide_eq_false; omega) | fail "open") ?_; conv => enter [1]; whnf))
      refine Ends.call (hoff) ?_
      conv => enter [1]; whnf
      repeat (first
        | (refine Ends.force ?_; conv => enter [1]; whnf)
        | (refine Ends.forceN ?_; conv => enter [1]; whnf)
        | (refine Ends.forceLs ?_; conv => enter [1]; whnf)
        | (refine Ends.iteT (by first | with_reducible assumption | (simp [*]; done) | (apply decide_eq_true; omega) | fail "open") ?_; conv => enter [1]; whnf)
        | (refine Ends.iteF (by first | with_reducible assumption | (simp [*]; done) | (apply decide_eq_false; omega) | fail "open") ?_; conv => enter [1]; whnf))
      refine Ends.call (hof) ?_
      conv => enter [1]; whnf
      repeat (first
        | (refine Ends.force ?_; conv => enter [1]; whnf)
        | (refine Ends.forceN ?_; conv => enter [1]; whnf)
        | (refine Ends.forceLs ?_; conv => enter [1]; whnf)
        | (refine Ends.iteT (by first | with_reducible assumption | (simp [*]; done) | (apply decide_eq_true; omega) | fail "open") ?_; conv => enter [1]; whnf)
        | (refine Ends.iteF (by first | with_reducible assumption | (simp [*]; done) | (apply decide_eq_false; omega) | fail "open") ?_; conv => enter [1]; whnf))
      refine Ends.call (awake11_F mk K lo (by omega) H h0) ?_
      conv => enter [1]; whnf
      repeat (first
        | (refine Ends.force ?_; conv => enter [1]; whnf)
        | (refine Ends.forceN ?_; conv => enter [1]; whnf)
        | (refine Ends.forceLs ?_; conv => enter [1]; whnf)
        | (refine Ends.iteT (by first | with_reducible assumption | (simp [*]; done) | (apply decide_eq_true; omega) | fail "open") ?_; conv => enter [1]; whnf)
        | (refine Ends.iteF (by first | with_reducible assumption | (simp [*]; done) | (apply decide_eq_false; omega) | fail "open") ?_; conv => enter [1]; whnf))
      refine Ends.call (hdef) ?_
      conv => enter [1]; whnf
      repeat (first
        | (refine Ends.force ?_; conv => enter [1]; whnf)
        | (refine Ends.forceN ?_; conv => enter [1]; whnf)
        | (refine Ends.forceLs ?_; conv => enter [1]; whnf)
        | (refine Ends.iteT (by first | with_reducible assumption | (simp [*]; done) | (apply decide_eq_true; omega) | fail "open") ?_; conv => enter [1]; whnf)
        | (refine Ends.iteF (by first | with_reducible assumption | (simp [*]; done) | (apply decide_eq_false; omega) | fail "open") ?_; conv => enter [1]; whnf))
      refine Ends.opt (hsp _ (by omega)) ?_
      conv => enter [1]; whnf
      refine Ends.iteF (eqBadPlace mk) ?_
      conv => enter [1]; whnf
      repeat (first
        | (refine Ends.force ?_; conv => enter [1]; whnf)
        | (refine Ends.forceN ?_; conv => enter [1]; whnf)
        | (refine Ends.forceLs ?_; conv => enter [1]; whnf)
        | (refine Ends.iteT (by first | with_reducible assumption | (simp [*]; done) | (apply decide_eq_true; omega) | fail "open") ?_; conv => enter [1]; whnf)
        | (refine Ends.iteF (by first | with_reducible assumption | (simp [*]; done) | (apply decide_eq_false; omega) | fail "open") ?_; conv => enter [1]; whnf))
      refine Ends.call (hdir) ?_
      conv => enter [1]; whnf
      repeat (first
        | (refine Ends.force ?_; conv => enter [1]; whnf)
        | (refine Ends.forceN ?_; conv => enter [1]; whnf)
        | (refine Ends.forceLs ?_; conv => enter [1]; whnf)
        | (refine Ends.iteT (by first | with_reducible assumption | (simp [*]; done) | (apply decide_eq_true; omega) | fail "open") ?_; conv => enter [1]; whnf)
        | (refine Ends.iteF (by first | with_reducible assumption | (simp [*]; done) | (apply decide_eq_false; omega) | fail "open") ?_; conv => enter [1]; whnf))
      refine Ends.opt (hsp _ (by omega)) ?_
      conv => enter [1]; whnf
      refine Ends.iteF (eqBadPlace mk) ?_
      conv => enter [1]; whnf
      exact Ends.some' (by simp)
    by_cases r7 : rm = 6
    · skip
      have m4 : md < 3 := by omega
      have mp : md > 0 := by omega
      conv => enter [1]; whnf
      repeat (first
        | (refine Ends.force ?_; conv => enter [1]; whnf)
        | (refine Ends.forceN ?_; conv => enter [1]; whnf)
        | (refine Ends.forceLs ?_; conv => enter [1]; whnf)
        | (refine Ends.iteT (by first | with_reducible assumption | (simp [*]; done) | (apply decide_eq_true; omega) | fail "open") ?_; conv => enter [1]; whnf)
        | (refine Ends.iteF (by first | with_reducible assumption | (simp [*]; done) | (apply decide_eq_false; omega) | fail "open") ?_; conv => enter [1]; whnf))
      rw [hw]
      conv => enter [1]; whnf
      repeat (first
        | (refine Ends.force ?_; conv => enter [1]; whnf)
        | (refine Ends.forceN ?_; conv => enter [1]; whnf)
        | (refine Ends.forceLs ?_; conv => enter [1]; whnf)
        | (refine Ends.iteT (by first | with_reducible assumption | (simp [*]; done) | (apply decide_eq_true; omega) | fail "open") ?_; conv => enter [1]; whnf)
        | (refine Ends.iteF (by first | with_reducible assumption | (simp [*]; done) | (apply decide_eq_false; omega) | fail "open") ?_; conv => enter [1]; whnf))
      refine Ends.call (hoff) ?_
      conv => enter [1]; whnf
      repeat (first
        | (refine Ends.force ?_; conv => enter [1]; whnf)
        | (refine Ends.forceN ?_; conv => enter [1]; whnf)
        | (refine Ends.forceLs ?_; conv => enter [1]; whnf)
        | (refine Ends.iteT (by first | with_reducible assumption | (simp [*]; done) | (apply decide_eq_true; omega) | fail "open") ?_; conv => enter [1]; whnf)
        | (refine Ends.iteF (by first | with_reducible assumption | (simp [*]; done) | (apply decide_eq_false; omega) | fail "open") ?_; conv => enter [1]; whnf))
      refine Ends.call (hof) ?_
      conv => enter [1]; whnf
      repeat (first
        | (refine Ends.force ?_; conv => enter [1]; whnf)
        | (refine Ends.forceN ?_; conv => enter [1]; whnf)
        | (refine Ends.forceLs ?_; conv => enter [1]; whnf)
        | (refine Ends.iteT (by first | with_reducible assumption | (simp [*]; done) | (apply decide_eq_true; omega) | fail "open") ?_; conv => enter [1]; whnf)
        | (refine Ends.iteF (by first | with_reducible assumption | (simp [*]; done) | (apply decide_eq_false; omega) | fail "open") ?_; conv => enter [1]; whnf))
      refine Ends.call (awake11_F mk K lo (by omega) H h0) ?_
      conv => enter [1]; whnf
      repeat (first
        | (refine Ends.force ?_; conv => enter [1]; whnf)
        | (refine Ends.forceN ?_; conv => enter [1]; whnf)
        | (refine Ends.forceLs ?_; conv => enter [1]; whnf)
        | (refine Ends.iteT (by first | with_reducible assumption | (simp [*]; done) | (apply decide_eq_true; omega) | fail "open") ?_; conv => enter [1]; whnf)
        | (refine Ends.iteF (by first | with_reducible assumption | (simp [*]; done) | (apply decide_eq_false; omega) | fail "open") ?_; conv => enter [1]; whnf))
      refine Ends.call (hdef) ?_
      conv => enter [1]; whnf
      repeat (first
        | (refine Ends.force ?_; conv => enter [1]; whnf)
        | (refine Ends.forceN ?_; conv => enter [1]; whnf)
        | (refine Ends.forceLs ?_; conv => enter [1]; whnf)
        | (refine Ends.iteT (by first | with_reducible assumption | (simp [*]; done) | (apply decide_eq_true; omega) | fail "open") ?_; conv => enter [1]; whnf)
        | (refine Ends.iteF (by first | with_reducible assumption | (simp [*]; done) | (apply decide_eq_false; omega) | fail "open") ?_; conv => enter [1]; whnf))
      refine Ends.opt (hsp _ (by omega)) ?_
      conv => enter [1]; whnf
      refine Ends.iteF (eqBadPlace mk) ?_
      conv => enter [1]; whnf
      repeat (first
        | (refine Ends.force ?_; conv => enter [1]; whnf)
        | (refine Ends.forceN ?_; conv => enter [1]; whnf)
        | (refine Ends.forceLs ?_; conv => enter [1]; whnf)
        | (refine Ends.iteT (by first | with_reducible assumption | (simp [*]; done) | (apply decide_eq_true; omega) | fail "open") ?_; conv => enter [1]; whnf)
        | (refine Ends.iteF (by first | with_reducible assumption | (simp [*]; done) | (apply decide_eq_false; omega) | fail "open") ?_; conv => enter [1]; whnf))
      refine Ends.call (hdir) ?_
      conv => enter [1]; whnf
      repeat (first
        | (refine Ends.force ?_; conv => enter [1]; whnf)
        | (refine Ends.forceN ?_; conv => enter [1]; whnf)
        | (refine Ends.forceLs ?_; conv => enter [1]; whnf)
        | (refine Ends.iteT (by first | with_reducible assumption | (simp [*]; done) | (apply decide_eq_true; omega) | fail "open") ?_; conv => enter [1]; whnf)
        | (refine Ends.iteF (by first | with_reducible assumption | (simp [*]; done) | (apply decide_eq_false; omega) | fail "open") ?_; conv => enter [1]; whnf))
      refine Ends.opt (hsp _ (by omega)) ?_
      conv => enter [1]; whnf
      refine Ends.iteF (eqBadPlace mk) ?_
      conv => enter [1]; whnf
      exact Ends.some' (by simp)
    have m4 : md < 3 := by omega
    conv => enter [1]; whnf
    repeat (first
      | (refine Ends.force ?_; conv => enter [1]; whnf)
      | (refine Ends.forceN ?_; conv => enter [1]; whnf)
      | (refine Ends.forceLs ?_; conv => enter [1]; whnf)
      | (refine Ends.iteT (by first | with_reducible assumption | (simp [*]; done) | (apply decide_eq_true; omega) | fail "open") ?_; conv => enter [1]; whnf)
      | (refine Ends.iteF (by first | with_reducible assumption | (simp [*]; done) | (apply decide_eq_false; omega) | fail "open") ?_; conv => enter [1]; whnf))
    rw [hw]
    conv => enter [1]; whnf
    repeat (first
      | (refine Ends.force ?_; conv => enter [1]; whnf)
      | (refine Ends.forceN ?_; conv => enter [1]; whnf)
      | (refine Ends.forceLs ?_; conv => enter [1]; whnf)
      | (refine Ends.iteT (by first | with_reducible assumption | (simp [*]; done) | (apply decide_eq_true; omega) | fail "open") ?_; conv => enter [1]; whnf)
      | (refine Ends.iteF (by first | with_reducible assumption | (simp [*]; done) | (apply decide_eq_false; omega) | fail "open") ?_; conv => enter [1]; whnf))
    refine Ends.call (hoff) ?_
    conv => enter [1]; whnf
    repeat (first
      | (refine Ends.force ?_; conv => enter [1]; whnf)
      | (refine Ends.forceN ?_; conv => enter [1]; whnf)
      | (refine Ends.forceLs ?_; conv => enter [1]; whnf)
      | (refine Ends.iteT (by first | with_reducible assumption | (simp [*]; done) | (apply decide_eq_true; omega) | fail "open") ?_; conv => enter [1]; whnf)
      | (refine Ends.iteF (by first | with_reducible assumption | (simp [*]; done) | (apply decide_eq_false; omega) | fail "open") ?_; conv => enter [1]; whnf))
    refine Ends.call (hof) ?_
    conv => enter [1]; whnf
    repeat (first
      | (refine Ends.force ?_; conv => enter [1]; whnf)
      | (refine Ends.forceN ?_; conv => enter [1]; whnf)
      | (refine Ends.forceLs ?_; conv => enter [1]; whnf)
      | (refine Ends.iteT (by first | with_reducible assumption | (simp [*]; done) | (apply decide_eq_true; omega) | fail "open") ?_; conv => enter [1]; whnf)
      | (refine Ends.iteF (by first | with_reducible assumption | (simp [*]; done) | (apply decide_eq_false; omega) | fail "open") ?_; conv => enter [1]; whnf))
    refine Ends.call (awake11_F mk K lo (by omega) H h0) ?_
    conv => enter [1]; whnf
    repeat (first
      | (refine Ends.force ?_; conv => enter [1]; whnf)
      | (refine Ends.forceN ?_; conv => enter [1]; whnf)
      | (refine Ends.forceLs ?_; conv => enter [1]; whnf)
      | (refine Ends.iteT (by first | with_reducible assumption | (simp [*]; done) | (apply decide_eq_true; omega) | fail "open") ?_; conv => enter [1]; whnf)
      | (refine Ends.iteF (by first | with_reducible assumption | (simp [*]; done) | (apply decide_eq_false; omega) | fail "open") ?_; conv => enter [1]; whnf))
    refine Ends.call (hdef) ?_
    conv => enter [1]; whnf
    repeat (first
      | (refine Ends.force ?_; conv => enter [1]; whnf)
      | (refine Ends.forceN ?_; conv => enter [1]; whnf)
      | (refine Ends.forceLs ?_; conv => enter [1]; whnf)
      | (refine Ends.iteT (by first | with_reducible assumption | (simp [*]; done) | (apply decide_eq_true; omega) | fail "open") ?_; conv => enter [1]; whnf)
      | (refine Ends.iteF (by first | with_reducible assumption | (simp [*]; done) | (apply decide_eq_false; omega) | fail "open") ?_; conv => enter [1]; whnf))
    refine Ends.opt (hsp _ (by omega)) ?_
    conv => enter [1]; whnf
    refine Ends.iteF (eqBadPlace mk) ?_
    conv => enter [1]; whnf
    repeat (first
      | (refine Ends.force ?_; conv => enter [1]; whnf)
      | (refine Ends.forceN ?_; conv => enter [1]; whnf)
      | (refine Ends.forceLs ?_; conv => enter [1]; whnf)
      | (refine Ends.iteT (by first | with_reducible assumption | (simp [*]; done) | (apply decide_eq_true; omega) | fail "open") ?_; conv => enter [1]; whnf)
      | (refine Ends.iteF (by first | with_reducible assumption | (simp [*]; done) | (apply decide_eq_false; omega) | fail "open") ?_; conv => enter [1]; whnf))
    refine Ends.call (hdir) ?_
    conv => enter [1]; whnf
    repeat (first
      | (refine Ends.force ?_; conv => enter [1]; whnf)
      | (refine Ends.forceN ?_; conv => enter [1]; whnf)
      | (refine Ends.forceLs ?_; conv => enter [1]; whnf)
      | (refine Ends.iteT (by first | with_reducible assumption | (simp [*]; done) | (apply decide_eq_true; omega) | fail "open") ?_; conv => enter [1]; whnf)
      | (refine Ends.iteF (by first | with_reducible assumption | (simp [*]; done) | (apply decide_eq_false; omega) | fail "open") ?_; conv => enter [1]; whnf))
    refine Ends.opt (hsp _ (by omega)) ?_
    conv => enter [1]; whnf
    refine Ends.iteF (eqBadPlace mk) ?_
    conv => enter [1]; whnf
    exact Ends.some' (by simp)
  · have hdD : dirP ⟨z1, z2, sg, z4, md, z6, rm, zd, zi, zs⟩ = 3 := if_neg (fun w => c1 w.1)
    rw [hdD] at hdir
    replace hdir : _ = some (Val.agg (pairV (s 3) ++ [.int .u16 zi]), H) := hdir
    have hdP : defP ⟨z1, z2, sg, z4, md, z6, rm, zd, zi, zs⟩ = if md = 3 then 3 else if rm = 2 ∨ rm = 3 ∨ rm = 6 ∧ md ≠ 0 then 2 else 3 := if_neg (fun w => c1 w.1)
    rw [hdP] at hof hdef
    by_cases m3 : md = 3
    · skip
      rw [if_pos m3] at hof hdef
      replace hof : _ = some (Val.tup [.agg (pairV (s 3) ++ [.int .u16 o1]), .bool o2], H) := hof
      conv => enter [1]; whnf
      repeat (first
        | (refine Ends.force ?_; conv => enter [1]; whnf)
        | (refine Ends.forceN ?_; conv => enter [1]; whnf)
        | (refine Ends.forceLs ?_; conv => enter [1]; whnf)
        | (refine Ends.iteT (by first | with_reducible assumption | (simp [*]; done) | (apply decide_eq_true; omega) | fail "open") ?_; conv => enter [1]; whnf)
        | (refine Ends.iteF (by first | with_reducible assumption | (simp [*]; done) | (apply decide_eq_false; omega) | fail "open") ?_; conv => enter [1]; whnf))
      refine Ends.call (hoff) ?_
      conv => enter [1]; whnf
      repeat (first
        | (refine Ends.force ?_; conv => enter [1]; whnf)
        | (refine Ends.forceN ?_; conv => enter [1]; whnf)
        | (refine Ends.forceLs ?_; conv => enter [1]; whnf)
        | (refine Ends.iteT (by first | with_reducible assumption | (simp [*]; done) | (apply decide_eq_true; omega) | fail "open") ?_; conv => enter [1]; whnf)
        | (refine Ends.iteF (by first | with_reducible assumption | (simp [*]; done) | (apply decide_eq_false; omega) | fail "open") ?_; conv => enter [1]; whnf))
      refine Ends.call (hof) ?_
      conv => enter [1]; whnf
      repeat (first
        | (refine Ends.force ?_; conv => enter [1]; whnf)
        | (refine Ends.forceN ?_; conv => enter [1]; whnf)
        | (refine Ends.forceLs ?_; conv => enter [1]; whnf)
        | (refine Ends.iteT (by first | with_reducible assumption | (simp [*]; done) | (apply decide_eq_true; omega) | fail "open") ?_; conv => enter [1]; whnf)
        | (refine Ends.iteF (by first | with_reducible assumption | (simp [*]; done) | (apply decide_eq_false; omega) | fail "open") ?_; conv => enter [1]; whnf))
      refine Ends.call (awake11_F mk K lo (by omega) H h0) ?_
      conv => enter [1]; whnf
      repeat (first
        | (refine Ends.force ?_; conv => enter [1]; whnf)
        | (refine Ends.forceN ?_; conv => enter [1]; whnf)
        | (refine Ends.forceLs ?_; conv => enter [1]; whnf)
        | (refine Ends.iteT (by first | with_reducible assumption | (simp [*]; done) | (apply decide_eq_true; omega) | fail "open") ?_; conv => enter [1]; whnf)
        | (refine Ends.iteF (by first | with_reducible assumption | (simp [*]; done) | (apply decide_eq_false; omega) | fail "open") ?_; conv => enter [1]; whnf))
      refine Ends.call (hdef) ?_
      conv => enter [1]; whnf
      repeat (first
        | (refine Ends.force ?_; conv => enter [1]; whnf)
        | (refine Ends.forceN ?_; conv => enter [1]; whnf)
        | (refine Ends.forceLs ?_; conv => enter [1]; whnf)
        | (refine Ends.iteT (by first | with_reducible assumption | (simp [*]; done) | (apply decide_eq_true; omega) | fail "open") ?_; conv => enter [1]; whnf)
        | (refine Ends.iteF (by first | with_reducible assumption | (simp [*]; done) | (apply decide_eq_false; omega) | fail "open") ?_; conv => enter [1]; whnf))
      refine Ends.iteF (eqBadPlace mk) ?_
      conv => enter [1]; whnf
      repeat (first
        | (refine Ends.force ?_; conv => enter [1]; whnf)
        | (refine Ends.forceN ?_; conv => enter [1]; whnf)
        | (refine Ends.forceLs ?_; conv => enter [1]; whnf)
        | (refine Ends.iteT (by first | with_reducible assumption | (simp [*]; done) | (apply decide_eq_true; omega) | fail "open") ?_; conv => enter [1]; whnf)
        | (refine Ends.iteF (by first | with_reducible assumption | (simp [*]; done) | (apply decide_eq_false; omega) | fail "open") ?_; conv => enter [1]; whnf))
      refine Ends.call (hdir) ?_
      conv => enter [1]; whnf
      repeat (first
        | (refine Ends.force ?_; conv => enter [1]; whnf)
        | (refine Ends.forceN ?_; conv => enter [1]; whnf)
        | (refine Ends.forceLs ?_; conv => enter [1]; whnf)
        | (refine Ends.iteT (by first | with_reducible assumption | (simp [*]; done) | (apply decide_eq_true; omega) | fail "open") ?_; conv => enter [1]; whnf)
        | (refine Ends.iteF (by first | with_reducible assumption | (simp [*]; done) | (apply decide_eq_false; omega) | fail "open") ?_; conv => enter [1]; whnf))
      refine Ends.iteF (eqBadPlace mk) ?_
      conv => enter [1]; whnf
      exact Ends.some' (by simp)
    by_cases r2 : rm = 2
    · skip
      have m4 : md < 3 := by omega
      rw [if_neg m3, if_pos (by omega)] at hof hdef
      replace hof : _ = some (Val.tup [.agg (pairV (s 2) ++ [.int .u16 o1]), .bool o2], H) := hof
      conv => enter [1]; whnf
      repeat (first
        | (refine Ends.force ?_; conv => enter [1]; whnf)
        | (refine Ends.forceN ?_; conv => enter [1]; whnf)
        | (refine Ends.forceLs ?_; conv => enter [1]; whnf)
        | (refine Ends.iteT (by first | with_reducible assumption | (simp [*]; done) | (apply decide_eq_true; omega) | fail "open") ?_; conv => enter [1]; whnf)
        | (refine Ends.iteF (by first | with_reducible assumption | (simp [*]; done) | (apply decide_eq_false; omega) | fail "open") ?_; conv => enter [1]; whnf))
      refine Ends.call (hoff) ?_
      conv => enter [1]; whnf
      repeat (first
        | (refine Ends.force ?_; conv => enter [1]; whnf)
        | (refine Ends.forceN ?_; conv => enter [1]; whnf)
        | (refine Ends.forceLs ?_; conv => enter [1]; whnf)
        | (refine Ends.iteT (by first | with_reducible assumption | (simp [*]; done) | (apply decide_eq_true; omega) | fail "open") ?_; conv => enter [1]; whnf)
        | (refine Ends.iteF (by first | with_reducible assumption | (simp [*]; done) | (apply decide_eq_false; omega) | fail "open") ?_; conv => enter [1]; whnf))
      refine Ends.call (hof) ?_
      conv => enter [1]; whnf
      repeat (first
        | (refine Ends.force ?_; conv => enter [1]; whnf)
        | (refine Ends.forceN ?_; conv => enter [1]; whnf)
        | (refine Ends.forceLs ?_; conv => enter [1]; whnf)
        | (refine Ends.iteT (by first | with_reducible assumption | (simp [*]; done) | (apply decide_eq_true; omega) | fail "open") ?_; conv => enter [1]; whnf)
        | (refine Ends.iteF (by first | with_reducible assumption | (simp [*]; done) | (apply decide_eq_false; omega) | fail "open") ?_; conv => enter [1]; whnf))
      refine Ends.call (awake11_F mk K lo (by omega) H h0) ?_
      conv => enter [1]; whnf
      repeat (first
        | (refine Ends.force ?_; conv => enter [1]; whnf)
        | (refine Ends.forceN ?_; conv => enter [1]; whnf)
        | (refine Ends.forceLs ?_; conv => enter [1]; whnf)
        | (refine Ends.iteT (by first | with_reducible assumption | (simp [*]; done) | (apply decide_eq_true; omega) | fail "open") ?_; conv => enter [1]; whnf)
        | (refine Ends.iteF (by first | with_reducible assumption | (simp [*]; done) | (apply decide_eq_false; omega) | fail "open") ?_; conv => enter [1]; whnf))
      refine Ends.call (hdef) ?_
      conv => enter [1]; whnf
      repeat (first
        | (refine Ends.force ?_; conv => enter [1]; whnf)
        | (refine Ends.forceN ?_; conv => enter [1]; whnf)
        | (refine Ends.forceLs ?_; conv => enter [1]; whnf)
        | (refine Ends.iteT (by first | with_reducible assumption | (simp [*]; done) | (apply decide_eq_true; omega) | fail "open") ?_; conv => enter [1]; whnf)
        | (refine Ends.iteF (by first | with_reducible assumption | (simp [*]; done) | (apply decide_eq_false; omega) | fail "open") ?_; conv => enter [1]; whnf))
      refine Ends.iteF (eqBadPlace mk) ?_
      conv => enter [1]; whnf
      repeat (first
        | (refine Ends.force ?_; conv => enter [1]; whnf)
        | (refine Ends.forceN ?_; conv => enter [1]; whnf)
        | (refine Ends.forceLs ?_; conv => enter [1]; whnf)
        | (refine Ends.iteT (by first | with_reducible assumption | (simp [*]; done) | (apply decide_eq_true; omega) | fail "open") ?_; conv => enter [1]; whnf)
        | (refine Ends.iteF (by first | with_reducible assumption | (simp [*]; done) | (apply decide_eq_false; omega) | fail "open") ?_; conv => enter [1]; whnf))
      refine Ends.call (hdir) ?_
      conv => enter [1]; whnf
      repeat (first
        | (refine Ends.force ?_; conv => enter [1]; whnf)
        | (refine Ends.forceN ?_; conv => enter [1]; whnf)
        | (refine Ends.forceLs ?_; conv => enter [1]; whnf)
        | (refine Ends.iteT (by first | with_reducible assumption | (simp [*]; done) | (apply decide_eq_true; omega) | fail "open") ?_; conv => enter [1]; whnf)
        | (refine Ends.iteF (by first | with_reducible assumption | (simp [*]; done) | (apply decide_eq_false; omega) | fail "open") ?_; conv => enter [1]; whnf))
      refine Ends.iteF (eqBadPlace mk) ?_
      conv => enter [1]; whnf
      exact Ends.some' (by simp)
    by_cases r3 : rm = 3
    · skip
      have m4 : md < 3 := by omega
      rw [if_neg m3, if_pos (by omega)] at hof hdef
      replace hof : _ = some (Val.tup [.agg (pairV (s 2) ++ [.int .u16 o1]), .bool o2], H) := hof
      conv => enter [1]; whnf
      repeat (first
        | (refine Ends.force ?_; conv => enter [1]; whnf)
        | (refine Ends.forceN ?_; conv => enter [1]; whnf)
        | (refine Ends.forceLs ?_; conv => enter [1]; whnf)
        | (refine Ends.iteT (by first | with_reducible assumption | (simp [*]; done) | (apply decide_eq_true; omega) | fail "open") ?_; conv => enter [1]; whnf)
        | (refine Ends.iteF (by first | with_reducible assumption | (simp [*]; done) | (apply decide_eq_false; omega) | fail "open") ?_; conv => enter [1]; whnf))
      refine Ends.call (hoff) ?_
      conv => enter [1]; whnf
      repeat (first
        | (refine Ends.force ?_; conv => enter [1]; whnf)
        | (refine Ends.forceN ?_; conv => enter [1]; whnf)
        | (refine Ends.forceLs ?_; conv => enter [1]; whnf)
        | (refine Ends.iteT (by first | with_reducible assumption | (simp [*]; done) | (apply decide_eq_true; omega) | fail "open") ?_; conv => enter [1]; whnf)
        | (refine Ends.iteF (by first | with_reducible assumption | (simp [*]; done) | (apply decide_eq_false; omega) | fail "open") ?_; conv => enter [1]; whnf))
      refine Ends.call (hof) ?_
      conv => enter [1]; whnf
      repeat (first
        | (refine Ends.force ?_; conv => enter [1]; whnf)
        | (refine Ends.forceN ?_; conv => enter [1]; whnf)
        | (refine Ends.forceLs ?_; conv => enter [1]; whnf)
        | (refine Ends.iteT (by first | with_reducible assumption | (simp [*]; done) | (apply decide_eq_true; omega) | fail "open") ?_; conv => enter [1]; whnf)
        | (refine Ends.iteF (by first | with_reducible assumption | (simp [*]; done) | (apply decide_eq_false; omega) | fail "open") ?_; conv => enter [1]; whnf))
      refine Ends.call (awake11_F mk K lo (by omega) H h0) ?_
      conv => enter [1]; whnf
      repeat (first
        | (refine Ends.force ?_; conv => enter [1]; whnf)
        | (refine Ends.forceN ?_; conv => enter [1]; whnf)
        | (refine Ends.forceLs ?_; conv => enter [1]; whnf)
        | (refine Ends.iteT (by first | with_reducible assumption | (simp [*]; done) | (apply decide_eq_true; omega) | fail "open") ?_; conv => enter [1]; whnf)
        | (refine Ends.iteF (by first | with_reducible assumption | (simp [*]; done) | (apply decide_eq_false; omega) | fail "open") ?_; conv => enter [1]; whnf))
      refine Ends.call (hdef) ?_
      conv => enter [1]; whnf
      repeat (first
        | (refine Ends.force ?_; conv => enter [1]; whnf)
        | (refine Ends.forceN ?_; conv => enter [1]; whnf)
        | (refine Ends.forceLs ?_; conv => enter [1]; whnf)
        | (refine Ends.iteT (by first | with_reducible assumption | (simp [*]; done) | (apply decide_eq_true; omega) | fail "open") ?_; conv => enter [1]; whnf)
        | (refine Ends.iteF (by first | with_reducible assumption | (simp [*]; done) | (apply decide_eq_false; omega) | fail "open") ?_; conv => enter [1]; whnf))
      refine Ends.iteF (eqBadPlace mk) ?_
      conv => enter [1]; whnf
      repeat (first
        | (refine Ends.force ?_; conv => enter [1]; whnf)
        | (refine Ends.forceN ?_; conv => enter [1]; whnf)
        | (refine Ends.forceLs ?_; conv => enter [1]; whnf)
        | (refine Ends.iteT (by first | with_reducible assumption | (simp [*]; done) | (apply decide_eq_true; omega) | fail "open") ?_; conv => enter [1]; whnf)
        | (refine Ends.iteF (by first | with_reducible assumption | (simp [*]; done) | (apply decide_eq_false; omega) | fail "open") ?_; conv => enter [1]; whnf))
      refine Ends.call (hdir) ?_
      conv => enter [1]; whnf
      repeat (first
        | (refine Ends.force ?_; conv => enter [1]; whnf)
        | (refine Ends.forceN ?_; conv => enter [1]; whnf)
        | (refine Ends.forceLs ?_; conv => enter [1]; whnf)
        | (refine Ends.iteT (by first | with_reducible assumption | (simp [*]; done) | (apply decide_eq_true; omega) | fail "open") ?_; conv => enter [1]; whnf)
        | (refine Ends.iteF (by first | with_reducible assumption | (simp [*]; done) | (apply decide_eq_false; omega) | fail "open") ?_; conv => enter [1]; whnf))
      refine Ends.iteF (eqBadPlace mk) ?_
      conv => enter [1]; whnf
      exact Ends.some' (by simp)
    by_cases r6 : rm = 6 ∧ md = 0
    · skip
      obtain ⟨r6, m0⟩ := r6
      have m4 : md < 3 := by omega
      have mp : ¬ md > 0 := by omega
      rw [if_neg m3, if_neg (by omega)] at hof hdef
      replace hof : _ = some (Val.tup [.agg (pairV (s 3) ++ [.int .u16 o1]), .bool o2], H) := hof
      conv => enter [1]; whnf
      repeat (first
        | (refine Ends.force ?_; conv => enter [1]; whnf)
        | (refine Ends.forceN ?_; conv => enter [1]; whnf)
        | (refine Ends.forceLs ?_; conv => enter [1]; whnf)
        | (refine Ends.iteT (by first | with_reducible assumption | (simp [*]; done) | (apply decide_eq_true; omega) | fail "open") ?_; conv => enter [1]; whnf)
        | (refine Ends.iteF (by first | with_reducible assumption | (simp [*]; done) | (apply decide_eq_false; omega) | fail "open") ?_; conv => enter [1]; whnf))
      refine Ends.call (hoff) ?_
      conv => enter [1]; whnf
      repeat (first
        | (refine Ends.force ?_; conv => enter [1]; whnf)
        | (refine Ends.forceN ?_; conv => enter [1]; whnf)
        | (refine Ends.forceLs ?_; conv => enter [1]; whnf)
        | (refine Ends.iteT (by first | with_reducible assumption | (simp [*]; done) | (apply decide_eq_true; omega) | fail "open") ?_; conv => enter [1]; whnf)
        | (refine Ends.iteF (by first | with_reducible assumption | (simp [*]; done) | (apply decide_eq_false; omega) | fail "open") ?_; conv => enter [1]; whnf))
      refine Ends.call (hof) ?_
      conv => enter [1]; whnf
      repeat (first
        | (refine Ends.force ?_; conv => enter [1]; whnf)
        | (refine Ends.forceN ?_; conv => enter [1]; whnf)
        | (refine Ends.forceLs ?_; conv => enter [1]; whnf)
        | (refine Ends.iteT (by first | with_reducible assumption | (simp [*]; done) | (apply decide_eq_true; omega) | fail "open") ?_; conv => enter [1]; whnf)
        | (refine Ends.iteF (by first | with_reducible assumption | (simp [*]; done) | (apply decide_eq_false; omega) | fail "open") ?_; conv => enter [1]; whnf))
      refine Ends.call (awake11_F mk K lo (by omega) H h0) ?_
      conv => enter [1]; whnf
      repeat (first
        | (refine Ends.force ?_; conv => enter [1]; whnf)
        | (refine Ends.forceN ?_; conv => enter [1]; whnf)
        | (refine Ends.forceLs ?_; conv => enter [1]; whnf)
        | (refine Ends.iteT (by first | with_reducible assumption | (simp [*]; done) | (apply decide_eq_true; omega) | fail "open") ?_; conv => enter [1]; whnf)
        | (refine Ends.iteF (by first | with_reducible assumption | (simp [*]; done) | (apply decide_eq_false; omega) | fail "open") ?_; conv => enter [1]; whnf))
      refine Ends.call (hdef) ?_
      conv => enter [1]; whnf
      repeat (first
        | (refine Ends.force ?_; conv => enter [1]; whnf)
        | (refine Ends.forceN ?_; conv => enter [1]; whnf)
        | (refine Ends.forceLs ?_; conv => enter [1]; whnf)
        | (refine Ends.iteT (by first | with_reducible assumption | (simp [*]; done) | (apply decide_eq_true; omega) | fail "open") ?_; conv => enter [1]; whnf)
        | (refine Ends.iteF (by first | with_reducible assumption | (simp [*]; done) | (apply decide_eq_false; omega) | fail "open") ?_; conv => enter [1]; whnf))
      refine Ends.iteF (eqBadPlace mk) ?_
      conv => enter [1]; whnf
      repeat (first
        | (refine Ends.force ?_; conv => enter [1]; whnf)
        | (refine Ends.forceN ?_; conv => enter [1]; whnf)
        | (refine Ends.forceLs ?_; conv => enter [1]; whnf)
        | (refine Ends.iteT (by first | with_reducible assumption | (simp [*]; done) | (apply decide_eq_true; omega) | fail "open") ?_; conv => enter [1]; whnf)
        | (refine Ends.iteF (by first | with_reducible assumption | (simp [*]; done) | (apply decide_eq_false; omega) | fail "open") ?_; conv => enter [1]; whnf))
      refine Ends.call (hdir) ?_
      conv => enter [1]; whnf
      repeat (first
        | (refine Ends.force ?_; conv => enter [1]; whnf)
        | (refine Ends.forceN ?_; conv => enter [1]; whnf)
        | (refine Ends.forceLs ?_; conv => enter [1]; whnf)
        | (refine Ends.iteT (by first | with_reducible assumption | (simp [*]; done) | (apply decide_eq_true; omega) | fail "open") ?_; conv => enter [1]; whnf)
        | (refine Ends.iteF (by first | with_reducible assumption | (simp [*]; done) | (apply decide_eq_false; omega) | fail "open") ?_; conv => enter [1]; whnf))
      refine Ends.iteF (eqBadPlace mk) ?_
      conv => enter [1]; whnf
      exact Ends.some' (by simp)
    by_cases r7 : rm = 6
    · skip
      have m4 : md < 3 := by omega
      have mp : md > 0 := by omega
      rw [if_neg m3, if_pos (by omega)] at hof hdef
      replace hof : _ = some (Val.tup [.agg (pairV (s 2) ++ [.int .u16 o1]), .bool o2], H) := hof
      conv => enter [1]; whnf
      repeat (first
        | (refine Ends.force ?_; conv => enter [1]; whnf)
        | (refine Ends.forceN ?_; conv => enter [1]; whnf)
        | (refine Ends.forceLs ?_; conv => enter [1]; whnf)
        | (refine Ends.iteT (by first | with_reducible assumption | (simp [*]; done) | (apply decide_eq_true; omega) | fail "open") ?_; conv => enter [1]; whnf)
        | (refine Ends.iteF (by first | with_reducible assumption | (simp [*]; done) | (apply decide_eq_false; omega) | fail "open") ?_; conv => enter [1]; whnf))
      refine Ends.call (hoff) ?_
      conv => enter [1]; whnf
      repeat (first
        | (refine Ends.force ?_; conv => enter [1]; whnf)
        | (refine Ends.forceN ?_; conv => enter [1]; whnf)
        | (refine Ends.forceLs ?_; conv => enter [1]; whnf)
        | (refine Ends.iteT (by first | with_reducible assumption | (simp [*]; done) | (apply decide_eq_true; omega) | fail "open") ?_; conv => enter [1]; whnf)
        | (refine Ends.iteF (by first | with_reducible assumption | (simp [*]; done) | (apply decide_eq_false; omega) | fail "open") ?_; conv => enter [1]; whnf))
      refine Ends.call (hof) ?_
      conv => enter [1]; whnf
      repeat (first
        | (refine Ends.force ?_; conv => enter [1]; whnf)
        | (refine Ends.forceN ?_; conv => enter [1]; whnf)
        | (refine Ends.forceLs ?_; conv => enter [1]; whnf)
        | (refine Ends.iteT (by first | with_reducible assumption | (simp [*]; done) | (apply decide_eq_true; omega) | fail "open") ?_; conv => enter [1]; whnf)
        | (refine Ends.iteF (by first | with_reducible assumption | (simp [*]; done) | (apply decide_eq_false; omega) | fail "open") ?_; conv => enter [1]; whnf))
      refine Ends.call (awake11_F mk K lo (by omega) H h0) ?_
      conv => enter [1]; whnf
      repeat (first
        | (refine Ends.force ?_; conv => enter [1]; whnf)
        | (refine Ends.forceN ?_; conv => enter [1]; whnf)
        | (refine Ends.forceLs ?_; conv => enter [1]; whnf)
        | (refine Ends.iteT (by first | with_reducible assumption | (simp [*]; done) | (apply decide_eq_true; omega) | fail "open") ?_; conv => enter [1]; whnf)
        | (refine Ends.iteF (by first | with_reducible assumption | (simp [*]; done) | (apply decide_eq_false; omega) | fail "open") ?_; conv => enter [1]; whnf))
      refine Ends.call (hdef) ?_
      conv => enter [1]; whnf
      repeat (first
        | (refine Ends.force ?_; conv => enter [1]; whnf)
        | (refine Ends.forceN ?_; conv => enter [1]; whnf)
        | (refine Ends.forceLs ?_; conv => enter [1]; whnf)
        | (refine Ends.iteT (by first | with_reducible assumption | (simp [*]; done) | (apply decide_eq_true; omega) | fail "open") ?_; conv => enter [1]; whnf)
        | (refine Ends.iteF (by first | with_reducible assumption | (simp [*]; done) | (apply decide_eq_false; omega) | fail "open") ?_; conv => enter [1]; whnf))
      refine Ends.iteF (eqBadPlace mk) ?_
      conv => enter [1]; whnf
      repeat (first
        | (refine Ends.force ?_; conv => enter [1]; whnf)
        | (refine Ends.forceN ?_; conv => enter [1]; whnf)
        | (refine Ends.forceLs ?_; conv => enter [1]; whnf)
        | (refine Ends.iteT (by first | with_reducible assumption | (simp [*]; done) | (apply decide_eq_true; omega) | fail "open") ?_; conv => enter [1]; whnf)
        | (refine Ends.iteF (by first | with_reducible assumption | (simp [*]; done) | (apply decide_eq_false; omega) | fail "open") ?_; conv => enter [1]; whnf))
      refine Ends.call (hdir) ?_
      conv => enter [1]; whnf
      repeat (first
        | (refine Ends.force ?_; conv => enter [1]; whnf)
        | (refine Ends.forceN ?_; conv => enter [1]; whnf)
        | (refine Ends.forceLs ?_; conv => enter [1]; whnf)
        | (refine Ends.iteT (by first | with_reducible assumption | (simp [*]; done) | (apply decide_eq_true; omega) | fail "open") ?_; conv => enter [1]; whnf)
        | (refine Ends.iteF (by first | with_reducible assumption | (simp [*]; done) | (apply decide_eq_false; omega) | fail "open") ?_; conv => enter [1]; whnf))
      refine Ends.iteF (eqBadPlace mk) ?_
      conv => enter [1]; whnf
      exact Ends.some' (by simp)
    have m4 : md < 3 := by omega
    rw [if_neg m3, if_neg (by omega)] at hof hdef
    replace hof : _ = some (Val.tup [.agg (pairV (s 3) ++ [.int .u16 o1]), .bool o2], H) := hof
    conv => enter [1]; whnf
    repeat (first
      | (refine Ends.force ?_; conv => enter [1]; whnf)
      | (refine Ends.forceN ?_; conv => enter [1]; whnf)
      | (refine Ends.forceLs ?_; conv => enter [1]; whnf)
      | (refine Ends.iteT (by first | with_reducible assumption | (simp [*]; done) | (apply decide_eq_true; omega) | fail "open") ?_; conv => enter [1]; whnf)
      | (refine Ends.iteF (by first | with_reducible assumption | (simp [*]; done) | (apply decide_eq_false; omega) | fail "open") ?_; conv => enter [1]; whnf))
    refine Ends.call (hoff) ?_
    conv => enter [1]; whnf
    repeat (first
      | (refine Ends.force ?_; conv => enter [1]; whnf)
      | (refine Ends.forceN ?_; conv => enter [1]; whnf)
      | (refine Ends.forceLs ?_; conv => enter [1]; whnf)
      | (refine Ends.iteT (by first | with_reducible assumption | (simp [*]; done) | (apply decide_eq_true; omega) | fail "open") ?_; conv => enter [1]; whnf)
      | (refine Ends.iteF (by first | with_reducible assumption | (simp [*]; done) | (apply decide_eq_false; omega) | fail "open") ?_; conv => enter [1]; whnf))
    refine Ends.call (hof) ?_
    conv => enter [1]; whnf
    repeat (first
      | (refine Ends.force ?_; conv => enter [1]; whnf)
      | (refine Ends.forceN ?_; conv => enter [1]; whnf)
      | (refine Ends.forceLs ?_; conv => enter [1]; whnf)
      | (refine Ends.iteT (by first | with_reducible assumption | (simp [*]; done) | (apply decide_eq_true; omega) | fail "open") ?_; conv => enter [1]; whnf)
      | (refine Ends.iteF (by first | with_reducible assumption | (simp [*]; done) | (apply decide_eq_false; omega) | fail "open") ?_; conv => enter [1]; whnf))
    refine Ends.call (awake11_F mk K lo (by omega) H h0) ?_
    conv => enter [1]; whnf
    repeat (first
      | (refine Ends.force ?_; conv => enter [1]; whnf)
      | (refine Ends.forceN ?_; conv => enter [1]; whnf)
      | (refine Ends.forceLs ?_; conv => enter [1]; whnf)
      | (refine Ends.iteT (by first | with_reducible assumption | (simp [*]; done) | (apply decide_eq_true; omega) | fail "open") ?_; conv => enter [1]; whnf)
      | (refine Ends.iteF (by first | with_reducible assumption | (simp [*]; done) | (apply decide_eq_false; omega) | fail "open") ?_; conv => enter [1]; whnf))
    refine Ends.call (hdef) ?_
    conv => enter [1]; whnf
    repeat (first
      | (refine Ends.force ?_; conv => enter [1]; whnf)
      | (refine Ends.forceN ?_; conv => enter [1]; whnf)
      | (refine Ends.forceLs ?_; conv => enter [1]; whnf)
      | (refine Ends.iteT (by first | with_reducible assumption | (simp [*]; done) | (apply decide_eq_true; omega) | fail "open") ?_; conv => enter [1]; whnf)
      | (refine Ends.iteF (by first | with_reducible assumption | (simp [*]; done) | (apply decide_eq_false; omega) | fail "open") ?_; conv => enter [1]; whnf))
    refine Ends.iteF (eqBadPlace mk) ?_
    conv => enter [1]; whnf
    repeat (first
      | (refine Ends.force ?_; conv => enter [1]; whnf)
      | (refine Ends.forceN ?_; conv => enter [1]; whnf)
      | (refine Ends.forceLs ?_; conv => enter [1]; whnf)
      | (refine Ends.iteT (by first | with_reducible assumption | (simp [*]; done) | (apply decide_eq_true; omega) | fail "open") ?_; conv => enter [1]; whnf)
      | (refine Ends.iteF (by first | with_reducible assumption | (simp [*]; done) | (apply decide_eq_false; omega) | fail "open") ?_; conv => enter [1]; whnf))
    refine Ends.call (hdir) ?_
    conv => enter [1]; whnf
    repeat (first
      | (refine Ends.force ?_; conv => enter [1]; whnf)
      | (refine Ends.forceN ?_; conv => enter [1]; whnf)
      | (refine Ends.forceLs ?_; conv => enter [1]; whnf)
      | (refine Ends.iteT (by first | with_reducible assumption | (simp [*]; done) | (apply decide_eq_true; omega) | fail "open") ?_; conv => enter [1]; whnf)
      | (refine Ends.iteF (by first | with_reducible assumption | (simp [*]; done) | (apply decide_eq_false; omega) | fail "open") ?_; conv => enter [1]; whnf))
    refine Ends.iteF (eqBadPlace mk) ?_
    conv => enter [1]; whnf
    exact Ends.some' (by simp)
end Go.Proofs.YtponkdimnafppaaDoor.VM
