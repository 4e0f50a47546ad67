/- ValueAdds by the plain machine: the law, a case. -/
import Derived.Test.YtdalgfoifdjffaaVUa
namespace Go.Proofs.Ytdalgfoifdjffaa.VM
open Go Go.RowKit
set_option linter.unusedVariables false
set_option linter.unusedSimpArgs false
set_option maxRecDepth 10000
set_option maxHeartbeats 800000 in
theorem adds_F3 (an af aw at' aa bn bf bw bt ba : Int) (ak bk : Bool) (ha : I64 an) (haa : I64 aa) (hb : I64 bn) (hba : I64 ba) (hx : ¬ af % 4 = 0) (hy : bf % 4 = 0) : Ends (FF 13 0 9 [.agg [.int .i64 an, .int .i64 af, .int .i64 aw, .int .i64 at', .int .i64 aa, .bool ak], .agg [.int .i64 bn, .int .i64 bf, .int .i64 bw, .int .i64 bt, .int .i64 ba, .bool bk]] []) (fun r => r.1 = .bool true) := by
  obtain ⟨k, hk⟩ : ∃ k, k = 12 := ⟨_, rfl⟩
  show Ends (FF (12 + 1) 0 9 _ _) _
  rw [← hk]
  conv => enter [1]; whnf
  refine Ends.call (near_F _ _ (by omega) _ _ _ _ _ _ ha haa _) ?_
  conv => enter [1]; whnf
  refine Ends.call (near_F _ _ (by omega) _ _ _ _ _ _ hb hba _) ?_
  conv => enter [1]; whnf
  generalize hxn : cutZ an = xn
  generalize hyn : cutZ bn = yn
  have Hx : -2147483648 ≤ xn ∧ xn < 2147483648 := by rw [← hxn]; unfold cutZ; omega
  have Hy : -2147483648 ≤ yn ∧ yn < 2147483648 := by rw [← hyn]; unfold cutZ; omega
  have Hxf : af % 4 = 0 → (if af % 4 = 0 then 0 else aa % 256 % 3) = 0 := by intro h; simp [h]
  have Hyf : bf % 4 = 0 → (if bf % 4 = 0 then 0 else ba % 256 % 3) = 0 := by intro h; simp [h]
  generalize (if af % 4 = 0 then 0 else aa % 256 % 3) = xa at Hxf ⊢
  generalize (if bf % 4 = 0 then 0 else ba % 256 % 3) = ya at Hyf ⊢
  generalize af % 4 = xf at hx Hxf ⊢
  generalize bf % 4 = yf at hy Hyf ⊢
  generalize aw % 2 = xw
  generalize bw % 2 = yw
  have wa : IntKind.i64.wrap (xn + yn) = xn + yn := by rw [w64]; omega
  have ws : IntKind.i64.wrap (xn - yn) = xn - yn := by rw [w64]; omega
  have ca : I64 (IntKind.i64.wrap (xn + yn)) := by rw [wa]; unfold I64; omega
  have cs : I64 (IntKind.i64.wrap (xn - yn)) := by rw [ws]; unfold I64; omega
  clear ha haa hb hba hxn hyn
  subst hy
  have := Hyf rfl; subst this
  have pb : ((0:Int) == 0 && (0:Int) == 0) = true := rfl
  have pa : (xf == 0 && xa == 0) = false := by simp [hx]
  have pa' : (xf == 0) = false := by simp [hx]
  repeat' (first
    | refine Ends.some' ?_
    | (refine Ends.call (sub3 _ _ (by omega) _ _ _ _ _ _ _ _ _ _ _ _ (by assumption) (by assumption) _) ?_; conv => enter [1]; whnf)
    | (refine Ends.call (sub2 _ _ (by omega) _ _ _ _ _ _ _ _ _ _ _ _ (by assumption) (by assumption) _) ?_; conv => enter [1]; whnf)
    | (refine Ends.call (sub1 _ _ (by omega) _ _ _ _ _ _ _ _ _ _ _ _ (by assumption) _) ?_; conv => enter [1]; whnf)
    | (refine Ends.call (add3 _ _ (by omega) _ _ _ _ _ _ _ _ _ _ _ _ (by assumption) (by assumption) _) ?_; conv => enter [1]; whnf)
    | (refine Ends.call (add2 _ _ (by omega) _ _ _ _ _ _ _ _ _ _ _ _ (by assumption) (by assumption) _) ?_; conv => enter [1]; whnf)
    | (refine Ends.call (add1 _ _ (by omega) _ _ _ _ _ _ _ _ _ _ _ _ (by assumption) _) ?_; conv => enter [1]; whnf)
    | (refine Ends.call (awake29_F _ _ (by omega) _) ?_; conv => enter [1]; whnf)
    | (refine Ends.call (plain_F _ _ (by omega) _ _ _ _ _ _ _) ?_; conv => enter [1]; whnf)
    | (refine Ends.call (cut_F _ _ (by omega) _ (by simp only [I64, w64]; omega) _) ?_; conv => enter [1]; whnf)
    | (refine Ends.call (cut_F _ _ (by omega) _ (by assumption) _) ?_; conv => enter [1]; whnf)
    | (refine Ends.iteT (by first | with_reducible assumption | (simp [*]; done) | fail "open") ?_; conv => enter [1]; whnf)
    | (refine Ends.iteF (by first | with_reducible assumption | (simp [*]; done) | fail "open") ?_; conv => enter [1]; whnf)
    | (refine Ends.ite (fun h => ?_) (fun h => ?_) <;> (conv => enter [1]; whnf)))
  all_goals (first | (with_reducible rfl) | (simp_all; done) | (cases ak <;> simp_all; done))
end Go.Proofs.Ytdalgfoifdjffaa.VM
