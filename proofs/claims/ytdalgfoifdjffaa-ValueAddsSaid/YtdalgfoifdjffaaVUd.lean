/- ValueAdds by the plain machine: the law in the program. -/
import Derived.Test.YtdalgfoifdjffaaVUb1
import Derived.Test.YtdalgfoifdjffaaVUb2
import Derived.Test.YtdalgfoifdjffaaVUb3
import Derived.Test.YtdalgfoifdjffaaVUb4
namespace Go.Proofs.Ytdalgfoifdjffaa.VM
open Go Go.RowKit
set_option linter.unusedVariables false
set_option linter.unusedSimpArgs false
theorem i64_of_wf {x : Int} (h : (Lit.int .i64 x).wf = true) : I64 x := by
  simp only [Lit.wf, Bool.and_eq_true, decide_eq_true_eq] at h
  have h1 : IntKind.i64.min = -9223372036854775808 := rfl
  have h2 : IntKind.i64.max = 9223372036854775807 := rfl
  unfold I64
  omega
theorem valueAdds_w (an af aw at' aa : Int) (ak : Bool) (bn bf bw bt ba : Int) (bk : Bool) (W : World) (han : (Lit.int .i64 an).wf = true) (haf : (Lit.int .i64 af).wf = true) (haw : (Lit.int .i64 aw).wf = true) (hat : (Lit.int .i64 at').wf = true) (haa : (Lit.int .i64 aa).wf = true) (hbn : (Lit.int .i64 bn).wf = true) (hbf : (Lit.int .i64 bf).wf = true) (hbw : (Lit.int .i64 bw).wf = true) (hbt : (Lit.int .i64 bt).wf = true) (hba : (Lit.int .i64 ba).wf = true) :
    Calls Try.prog 9 #[.agg #[.int .i64 an, .int .i64 af, .int .i64 aw, .int .i64 at', .int .i64 aa, .bool ak], .agg #[.int .i64 bn, .int .i64 bf, .int .i64 bw, .int .i64 bt, .int .i64 ba, .bool bk]] W fun e W' => e = .returned (.bool true) ∧ Below W.heap.size W W' := by
  have hE : Ends (FF 13 0 9 [.agg [.int .i64 an, .int .i64 af, .int .i64 aw, .int .i64 at', .int .i64 aa, .bool ak], .agg [.int .i64 bn, .int .i64 bf, .int .i64 bw, .int .i64 bt, .int .i64 ba, .bool bk]] []) (fun r => r.1 = .bool true) := by
    have h1 := i64_of_wf han; have h2 := i64_of_wf haa; have h3 := i64_of_wf hbn; have h4 := i64_of_wf hba
    by_cases hx : af % 4 = 0 <;> by_cases hy : bf % 4 = 0
    · exact adds_F1 _ _ _ _ _ _ _ _ _ _ _ _ h1 h2 h3 h4 hx hy
    · exact adds_F2 _ _ _ _ _ _ _ _ _ _ _ _ h1 h2 h3 h4 hx hy
    · exact adds_F3 _ _ _ _ _ _ _ _ _ _ _ _ h1 h2 h3 h4 hx hy
    · exact adds_F4 _ _ _ _ _ _ _ _ _ _ _ _ h1 h2 h3 h4 hx hy
  obtain ⟨⟨v, H'⟩, he, rfl⟩ := hE
  refine law_of (ρ := fun _ => none) (H0 := []) follows annok he (fun b c z => by cases z) (fun k c cs z => by cases z) (fun b c z => by cases z) ?_
  refine ⟨⟨_, rfl, rfl, rfl, rfl, rfl, rfl, rfl, trivial⟩, ⟨_, rfl, rfl, rfl, rfl, rfl, rfl, rfl, trivial⟩, trivial⟩
end Go.Proofs.Ytdalgfoifdjffaa.VM
