/- The walk of the law AssumeRaw: it returns true at every input. -/
import Derived.Test.YtdalgfoifdjffaaAssC
namespace Go.Proofs.Ytdalgfoifdjffaa.My
open Go.RowKit Go.Proofs.YtdalgfoifdjffaaW.PrintWords Go.Proofs.YtdalgfoifdjffaaW.PrintLast Go.Proofs.YtdalgfoifdjffaaW.PrintMore
set_option linter.unusedVariables false
set_option linter.unusedSimpArgs false
theorem assumeRaw_w (a0 a1 a2 a3 a4 a5 a6 a7 : Int) (n : Int) (v0 v1 v2 v3 v4 : Int) (v5 : Bool) (w : World) (p0 : (Lit.int .i64 a0).wf = true) (p1 : (Lit.int .i64 a1).wf = true) (p2 : (Lit.int .i64 a2).wf = true) (p3 : (Lit.int .i64 a3).wf = true) (p4 : (Lit.int .i64 a4).wf = true) (p5 : (Lit.int .i64 a5).wf = true) (p6 : (Lit.int .i64 a6).wf = true) (p7 : (Lit.int .i64 a7).wf = true) (p8 : (Lit.int .i64 n).wf = true) (p9 : (Lit.int .i64 v0).wf = true) (p10 : (Lit.int .i64 v1).wf = true) (p11 : (Lit.int .i64 v2).wf = true) (p12 : (Lit.int .i64 v3).wf = true) (p13 : (Lit.int .i64 v4).wf = true) :
    Calls Try.prog 4 #[.agg #[.int .i64 a0, .int .i64 a1, .int .i64 a2, .int .i64 a3, .int .i64 a4, .int .i64 a5, .int .i64 a6, .int .i64 a7], .int .i64 n, .agg #[.int .i64 v0, .int .i64 v1, .int .i64 v2, .int .i64 v3, .int .i64 v4, .bool v5]] w fun e w' => e = .returned (.bool true) ∧ Below w.heap.size w w' := by
  by_cases hlo : n < 0
  · exact raw_lo a0 a1 a2 a3 a4 a5 a6 a7 n hlo v0 v1 v2 v3 v4 v5 w
  by_cases hhi : 3 < n
  · exact raw_hi a0 a1 a2 a3 a4 a5 a6 a7 n (by omega) v0 v1 v2 v3 v4 v5 w
  rcases (show n = 0 ∨ n = 1 ∨ n = 2 ∨ n = 3 by omega) with rfl | rfl | rfl | rfl
  · cases h1 : (v1 == 1)
    · exact raw_0_0 a0 a1 a2 a3 a4 a5 a6 a7 v0 v1 v2 v3 v4 v5 h1 w
    · cases h2 : (a0 == 2)
      · exact raw_0_1 a0 a1 a2 a3 a4 a5 a6 a7 v0 v1 v2 v3 v4 v5 h1 h2 w
      · exact raw_0_2 a0 a1 a2 a3 a4 a5 a6 a7 v0 v1 v2 v3 v4 v5 h1 h2 w
  · cases h1 : (v1 == 1)
    · exact raw_1_0 a0 a1 a2 a3 a4 a5 a6 a7 v0 v1 v2 v3 v4 v5 h1 w
    · cases h2 : (a2 == 2)
      · exact raw_1_1 a0 a1 a2 a3 a4 a5 a6 a7 v0 v1 v2 v3 v4 v5 h1 h2 w
      · exact raw_1_2 a0 a1 a2 a3 a4 a5 a6 a7 v0 v1 v2 v3 v4 v5 h1 h2 w
  · cases h1 : (v1 == 1)
    · exact raw_2_0 a0 a1 a2 a3 a4 a5 a6 a7 v0 v1 v2 v3 v4 v5 h1 w
    · cases h2 : (a4 == 2)
      · exact raw_2_1 a0 a1 a2 a3 a4 a5 a6 a7 v0 v1 v2 v3 v4 v5 h1 h2 w
      · exact raw_2_2 a0 a1 a2 a3 a4 a5 a6 a7 v0 v1 v2 v3 v4 v5 h1 h2 w
  · cases h1 : (v1 == 1)
    · exact raw_3_0 a0 a1 a2 a3 a4 a5 a6 a7 v0 v1 v2 v3 v4 v5 h1 w
    · cases h2 : (a6 == 2)
      · exact raw_3_1 a0 a1 a2 a3 a4 a5 a6 a7 v0 v1 v2 v3 v4 v5 h1 h2 w
      · exact raw_3_2 a0 a1 a2 a3 a4 a5 a6 a7 v0 v1 v2 v3 v4 v5 h1 h2 w
end Go.Proofs.Ytdalgfoifdjffaa.My
