/- ValueDoes by the plain machine: the law in the program. -/
import Derived.Test.YtdalgfoifdjffaaVVb0
import Derived.Test.YtdalgfoifdjffaaVVb1
import Derived.Test.YtdalgfoifdjffaaVVb2
import Derived.Test.YtdalgfoifdjffaaVVb3
import Derived.Test.YtdalgfoifdjffaaVVb4
import Derived.Test.YtdalgfoifdjffaaVVb5
import Derived.Test.YtdalgfoifdjffaaVVb6
import Derived.Test.YtdalgfoifdjffaaVVb7
import Derived.Test.YtdalgfoifdjffaaVVb8
import Derived.Test.YtdalgfoifdjffaaVVb9
import Derived.Test.YtdalgfoifdjffaaVVb10
import Derived.Test.YtdalgfoifdjffaaVVb11
import Derived.Test.YtdalgfoifdjffaaVVb12
import Derived.Test.YtdalgfoifdjffaaVVb13
import Derived.Test.YtdalgfoifdjffaaVVb14
import Derived.Test.YtdalgfoifdjffaaVVb15
namespace Go.Proofs.Ytdalgfoifdjffaa.VM
open Go Go.RowKit
set_option linter.unusedVariables false
theorem i64_of_wf' {x : Int} (h : (Lit.int .i64 x).wf = true) : I64 x := by
  simp only [Lit.wf, Bool.and_eq_true, decide_eq_true_eq] at h
  have h1 : IntKind.i64.min = -9223372036854775808 := rfl
  have h2 : IntKind.i64.max = 9223372036854775807 := rfl
  unfold I64
  omega
theorem valueDoes_w (a b word : Int) (W : World) (ha : (Lit.int .i64 a).wf = true) (hb : (Lit.int .i64 b).wf = true) (hw : (Lit.int .i64 word).wf = true) :
    Calls Try.prog 7 #[.int .i64 a, .int .i64 b, .int .i64 word] W fun e W' => e = .returned (.bool true) ∧ Below W.heap.size W W' := by
  have hE : Ends (FF 13 0 7 [.int .i64 a, .int .i64 b, .int .i64 word] []) (fun r => r.1 = .bool true) := by
    have h1 := i64_of_wf' ha
    have h2 := i64_of_wf' hb
    rcases (by omega : word % 16 = 0 ∨ word % 16 = 1 ∨ word % 16 = 2 ∨ word % 16 = 3 ∨ word % 16 = 4 ∨ word % 16 = 5 ∨ word % 16 = 6 ∨ word % 16 = 7 ∨ word % 16 = 8 ∨ word % 16 = 9 ∨ word % 16 = 10 ∨ word % 16 = 11 ∨ word % 16 = 12 ∨ word % 16 = 13 ∨ word % 16 = 14 ∨ word % 16 = 15) with h | h | h | h | h | h | h | h | h | h | h | h | h | h | h | h
    · exact does0 a b word h1 h2 h
    · exact does1 a b word h1 h2 h
    · exact does2 a b word h1 h2 h
    · exact does3 a b word h1 h2 h
    · exact does4 a b word h1 h2 h
    · exact does5 a b word h1 h2 h
    · exact does6 a b word h1 h2 h
    · exact does7 a b word h1 h2 h
    · exact does8 a b word h1 h2 h
    · exact does9 a b word h1 h2 h
    · exact does10 a b word h1 h2 h
    · exact does11 a b word h1 h2 h
    · exact does12 a b word h1 h2 h
    · exact does13 a b word h1 h2 h
    · exact does14 a b word h1 h2 h
    · exact does15 a b word h1 h2 h
  obtain ⟨⟨v, H'⟩, he, hv⟩ := hE
  replace hv : v = .bool true := hv
  subst hv
  refine law_of (ρ := fun _ => none) (H0 := []) follows annok he (fun b c z => by cases z) (fun k c cs z => by cases z) (fun b c z => by cases z) ?_
  exact ⟨rfl, rfl, rfl, trivial⟩
end Go.Proofs.Ytdalgfoifdjffaa.VM
