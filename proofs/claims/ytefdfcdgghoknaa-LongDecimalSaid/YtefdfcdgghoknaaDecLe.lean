/- The walk of the law LongDecimal. -/
import Derived.Test.YtefdfcdgghoknaaDecA
import Derived.Test.YtefdfcdgghoknaaLongV
import Derived.Test.YtefdfcdgghoknaaAluL
namespace Go.Proofs.Ytefdfcdgghoknaa.My
open Go.RowKit Go.Proofs.YtefdfcdgghoknaaW.PrintWords Go.Proofs.YtefdfcdgghoknaaW.PrintLast Go.Proofs.YtefdfcdgghoknaaW.PrintMore
set_option linter.unusedVariables false
set_option linter.unusedSimpArgs false
theorem andN2048 (k : Nat) (h : k < 65536) : Go.bits .and .u16 k 2048 = ((k &&& 2048 : Nat) : Int) := andN k 2048 h (by decide)
end Go.Proofs.Ytefdfcdgghoknaa.My
