/- Calls of examples, run by the evaluator in the kernel. -/
import Derived.Test.YtegiokgbljmamaaRunA
namespace Go.Proofs.Ytegiokgbljmamaa
open Go Go.Ev
def cansB3 : Cans := [⟨34, [.val (.string ⟨#[40, 97, 40, 98, 63, 41, 41, 99, 42]⟩), .val (.int .i64 0), .val (.int .i64 1), .val (.int .i64 (-1))], .bool true⟩]
set_option maxRecDepth 1000000 in
theorem cansB3_ok : CansOK Try.prog lds.tabs cansB3 :=
  cansOK_of (n := 2000) mixed noNum tabsOk cansOK_nil (by kernel_rfl) (by kernel_rfl)
end Go.Proofs.Ytegiokgbljmamaa
