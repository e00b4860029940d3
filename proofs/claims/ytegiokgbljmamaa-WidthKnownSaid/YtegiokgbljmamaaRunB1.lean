/- Calls of examples, run by the evaluator in the kernel. -/
import Derived.Test.YtegiokgbljmamaaRunA
namespace Go.Proofs.Ytegiokgbljmamaa
open Go Go.Ev
def cansB1 : Cans := [⟨11, [], .bool true⟩]
set_option maxRecDepth 1000000 in
theorem cansB1_ok : CansOK Try.prog lds.tabs cansB1 :=
  cansOK_of (n := 2000) mixed noNum tabsOk cansOK_nil (by kernel_rfl) (by kernel_rfl)
end Go.Proofs.Ytegiokgbljmamaa
