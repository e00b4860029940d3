/- Calls of examples, run by the evaluator in the kernel. -/
import Derived.Test.YtegiokgbljmamaaRunA
namespace Go.Proofs.Ytegiokgbljmamaa
open Go Go.Ev
def cansB5 : Cans := [⟨35, [.val (.string ⟨#[47, 120, 47, 40, 46, 42, 41, 47, 121]⟩), .val (.int .i64 5), .val (.slice none 0 0)], .bool true⟩]
set_option maxRecDepth 1000000 in
theorem cansB5_ok : CansOK Try.prog lds.tabs cansB5 :=
  cansOK_of (n := 2000) mixed noNum tabsOk cansOK_nil (by kernel_rfl) (by kernel_rfl)
end Go.Proofs.Ytegiokgbljmamaa
