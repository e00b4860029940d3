/- Calls of examples, run by the evaluator in the kernel. -/
import Derived.Test.YtegiokgbljmamaaRunA
namespace Go.Proofs.Ytegiokgbljmamaa
open Go Go.Ev
def cansB6 : Cans := [⟨35, [.val (.string ⟨#[40, 97, 40, 98, 41, 41, 99]⟩), .val (.int .i64 1), .sl 1 [.int .i64 1]], .bool true⟩,
  ⟨33, [.val (.string ⟨#[97, 98, 99]⟩), .val (.int .i64 3), .val (.int .i64 3)], .bool true⟩]
set_option maxRecDepth 1000000 in
theorem cansB6_ok : CansOK Try.prog lds.tabs cansB6 :=
  cansOK_of (n := 2000) mixed noNum tabsOk cansOK_nil (by kernel_rfl) (by kernel_rfl)
end Go.Proofs.Ytegiokgbljmamaa
