/- Calls of examples, run by the evaluator in the kernel. -/
import Derived.Test.YtegiokgbljmamaaRunA
namespace Go.Proofs.Ytegiokgbljmamaa
open Go Go.Ev
def cansB7 : Cans := [⟨33, [.val (.string ⟨#[97, 124]⟩), .val (.int .i64 0), .val (.int .i64 1)], .bool true⟩,
  ⟨35, [.val (.string ⟨#[47, 120, 47, 40, 46, 42, 41, 47, 121]⟩), .val (.int .i64 0), .sl 1 [.int .i64 0]], .bool true⟩,
  ⟨33, [.val (.string ⟨#[94, 36]⟩), .val (.int .i64 0), .val (.int .i64 0)], .bool true⟩]
set_option maxRecDepth 1000000 in
theorem cansB7_ok : CansOK Try.prog lds.tabs cansB7 :=
  cansOK_of (n := 2000) mixed noNum tabsOk cansOK_nil (by kernel_rfl) (by kernel_rfl)
end Go.Proofs.Ytegiokgbljmamaa
