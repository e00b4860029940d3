/- Calls of examples, run by the evaluator in the kernel: each answers true. -/
import Derived.Test.YtefjlfinjicfiaaDoorRunA
namespace Go.Proofs.YtefjlfinjicfiaaDoor
open Go Go.Ev
def cansB1 : Cans := [(7, []),
  (17, [.string ⟨#[94, 97, 98, 36]⟩, .string ⟨#[97, 98, 99]⟩, .int .i64 2]),
  (17, [.string ⟨#[65]⟩, .string ⟨#[97]⟩, .int .i64 2])]
set_option maxRecDepth 1000000 in
theorem cansB1_ok : CansOK Tryd.prog lds.tabs cansB1 :=
  cansOK_of (n := 2000) mixed noNum tabsOk cansOK_nil (by kernel_rfl) (by kernel_rfl)
end Go.Proofs.YtefjlfinjicfiaaDoor
