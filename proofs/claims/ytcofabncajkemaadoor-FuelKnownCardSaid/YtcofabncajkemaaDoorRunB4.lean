/- Calls of examples, run by the evaluator in the kernel: each answers true. -/
import Derived.Test.YtcofabncajkemaaDoorRunA
namespace Go.Proofs.YtcofabncajkemaaDoor
open Go Go.Ev
def cansB4 : Cans := [(8, []),
  (28, [.string ⟨#[94, 97, 98, 99]⟩, .string ⟨#[97, 98, 100]⟩, .int .i64 3])]
set_option maxRecDepth 1000000 in
theorem cansB4_ok : CansOK Tryd.prog lds.tabs cansB4 :=
  cansOK_of (n := 2000) mixed noNum tabsOk cansOK_nil (by kernel_rfl) (by kernel_rfl)
end Go.Proofs.YtcofabncajkemaaDoor
