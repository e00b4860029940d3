/- Calls of examples, run by the evaluator in the kernel: each answers true. -/
import Derived.Test.YtcofabncajkemaaDoorRunA
namespace Go.Proofs.YtcofabncajkemaaDoor
open Go Go.Ev
def cansB1 : Cans := [(27, [.string ⟨#[94, 97, 98, 99]⟩, .int .i64 20000])]
set_option maxRecDepth 1000000 in
theorem cansB1_ok : CansOK Tryd.prog lds.tabs cansB1 :=
  cansOK_of (n := 2000) mixed noNum tabsOk cansOK_nil (by kernel_rfl) (by kernel_rfl)
end Go.Proofs.YtcofabncajkemaaDoor
