/- Calls of examples, run by the evaluator in the kernel: each answers true. -/
import Derived.Test.YtcofabncajkemaaDoorRunA
namespace Go.Proofs.YtcofabncajkemaaDoor
open Go Go.Ev
def cansB3 : Cans := [(27, [.string ⟨#[97, 42, 98]⟩, .int .i64 172])]
set_option maxRecDepth 1000000 in
theorem cansB3_ok : CansOK Tryd.prog lds.tabs cansB3 :=
  cansOK_of (n := 2000) mixed noNum tabsOk cansOK_nil (by kernel_rfl) (by kernel_rfl)
end Go.Proofs.YtcofabncajkemaaDoor
