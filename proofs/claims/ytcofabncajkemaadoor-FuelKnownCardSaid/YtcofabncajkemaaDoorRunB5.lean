/- Calls of examples, run by the evaluator in the kernel: each answers true. -/
import Derived.Test.YtcofabncajkemaaDoorRunA
namespace Go.Proofs.YtcofabncajkemaaDoor
open Go Go.Ev
def cansB5 : Cans := [(28, [.string ⟨#[97, 98, 99]⟩, .string ⟨#[]⟩, .int .i64 1])]
set_option maxRecDepth 1000000 in
theorem cansB5_ok : CansOK Tryd.prog lds.tabs cansB5 :=
  cansOK_of (n := 2000) mixed noNum tabsOk cansOK_nil (by kernel_rfl) (by kernel_rfl)
end Go.Proofs.YtcofabncajkemaaDoor
