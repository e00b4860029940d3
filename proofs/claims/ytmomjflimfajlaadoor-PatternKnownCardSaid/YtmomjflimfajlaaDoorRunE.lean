/- Calls of examples, run by the evaluator in the kernel: each answers true. -/
import Derived.Test.YtmomjflimfajlaaDoorRunA
namespace Go.Proofs.YtmomjflimfajlaaDoor
open Go Go.Ev
def cansE : Cans := [(10, [])]
set_option maxRecDepth 1000000 in
theorem cansE_ok : CansOK Tryd.prog 0 tab cansE :=
  cansOK_of (n := 2000) mixed noNum tabScal tabNe gLt cansOK_nil (by kernel_rfl) (by kernel_rfl)
end Go.Proofs.YtmomjflimfajlaaDoor
