/- Calls of examples, run by the evaluator in the kernel: each answers true. -/
import Derived.Test.YtmomjflimfajlaaDoorRunA
namespace Go.Proofs.YtmomjflimfajlaaDoor
open Go Go.Ev
def cansF : Cans := [(28, [.string ⟨#[91, 94, 0, 45, 255, 93]⟩, .int .i64 3, .int .i64 5])]
set_option maxRecDepth 1000000 in
theorem cansF_ok : CansOK Tryd.prog 0 tab cansF :=
  cansOK_of (n := 2000) mixed noNum tabScal tabNe gLt cansOK_nil (by kernel_rfl) (by kernel_rfl)
end Go.Proofs.YtmomjflimfajlaaDoor
