/- Calls of examples, run by the evaluator in the kernel: each answers true. -/
import Derived.Test.YtmomjflimfajlaaDoorRunA
namespace Go.Proofs.YtmomjflimfajlaaDoor
open Go Go.Ev
def cansD : Cans := [(29, [.string ⟨#[91, 94, 97, 93]⟩, .string ⟨#[91, 0, 45, 96, 98, 45, 255, 93]⟩])]
set_option maxRecDepth 1000000 in
theorem cansD_ok : CansOK Tryd.prog 0 tab cansD :=
  cansOK_of (n := 2000) mixed noNum tabScal tabNe gLt cansOK_nil (by kernel_rfl) (by kernel_rfl)
end Go.Proofs.YtmomjflimfajlaaDoor
