/- Calls of examples, run by the evaluator in the kernel: each answers true. -/
import Derived.Test.YtmomjflimfajlaaDoorRunA
namespace Go.Proofs.YtmomjflimfajlaaDoor
open Go Go.Ev
def cansC : Cans := [(29, [.string ⟨#[92, 100]⟩, .string ⟨#[91, 48, 45, 57, 93]⟩]),
  (29, [.string ⟨#[92, 46]⟩, .string ⟨#[92, 46]⟩])]
set_option maxRecDepth 1000000 in
theorem cansC_ok : CansOK Tryd.prog 0 tab cansC :=
  cansOK_of (n := 2000) mixed noNum tabScal tabNe gLt cansOK_nil (by kernel_rfl) (by kernel_rfl)
end Go.Proofs.YtmomjflimfajlaaDoor
