/- Calls of examples, run by the evaluator in the kernel: each answers true. -/
import Derived.Test.YtgjfhlpbldhcoaaDoorRunA
namespace Go.Proofs.YtgjfhlpbldhcoaaDoor
open Go Go.Ev
def cansB1 : Cans := [(11, [])]
set_option maxRecDepth 1000000 in
theorem cansB1_ok : CansOK Tryd.prog 0 tab cansB1 :=
  cansOK_of (n := 2000) mixed noNum tabScal tabNe gLt cansOK_nil (by kernel_rfl) (by kernel_rfl)
end Go.Proofs.YtgjfhlpbldhcoaaDoor
