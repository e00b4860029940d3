/- Calls of examples, run by the evaluator in the kernel. -/
import Derived.Test.YtnoafllahiljmaaGreatDoorRunA
namespace Go.Proofs.YtnoafllahiljmaaGreatDoor
open Go Go.Ev
def cansB1 : Cans := [⟨9, [], .bool true⟩]
set_option maxRecDepth 1000000 in
theorem cansB1_ok : CansOK Tryz.prog lds.tabs cansB1 :=
  cansOK_of (n := 2000) mixed noNum tabsOk cansOK_nil (by kernel_rfl) (by kernel_rfl)
end Go.Proofs.YtnoafllahiljmaaGreatDoor
