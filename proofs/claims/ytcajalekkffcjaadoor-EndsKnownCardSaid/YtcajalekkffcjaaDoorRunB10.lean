/- Calls of examples, run by the evaluator in the kernel. -/
import Derived.Test.YtcajalekkffcjaaDoorRunA
namespace Go.Proofs.YtcajalekkffcjaaDoor
open Go Go.Ev
def cansB10 : Cans := [⟨29, [.val (.string ⟨#[94, 47, 97]⟩), .val (.string ⟨#[94, 47, 98]⟩), .val (.bool false)], .bool true⟩]
set_option maxRecDepth 1000000 in
theorem cansB10_ok : CansOK Tryd.prog lds.tabs cansB10 :=
  cansOK_of (n := 2000) mixed noNum tabsOk cansOK_nil (by kernel_rfl) (by kernel_rfl)
end Go.Proofs.YtcajalekkffcjaaDoor
