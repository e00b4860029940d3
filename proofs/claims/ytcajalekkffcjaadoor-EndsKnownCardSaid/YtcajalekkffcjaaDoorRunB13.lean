/- Calls of examples, run by the evaluator in the kernel. -/
import Derived.Test.YtcajalekkffcjaaDoorRunA
namespace Go.Proofs.YtcajalekkffcjaaDoor
open Go Go.Ev
def cansB13 : Cans := [⟨25, [.val (.string ⟨#[94, 47, 97]⟩), .val (.bool false), .val (.string ⟨#[47, 97]⟩), .val (.string ⟨#[]⟩), .val (.int .i64 2), .val (.int .i64 (-1))], .bool true⟩]
set_option maxRecDepth 1000000 in
theorem cansB13_ok : CansOK Tryd.prog lds.tabs cansB13 :=
  cansOK_of (n := 2000) mixed noNum tabsOk cansOK_nil (by kernel_rfl) (by kernel_rfl)
end Go.Proofs.YtcajalekkffcjaaDoor
