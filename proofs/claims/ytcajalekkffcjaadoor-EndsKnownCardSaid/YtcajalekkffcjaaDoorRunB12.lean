/- Calls of examples, run by the evaluator in the kernel. -/
import Derived.Test.YtcajalekkffcjaaDoorRunA
namespace Go.Proofs.YtcajalekkffcjaaDoor
open Go Go.Ev
def cansB12 : Cans := [⟨29, [.val (.string ⟨#[94, 97]⟩), .val (.string ⟨#[98]⟩), .val (.bool true)], .bool true⟩,
  ⟨25, [.val (.string ⟨#[94, 97, 124, 98, 36]⟩), .val (.bool false), .val (.string ⟨#[]⟩), .val (.string ⟨#[]⟩), .val (.int .i64 1), .val (.int .i64 1)], .bool true⟩]
set_option maxRecDepth 1000000 in
theorem cansB12_ok : CansOK Tryd.prog lds.tabs cansB12 :=
  cansOK_of (n := 2000) mixed noNum tabsOk cansOK_nil (by kernel_rfl) (by kernel_rfl)
end Go.Proofs.YtcajalekkffcjaaDoor
