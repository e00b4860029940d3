/- Calls of examples, run by the evaluator in the kernel. -/
import Derived.Test.YtcajalekkffcjaaDoorRunA
namespace Go.Proofs.YtcajalekkffcjaaDoor
open Go Go.Ev
def cansB9 : Cans := [⟨27, [.val (.string ⟨#[94, 47, 97, 91, 48, 45, 57, 93, 98, 42, 99, 36]⟩), .val (.agg #[.string ⟨#[47, 97, 53]⟩, .string ⟨#[47, 97, 53]⟩, .bool true, .int .i64 3, .int .i64 3]), .val (.bool false)], .bool true⟩]
set_option maxRecDepth 1000000 in
theorem cansB9_ok : CansOK Tryd.prog lds.tabs cansB9 :=
  cansOK_of (n := 2000) mixed noNum tabsOk cansOK_nil (by kernel_rfl) (by kernel_rfl)
end Go.Proofs.YtcajalekkffcjaaDoor
