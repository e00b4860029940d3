/- Calls of examples, run by the evaluator in the kernel. -/
import Derived.Test.YtcajalekkffcjaaDoorRunA
namespace Go.Proofs.YtcajalekkffcjaaDoor
open Go Go.Ev
def cansB8 : Cans := [⟨27, [.val (.string ⟨#[94, 47, 97, 91, 48, 45, 57, 93, 98, 42, 99, 36]⟩), .val (.agg #[.string ⟨#[47, 98]⟩, .string ⟨#[99]⟩, .bool false, .int .i64 3, .int .i64 (-1)]), .val (.bool false)], .bool true⟩]
set_option maxRecDepth 1000000 in
theorem cansB8_ok : CansOK Tryd.prog lds.tabs cansB8 :=
  cansOK_of (n := 2000) mixed noNum tabsOk cansOK_nil (by kernel_rfl) (by kernel_rfl)
end Go.Proofs.YtcajalekkffcjaaDoor
