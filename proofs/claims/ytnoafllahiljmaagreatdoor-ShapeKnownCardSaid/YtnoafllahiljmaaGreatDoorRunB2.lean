/- Calls of examples, run by the evaluator in the kernel. -/
import Derived.Test.YtnoafllahiljmaaGreatDoorRunA
namespace Go.Proofs.YtnoafllahiljmaaGreatDoor
open Go Go.Ev
def cansB2 : Cans := [⟨24, [.val (.agg #[.string ⟨#[120]⟩, .bool false, .slice none 0 0, .string ⟨#[47, 97, 98, 99, 36, 48]⟩, .bool false, .bool false, .bool false, .bool false, .bool false, .bool false, .bool false, .bool false, .int .i64 0, .int .i64 0]), .val (.agg #[.string ⟨#[94, 47, 46, 36]⟩, .bool false, .slice none 0 0, .string ⟨#[45]⟩, .bool false, .bool false, .bool false, .bool false, .bool false, .bool false, .bool false, .bool false, .int .i64 0, .int .i64 0]), .val (.bool false)], .bool true⟩]
set_option maxRecDepth 1000000 in
theorem cansB2_ok : CansOK Tryz.prog lds.tabs cansB2 :=
  cansOK_of (n := 2000) mixed noNum tabsOk cansOK_nil (by kernel_rfl) (by kernel_rfl)
end Go.Proofs.YtnoafllahiljmaaGreatDoor
