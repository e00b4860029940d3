/- Calls of examples, run by the evaluator in the kernel. -/
import Derived.Test.YtnoafllahiljmaaGreatDoorRunA
namespace Go.Proofs.YtnoafllahiljmaaGreatDoor
open Go Go.Ev
def cansB4 : Cans := [⟨24, [.val (.agg #[.string ⟨#[120]⟩, .bool false, .slice none 0 0, .string ⟨#[47, 36, 48, 98]⟩, .bool false, .bool false, .bool false, .bool false, .bool false, .bool false, .bool false, .bool false, .int .i64 0, .int .i64 0]), .val (.agg #[.string ⟨#[97, 36]⟩, .bool false, .slice none 0 0, .string ⟨#[45]⟩, .bool false, .bool false, .bool false, .bool false, .bool false, .bool false, .bool false, .bool false, .int .i64 0, .int .i64 0]), .val (.bool false)], .bool true⟩]
set_option maxRecDepth 1000000 in
theorem cansB4_ok : CansOK Tryz.prog lds.tabs cansB4 :=
  cansOK_of (n := 2000) mixed noNum tabsOk cansOK_nil (by kernel_rfl) (by kernel_rfl)
end Go.Proofs.YtnoafllahiljmaaGreatDoor
