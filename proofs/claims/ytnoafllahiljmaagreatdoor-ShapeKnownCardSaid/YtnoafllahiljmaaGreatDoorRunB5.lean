/- Calls of examples, run by the evaluator in the kernel. -/
import Derived.Test.YtnoafllahiljmaaGreatDoorRunA
namespace Go.Proofs.YtnoafllahiljmaaGreatDoor
open Go Go.Ev
def cansB5 : Cans := [⟨23, [.val (.agg #[.string ⟨#[94, 47, 40, 97, 41]⟩, .bool false, .slice none 0 0, .string ⟨#[47, 120, 47, 36, 49, 47, 121]⟩, .bool false, .bool false, .bool false, .bool false, .bool false, .bool false, .bool false, .bool false, .int .i64 0, .int .i64 0]), .val (.string ⟨#[47, 120, 47]⟩), .val (.string ⟨#[47, 121]⟩), .val (.bool false), .val (.int .i64 5), .val (.int .i64 (-1))], .bool true⟩,
  ⟨24, [.val (.agg #[.string ⟨#[120]⟩, .bool false, .slice none 0 0, .string ⟨#[47, 97]⟩, .bool false, .bool false, .bool false, .bool false, .bool false, .bool false, .bool false, .bool false, .int .i64 0, .int .i64 0]), .val (.agg #[.string ⟨#[94, 47, 65]⟩, .bool true, .slice none 0 0, .string ⟨#[45]⟩, .bool false, .bool false, .bool false, .bool false, .bool false, .bool false, .bool false, .bool false, .int .i64 0, .int .i64 0]), .val (.bool true)], .bool true⟩]
set_option maxRecDepth 1000000 in
theorem cansB5_ok : CansOK Tryz.prog lds.tabs cansB5 :=
  cansOK_of (n := 2000) mixed noNum tabsOk cansOK_nil (by kernel_rfl) (by kernel_rfl)
end Go.Proofs.YtnoafllahiljmaaGreatDoor
