/- Calls of examples, run by the evaluator in the kernel. -/
import Derived.Test.YtnoafllahiljmaaGreatDoorRunA
namespace Go.Proofs.YtnoafllahiljmaaGreatDoor
open Go Go.Ev
def cansB7 : Cans := [⟨23, [.val (.agg #[.string ⟨#[94, 47, 40, 97, 41]⟩, .bool false, .slice none 0 0, .string ⟨#[47, 120]⟩, .bool false, .bool false, .bool false, .bool false, .bool false, .bool false, .bool false, .bool false, .int .i64 0, .int .i64 0]), .val (.string ⟨#[47, 120]⟩), .val (.string ⟨#[47, 120]⟩), .val (.bool true), .val (.int .i64 2), .val (.int .i64 2)], .bool true⟩,
  ⟨21, [.val (.agg #[.string ⟨#[94, 47, 97]⟩, .bool false, .slice none 0 0, .string ⟨#[63, 120, 61, 49]⟩, .bool false, .bool false, .bool false, .bool false, .bool false, .bool false, .bool false, .bool false, .int .i64 0, .int .i64 0]), .val (.int .i64 1)], .bool true⟩,
  ⟨21, [.val (.agg #[.string ⟨#[94, 47, 97]⟩, .bool false, .slice none 0 0, .string ⟨#[47, 98]⟩, .bool false, .bool false, .bool false, .bool false, .bool false, .bool false, .bool false, .bool false, .int .i64 0, .int .i64 0]), .val (.int .i64 2)], .bool true⟩,
  ⟨19, [.val (.agg #[.string ⟨#[120]⟩, .bool false, .slice none 0 0, .string ⟨#[45]⟩, .bool false, .bool false, .bool false, .bool false, .bool false, .bool false, .bool false, .bool false, .int .i64 0, .int .i64 0]), .val (.agg #[.string ⟨#[120]⟩, .bool false, .slice none 0 0, .string ⟨#[45]⟩, .bool false, .bool false, .bool false, .bool false, .bool false, .bool false, .bool false, .bool false, .int .i64 0, .int .i64 0])], .tuple #[.bool false, .int .i64 10]⟩,
  ⟨14, [.val (.agg #[.string ⟨#[94, 47, 97]⟩, .bool false, .slice none 0 0, .string ⟨#[45]⟩, .bool false, .bool false, .bool false, .bool false, .bool false, .bool false, .bool false, .bool false, .int .i64 0, .int .i64 302])], .int .i64 3⟩,
  ⟨14, [.val (.agg #[.string ⟨#[97]⟩, .bool false, .slice none 0 0, .string ⟨#[98]⟩, .bool false, .bool false, .bool false, .bool false, .bool false, .bool false, .bool false, .bool false, .int .i64 0, .int .i64 0])], .int .i64 3⟩,
  ⟨14, [.val (.agg #[.string ⟨#[40]⟩, .bool false, .slice none 0 0, .string ⟨#[47, 98]⟩, .bool false, .bool false, .bool false, .bool false, .bool false, .bool false, .bool false, .bool false, .int .i64 0, .int .i64 0])], .int .i64 3⟩]
set_option maxRecDepth 1000000 in
theorem cansB7_ok : CansOK Tryz.prog lds.tabs cansB7 :=
  cansOK_of (n := 2000) mixed noNum tabsOk cansOK_nil (by kernel_rfl) (by kernel_rfl)
end Go.Proofs.YtnoafllahiljmaaGreatDoor
