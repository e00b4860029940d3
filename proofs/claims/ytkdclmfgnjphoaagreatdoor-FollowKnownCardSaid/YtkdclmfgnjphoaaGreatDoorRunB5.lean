/- Calls of examples, run by the evaluator in the kernel. -/
import Derived.Test.YtkdclmfgnjphoaaGreatDoorRunA
namespace Go.Proofs.YtkdclmfgnjphoaaGreatDoor
open Go Go.Ev
def cansB5 : Cans := [⟨61, [.val (.agg #[.string ⟨#[47, 120]⟩, .string ⟨#[47, 120]⟩, .bool true, .int .i64 2, .int .i64 2]), .val (.agg #[.string ⟨#[94, 47, 99]⟩, .bool false, .slice none 0 0, .string ⟨#[47, 100]⟩, .bool false, .bool false, .bool false, .bool false, .bool false, .bool false, .bool false, .bool false, .int .i64 0, .int .i64 302])], .bool false⟩,
  ⟨61, [.val (.agg #[.string ⟨#[47, 120]⟩, .string ⟨#[47, 120]⟩, .bool true, .int .i64 2, .int .i64 2]), .val (.agg #[.string ⟨#[94, 47, 100]⟩, .bool false, .slice none 0 0, .string ⟨#[45]⟩, .bool false, .bool false, .bool false, .bool false, .bool false, .bool false, .bool false, .bool false, .int .i64 0, .int .i64 0])], .bool false⟩,
  ⟨62, [.val (.agg #[.string ⟨#[94, 47, 97]⟩, .bool false, .slice none 0 0, .string ⟨#[47, 98]⟩, .bool false, .bool false, .bool false, .bool false, .bool false, .bool false, .bool false, .bool false, .int .i64 0, .int .i64 0])], .int .i64 0⟩,
  ⟨49, [.val (.agg #[.string ⟨#[94, 47, 97]⟩, .bool false, .slice none 0 0, .string ⟨#[47, 98]⟩, .bool false, .bool false, .bool false, .bool false, .bool false, .bool false, .bool false, .bool false, .int .i64 0, .int .i64 0])], .tuple #[.int .i64 2, .int .i64 0]⟩,
  ⟨61, [.val (.agg #[.string ⟨#[47, 98]⟩, .string ⟨#[47, 98]⟩, .bool true, .int .i64 2, .int .i64 2]), .val (.agg #[.string ⟨#[120]⟩, .bool false, .slice none 0 0, .string ⟨#[47, 120]⟩, .bool false, .bool false, .bool false, .bool false, .bool false, .bool false, .bool false, .bool false, .int .i64 0, .int .i64 0])], .bool false⟩,
  ⟨61, [.val (.agg #[.string ⟨#[47, 100]⟩, .string ⟨#[47, 100]⟩, .bool true, .int .i64 2, .int .i64 2]), .val (.agg #[.string ⟨#[120]⟩, .bool false, .slice none 0 0, .string ⟨#[47, 120]⟩, .bool false, .bool false, .bool false, .bool false, .bool false, .bool false, .bool false, .bool false, .int .i64 0, .int .i64 0])], .bool false⟩,
  ⟨61, [.val (.agg #[.string ⟨#[47, 120]⟩, .string ⟨#[47, 120]⟩, .bool true, .int .i64 2, .int .i64 2]), .val (.agg #[.string ⟨#[120]⟩, .bool false, .slice none 0 0, .string ⟨#[47, 120]⟩, .bool false, .bool false, .bool false, .bool false, .bool false, .bool false, .bool false, .bool false, .int .i64 0, .int .i64 0])], .bool true⟩,
  ⟨62, [.val (.agg #[.string ⟨#[120]⟩, .bool false, .slice none 0 0, .string ⟨#[47, 120]⟩, .bool false, .bool false, .bool false, .bool false, .bool false, .bool false, .bool false, .bool false, .int .i64 0, .int .i64 0])], .int .i64 0⟩,
  ⟨49, [.val (.agg #[.string ⟨#[120]⟩, .bool false, .slice none 0 0, .string ⟨#[47, 120]⟩, .bool false, .bool false, .bool false, .bool false, .bool false, .bool false, .bool false, .bool false, .int .i64 0, .int .i64 0])], .tuple #[.int .i64 2, .int .i64 0]⟩,
  ⟨58, [.val (.agg #[.string ⟨#[94, 47, 97]⟩, .bool false, .slice none 0 0, .string ⟨#[47, 98]⟩, .bool false, .bool false, .bool false, .bool false, .bool false, .bool false, .bool false, .bool false, .int .i64 0, .int .i64 0])], .agg #[.string ⟨#[47, 98]⟩, .string ⟨#[47, 98]⟩, .bool true, .int .i64 2, .int .i64 2]⟩,
  ⟨58, [.val (.agg #[.string ⟨#[94, 47, 99]⟩, .bool false, .slice none 0 0, .string ⟨#[47, 100]⟩, .bool false, .bool false, .bool false, .bool false, .bool false, .bool false, .bool false, .bool false, .int .i64 0, .int .i64 302])], .agg #[.string ⟨#[47, 100]⟩, .string ⟨#[47, 100]⟩, .bool true, .int .i64 2, .int .i64 2]⟩]
set_option maxRecDepth 1000000 in
theorem cansB5_ok : CansOK Tryz.prog lds.tabs cansB5 :=
  cansOK_of (n := 2000) (ds := []) mixed noNum tabsOk cansOK_nil (by kernel_rfl) (by kernel_rfl)
end Go.Proofs.YtkdclmfgnjphoaaGreatDoor
