/- Calls of examples, run by the evaluator in the kernel. -/
import Derived.Test.YtkdclmfgnjphoaaGreatDoorRunA
namespace Go.Proofs.YtkdclmfgnjphoaaGreatDoor
open Go Go.Ev
def cansB6 : Cans := [⟨58, [.val (.agg #[.string ⟨#[120]⟩, .bool false, .slice none 0 0, .string ⟨#[47, 120]⟩, .bool false, .bool false, .bool false, .bool false, .bool false, .bool false, .bool false, .bool false, .int .i64 0, .int .i64 0])], .agg #[.string ⟨#[47, 120]⟩, .string ⟨#[47, 120]⟩, .bool true, .int .i64 2, .int .i64 2]⟩,
  ⟨62, [.val (.agg #[.string ⟨#[94, 47, 100]⟩, .bool false, .slice none 0 0, .string ⟨#[45]⟩, .bool false, .bool false, .bool false, .bool false, .bool false, .bool false, .bool false, .bool false, .int .i64 0, .int .i64 0])], .int .i64 0⟩,
  ⟨49, [.val (.agg #[.string ⟨#[94, 47, 100]⟩, .bool false, .slice none 0 0, .string ⟨#[45]⟩, .bool false, .bool false, .bool false, .bool false, .bool false, .bool false, .bool false, .bool false, .int .i64 0, .int .i64 0])], .tuple #[.int .i64 1, .int .i64 0]⟩,
  ⟨59, [.val (.agg #[.string ⟨#[94, 47, 100]⟩, .bool false, .slice none 0 0, .string ⟨#[45]⟩, .bool false, .bool false, .bool false, .bool false, .bool false, .bool false, .bool false, .bool false, .int .i64 0, .int .i64 0])], .int .i64 0⟩,
  ⟨72, [.val (.agg #[.string ⟨#[94, 47, 98]⟩, .bool false, .slice none 0 0, .string ⟨#[47, 99, 36, 48]⟩, .bool false, .bool false, .bool false, .bool false, .bool false, .bool false, .bool false, .bool false, .int .i64 0, .int .i64 0])], .int .i64 2⟩,
  ⟨72, [.val (.agg #[.string ⟨#[94, 47, 97]⟩, .bool false, .slice none 0 0, .string ⟨#[47, 98]⟩, .bool false, .bool false, .bool false, .bool false, .bool false, .bool false, .bool false, .bool false, .int .i64 0, .int .i64 0])], .int .i64 2⟩,
  ⟨72, [.val (.agg #[.string ⟨#[120]⟩, .bool false, .slice none 0 0, .string ⟨#[47, 120]⟩, .bool false, .bool false, .bool false, .bool false, .bool false, .bool false, .bool false, .bool false, .int .i64 0, .int .i64 0])], .int .i64 2⟩]
set_option maxRecDepth 1000000 in
theorem cansB6_ok : CansOK Tryz.prog lds.tabs cansB6 :=
  cansOK_of (n := 2000) (ds := []) mixed noNum tabsOk cansOK_nil (by kernel_rfl) (by kernel_rfl)
end Go.Proofs.YtkdclmfgnjphoaaGreatDoor
