/- Calls of examples, run by the evaluator in the kernel. -/
import Derived.Test.YtkdclmfgnjphoaaGreatDoorRunA
namespace Go.Proofs.YtkdclmfgnjphoaaGreatDoor
open Go Go.Ev
def cansB1 : Cans := [⟨61, [.val (.agg #[.string ⟨#[47, 99]⟩, .string ⟨#[]⟩, .bool false, .int .i64 2, .int .i64 (-1)]), .val (.agg #[.string ⟨#[94, 47, 99]⟩, .bool false, .slice none 0 0, .string ⟨#[47, 100]⟩, .bool false, .bool false, .bool false, .bool false, .bool false, .bool false, .bool false, .bool false, .int .i64 0, .int .i64 302])], .bool true⟩,
  ⟨61, [.val (.agg #[.string ⟨#[47, 99]⟩, .string ⟨#[]⟩, .bool false, .int .i64 2, .int .i64 (-1)]), .val (.agg #[.string ⟨#[94, 47, 97]⟩, .bool false, .slice none 0 0, .string ⟨#[47, 98]⟩, .bool false, .bool false, .bool false, .bool false, .bool false, .bool false, .bool false, .bool false, .int .i64 0, .int .i64 0])], .bool false⟩]
set_option maxRecDepth 1000000 in
theorem cansB1_ok : CansOK Tryz.prog lds.tabs cansB1 :=
  cansOK_of (n := 2000) (ds := []) mixed noNum tabsOk cansOK_nil (by kernel_rfl) (by kernel_rfl)
end Go.Proofs.YtkdclmfgnjphoaaGreatDoor
