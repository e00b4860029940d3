/- Calls of examples, run by the evaluator in the kernel. -/
import Derived.Test.YtkdclmfgnjphoaaGreatDoorRunB1
import Derived.Test.YtkdclmfgnjphoaaGreatDoorRunB2
import Derived.Test.YtkdclmfgnjphoaaGreatDoorRunB3
import Derived.Test.YtkdclmfgnjphoaaGreatDoorRunB4
import Derived.Test.YtkdclmfgnjphoaaGreatDoorRunB5
import Derived.Test.YtkdclmfgnjphoaaGreatDoorRunB6
namespace Go.Proofs.YtkdclmfgnjphoaaGreatDoor
open Go Go.Ev
def cansB8 : Cans := [⟨15, [.sl 5 [.string ⟨#[94, 47, 97]⟩, .bool false, .slice none 0 0, .string ⟨#[47, 98]⟩, .bool false, .bool false, .bool false, .bool false, .bool false, .bool false, .bool false, .bool false, .int .i64 0, .int .i64 0, .string ⟨#[94, 47, 98]⟩, .bool false, .slice none 0 0, .string ⟨#[47, 99, 36, 48]⟩, .bool false, .bool false, .bool false, .bool false, .bool false, .bool false, .bool false, .bool false, .int .i64 0, .int .i64 0, .string ⟨#[94, 47, 99]⟩, .bool false, .slice none 0 0, .string ⟨#[47, 100]⟩, .bool false, .bool false, .bool false, .bool false, .bool false, .bool false, .bool false, .bool false, .int .i64 0, .int .i64 302, .string ⟨#[94, 47, 100]⟩, .bool false, .slice none 0 0, .string ⟨#[45]⟩, .bool false, .bool false, .bool false, .bool false, .bool false, .bool false, .bool false, .bool false, .int .i64 0, .int .i64 0, .string ⟨#[120]⟩, .bool false, .slice none 0 0, .string ⟨#[47, 120]⟩, .bool false, .bool false, .bool false, .bool false, .bool false, .bool false, .bool false, .bool false, .int .i64 0, .int .i64 0], .sl 1 [.int .i64 5]], .tuple #[.bool false, .int .i64 2]⟩]
set_option maxRecDepth 1000000 in
theorem cansB8_ok : CansOK Tryz.prog lds.tabs cansB8 :=
  cansOK_of (n := 2000) (ds := cansB1 ++ (cansB2 ++ (cansB3 ++ (cansB4 ++ (cansB5 ++ (cansB6)))))) mixed noNum tabsOk (cansOK_app cansB1_ok (cansOK_app cansB2_ok (cansOK_app cansB3_ok (cansOK_app cansB4_ok (cansOK_app cansB5_ok cansB6_ok))))) (by kernel_rfl) (by kernel_rfl)
end Go.Proofs.YtkdclmfgnjphoaaGreatDoor
