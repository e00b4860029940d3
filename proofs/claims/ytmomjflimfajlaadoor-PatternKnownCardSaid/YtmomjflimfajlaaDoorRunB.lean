/- Calls of examples, run by the evaluator in the kernel: each answers true. -/
import Derived.Test.YtmomjflimfajlaaDoorRunA
namespace Go.Proofs.YtmomjflimfajlaaDoor
open Go Go.Ev
def cansB : Cans := [(28, [.string ⟨#[42]⟩, .int .i64 3, .int .i64 0]),
  (28, [.string ⟨#[40, 97, 41, 42]⟩, .int .i64 3, .int .i64 3]),
  (28, [.string ⟨#[40, 97]⟩, .int .i64 3, .int .i64 2]),
  (28, [.string ⟨#[97, 41]⟩, .int .i64 3, .int .i64 1]),
  (28, [.string ⟨#[97, 94]⟩, .int .i64 3, .int .i64 1]),
  (28, [.string ⟨#[36, 97]⟩, .int .i64 3, .int .i64 0]),
  (28, [.string ⟨#[91, 93]⟩, .int .i64 3, .int .i64 1]),
  (28, [.string ⟨#[91, 122, 45, 97, 93]⟩, .int .i64 8, .int .i64 3]),
  (28, [.string ⟨#[91, 97, 45, 92, 100, 93]⟩, .int .i64 3, .int .i64 4]),
  (28, [.string ⟨#[92]⟩, .int .i64 3, .int .i64 1])]
set_option maxRecDepth 1000000 in
theorem cansB_ok : CansOK Tryd.prog 0 tab cansB :=
  cansOK_of (n := 2000) mixed noNum tabScal tabNe gLt cansOK_nil (by kernel_rfl) (by kernel_rfl)
end Go.Proofs.YtmomjflimfajlaaDoor
