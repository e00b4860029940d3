/- Calls of examples, run by the evaluator in the kernel: each answers true. -/
import Derived.Test.YtgjfhlpbldhcoaaDoorRunA
namespace Go.Proofs.YtgjfhlpbldhcoaaDoor
open Go Go.Ev
def cansB2 : Cans := [(30, [.string ⟨#[36]⟩, .string ⟨#[97, 98, 99]⟩, .bool false, .bool true]),
  (32, [.string ⟨#[98, 43]⟩, .string ⟨#[97, 98, 98]⟩, .int .i64 1, .int .i64 3]),
  (30, [.string ⟨#[66]⟩, .string ⟨#[97, 98, 99]⟩, .bool true, .bool true])]
set_option maxRecDepth 1000000 in
theorem cansB2_ok : CansOK Tryd.prog 0 tab cansB2 :=
  cansOK_of (n := 2000) mixed noNum tabScal tabNe gLt cansOK_nil (by kernel_rfl) (by kernel_rfl)
end Go.Proofs.YtgjfhlpbldhcoaaDoor
