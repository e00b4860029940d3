/- Calls of examples, run by the evaluator in the kernel: each answers true. -/
import Derived.Test.YtgjfhlpbldhcoaaDoorRunA
namespace Go.Proofs.YtgjfhlpbldhcoaaDoor
open Go Go.Ev
def cansB3 : Cans := [(33, [.string ⟨#[97, 98, 99, 36]⟩, .string ⟨#[97, 98, 99, 100]⟩, .bool false]),
  (33, [.string ⟨#[97, 98, 99]⟩, .string ⟨#[97, 98, 99, 100]⟩, .bool true]),
  (33, [.string ⟨#[97, 98, 99]⟩, .string ⟨#[97, 98]⟩, .bool true]),
  (33, [.string ⟨#[97, 98, 99]⟩, .string ⟨#[97, 99]⟩, .bool false])]
set_option maxRecDepth 1000000 in
theorem cansB3_ok : CansOK Tryd.prog 0 tab cansB3 :=
  cansOK_of (n := 2000) mixed noNum tabScal tabNe gLt cansOK_nil (by kernel_rfl) (by kernel_rfl)
end Go.Proofs.YtgjfhlpbldhcoaaDoor
