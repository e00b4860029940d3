/- NfaKnown itself, run by the evaluator in the kernel: with the known calls it answers true. -/
import Derived.Test.YtgjfhlpbldhcoaaDoorRunB1
import Derived.Test.YtgjfhlpbldhcoaaDoorRunB2
import Derived.Test.YtgjfhlpbldhcoaaDoorRunB3
import Derived.Test.YtgjfhlpbldhcoaaDoorRunB4
namespace Go.Proofs.YtgjfhlpbldhcoaaDoor
open Go Go.Ev Go.RowKit
set_option maxRecDepth 1000000 in
theorem known_run (W : World) (hW : ∀ j u, tab[j]? = some u → W.cell? ⟨0, j, none⟩ = some u) : Calls Tryd.prog 7 #[] W fun e W' => e = .returned (.bool true) ∧ Below W.heap.size W W' :=
  calls_true (args := []) (n := 2000) (cs := cansB1 ++ (cansB2 ++ (cansB3 ++ (cansB4)))) mixed noNum (cansOK_app cansB1_ok (cansOK_app cansB2_ok (cansOK_app cansB3_ok cansB4_ok))) tabScal tabNe gLt rfl (by kernel_rfl) W hW
end Go.Proofs.YtgjfhlpbldhcoaaDoor
