/- CondKnown itself, run by the evaluator in the kernel: with the known calls it answers true. -/
import Derived.Test.YteomhpkcfcjcmaaGreatDoorRunB1
namespace Go.Proofs.YteomhpkcfcjcmaaGreatDoor
open Go Go.Ev Go.RowKit
set_option maxRecDepth 1000000 in
theorem known_run (W : World) (hW : TabsIn W lds.tabs) : Calls Tryz.prog 7 #[] W fun e W' => e = .returned (.bool true) ∧ Below W.heap.size W W' :=
  calls_true (n := 2000) (cs := cansB1) mixed noNum cansB1_ok tabsOk (by kernel_rfl) W hW
end Go.Proofs.YteomhpkcfcjcmaaGreatDoor
