/- FuelKnown itself, run by the evaluator in the kernel: with the known calls it answers true. -/
import Derived.Test.YtcofabncajkemaaDoorRunB1
import Derived.Test.YtcofabncajkemaaDoorRunB2
import Derived.Test.YtcofabncajkemaaDoorRunB3
import Derived.Test.YtcofabncajkemaaDoorRunB4
import Derived.Test.YtcofabncajkemaaDoorRunB5
namespace Go.Proofs.YtcofabncajkemaaDoor
open Go Go.Ev Go.RowKit
set_option maxRecDepth 1000000 in
theorem known_run (W : World) (hW : TabsIn W lds.tabs) : Calls Tryd.prog 5 #[] W fun e W' => e = .returned (.bool true) ∧ Below W.heap.size W W' :=
  calls_true (args := []) (n := 2000) (cs := cansB1 ++ (cansB2 ++ (cansB3 ++ (cansB4 ++ (cansB5))))) mixed noNum (cansOK_app cansB1_ok (cansOK_app cansB2_ok (cansOK_app cansB3_ok (cansOK_app cansB4_ok cansB5_ok)))) tabsOk rfl (by kernel_rfl) W hW
end Go.Proofs.YtcofabncajkemaaDoor
