/- FollowKnown itself, run by the evaluator in the kernel: with the known calls it answers true. -/
import Derived.Test.YtkdclmfgnjphoaaGreatDoorRunB1
import Derived.Test.YtkdclmfgnjphoaaGreatDoorRunB2
import Derived.Test.YtkdclmfgnjphoaaGreatDoorRunB3
import Derived.Test.YtkdclmfgnjphoaaGreatDoorRunB4
import Derived.Test.YtkdclmfgnjphoaaGreatDoorRunB5
import Derived.Test.YtkdclmfgnjphoaaGreatDoorRunB6
import Derived.Test.YtkdclmfgnjphoaaGreatDoorRunB7
import Derived.Test.YtkdclmfgnjphoaaGreatDoorRunB8
namespace Go.Proofs.YtkdclmfgnjphoaaGreatDoor
open Go Go.Ev Go.RowKit
set_option maxRecDepth 1000000 in
theorem known_run (W : World) (hW : TabsIn W lds.tabs) : Calls Tryz.prog 4 #[] W fun e W' => e = .returned (.bool true) ∧ Below W.heap.size W W' :=
  calls_true (n := 2000) (cs := cansB1 ++ (cansB2 ++ (cansB3 ++ (cansB4 ++ (cansB5 ++ (cansB6 ++ (cansB7 ++ (cansB8)))))))) mixed noNum (cansOK_app cansB1_ok (cansOK_app cansB2_ok (cansOK_app cansB3_ok (cansOK_app cansB4_ok (cansOK_app cansB5_ok (cansOK_app cansB6_ok (cansOK_app cansB7_ok cansB8_ok))))))) tabsOk (by kernel_rfl) W hW
end Go.Proofs.YtkdclmfgnjphoaaGreatDoor
