/- EndsKnown itself, run by the evaluator in the kernel: with the known calls it answers true. -/
import Derived.Test.YtcajalekkffcjaaDoorRunB1
import Derived.Test.YtcajalekkffcjaaDoorRunB2
import Derived.Test.YtcajalekkffcjaaDoorRunB3
import Derived.Test.YtcajalekkffcjaaDoorRunB4
import Derived.Test.YtcajalekkffcjaaDoorRunB5
import Derived.Test.YtcajalekkffcjaaDoorRunB6
import Derived.Test.YtcajalekkffcjaaDoorRunB7
import Derived.Test.YtcajalekkffcjaaDoorRunB8
import Derived.Test.YtcajalekkffcjaaDoorRunB9
import Derived.Test.YtcajalekkffcjaaDoorRunB10
import Derived.Test.YtcajalekkffcjaaDoorRunB11
import Derived.Test.YtcajalekkffcjaaDoorRunB12
import Derived.Test.YtcajalekkffcjaaDoorRunB13
namespace Go.Proofs.YtcajalekkffcjaaDoor
open Go Go.Ev Go.RowKit
set_option maxRecDepth 1000000 in
theorem known_run (W : World) (hW : TabsIn W lds.tabs) : Calls Tryd.prog 6 #[] W fun e W' => e = .returned (.bool true) ∧ Below W.heap.size W W' :=
  calls_true (n := 2000) (cs := cansB1 ++ (cansB2 ++ (cansB3 ++ (cansB4 ++ (cansB5 ++ (cansB6 ++ (cansB7 ++ (cansB8 ++ (cansB9 ++ (cansB10 ++ (cansB11 ++ (cansB12 ++ (cansB13))))))))))))) mixed noNum (cansOK_app cansB1_ok (cansOK_app cansB2_ok (cansOK_app cansB3_ok (cansOK_app cansB4_ok (cansOK_app cansB5_ok (cansOK_app cansB6_ok (cansOK_app cansB7_ok (cansOK_app cansB8_ok (cansOK_app cansB9_ok (cansOK_app cansB10_ok (cansOK_app cansB11_ok (cansOK_app cansB12_ok cansB13_ok)))))))))))) tabsOk (by kernel_rfl) W hW
end Go.Proofs.YtcajalekkffcjaaDoor
