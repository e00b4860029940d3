/- PatternKnown itself, run by the evaluator in the kernel: with the known calls it answers true. -/
import Derived.Test.YtmomjflimfajlaaDoorRunB
import Derived.Test.YtmomjflimfajlaaDoorRunC
import Derived.Test.YtmomjflimfajlaaDoorRunD
import Derived.Test.YtmomjflimfajlaaDoorRunE
import Derived.Test.YtmomjflimfajlaaDoorRunF
namespace Go.Proofs.YtmomjflimfajlaaDoor
open Go Go.Ev Go.RowKit
set_option maxRecDepth 1000000 in
theorem known_run (W : World) (hW : ∀ j u, tab[j]? = some u → W.cell? ⟨0, j, none⟩ = some u) : Calls Tryd.prog 7 #[] W fun e W' => e = .returned (.bool true) ∧ Below W.heap.size W W' :=
  calls_true (args := []) (n := 2000) (cs := cansB ++ (cansC ++ (cansD ++ (cansE ++ cansF)))) mixed noNum (cansOK_app cansB_ok (cansOK_app cansC_ok (cansOK_app cansD_ok (cansOK_app cansE_ok cansF_ok)))) tabScal tabNe gLt rfl (by kernel_rfl) W hW
end Go.Proofs.YtmomjflimfajlaaDoor
