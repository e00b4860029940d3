/- The laid variables and the facts of the program that the runs ask. -/
import Derived.Test.YtegiokgbljmamaaProg
import Derived.KernelRfl
import Derived.Test.YtegiokgbljmamaaEv21
namespace Go.Proofs.Ytegiokgbljmamaa
open Go Go.Ev
def lds : Laids := ([] : Laids)
theorem ldsOk : (lds.all fun x => laidB Try.prog x.1 x.2.1 x.2.2.1 x.2.2.2) = true := by kernel_rfl
theorem mixed : Try.prog.follows .mixedOrders = true := by kernel_rfl
theorem noNum : Try.prog.funcs.toList.all (fun f => !(f.name == "runtime.NumGoroutine")) = true := by kernel_rfl
theorem tabsOk : tabsB Try.prog.globals.size lds.tabs = true := by kernel_rfl
end Go.Proofs.Ytegiokgbljmamaa
