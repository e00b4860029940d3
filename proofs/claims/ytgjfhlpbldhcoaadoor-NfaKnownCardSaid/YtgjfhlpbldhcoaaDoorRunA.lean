/- The table and the facts of the program that the runs ask. -/
import Derived.Test.YtgjfhlpbldhcoaaDoorProg
import Derived.KernelRfl
import Derived.Test.YtgjfhlpbldhcoaaDoorEv19
namespace Go.Proofs.YtgjfhlpbldhcoaaDoor
open Go Go.Ev
def tabN : List Int := [0,1,56,2,57,49,28,3,61,58,42,50,38,29,17,4,62,47,59,36,45,43,51,22,53,39,33,30,24,18,12,5,63,55,48,27,60,41,37,16,46,35,44,21,52,32,23,11,54,26,40,15,34,20,31,10,25,14,19,9,13,8,7,6]
def tab : List Value := tabN.map (Value.int .u8)
theorem gTab : Tryd.prog.globalNamed "math/bits.deBruijn64tab" = some 0 := by kernel_rfl
theorem tTab : (Tryd.prog.globals[0]?).map (·.type) = some 164 := by kernel_rfl
theorem uTab : Tryd.prog.underlying 164 = some (.array tabN.length 5) := by kernel_rfl
theorem uByte : Tryd.prog.underlying 5 = some (.int .u8) := by kernel_rfl
theorem cByte : Tryd.prog.cellsOf 5 = 1 := by kernel_rfl
theorem cTab : Tryd.prog.cellsOf 164 = tabN.length := by kernel_rfl
theorem mixed : Tryd.prog.follows .mixedOrders = true := by kernel_rfl
theorem noNum : Tryd.prog.funcs.toList.all (fun f => !(f.name == "runtime.NumGoroutine")) = true := by kernel_rfl
theorem tabScal : tab.all isScal = true := by kernel_rfl
theorem tabNe : tab ≠ [] := fun h => by cases h
theorem gLt : 0 < Tryd.prog.globals.size := of_decide_eq_true (by kernel_rfl)
end Go.Proofs.YtgjfhlpbldhcoaaDoor
