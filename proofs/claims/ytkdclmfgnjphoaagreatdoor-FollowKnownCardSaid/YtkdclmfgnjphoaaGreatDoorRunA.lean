/- The laid variables and the facts of the program that the runs ask. -/
import Derived.Test.YtkdclmfgnjphoaaGreatDoorProg
import Derived.KernelRfl
import Derived.Test.YtkdclmfgnjphoaaGreatDoorEv21
namespace Go.Proofs.YtkdclmfgnjphoaaGreatDoor
open Go Go.Ev
def lds : Laids := [("math/bits.deBruijn32tab", 5, .ints .u8 [0, 1, 28, 2, 29, 14, 24, 3, 30, 22, 20, 15, 25, 17, 4, 8, 31, 27, 13, 23, 21, 19, 16, 7, 26, 12, 18, 6, 11, 5, 10, 9]), ("math/bits.deBruijn64tab", 3, .ints .u8 [0, 1, 56, 2, 57, 49, 28, 3, 61, 58, 42, 50, 38, 29, 17, 4, 62, 47, 59, 36, 45, 43, 51, 22, 53, 39, 33, 30, 24, 18, 12, 5, 63, 55, 48, 27, 60, 41, 37, 16, 46, 35, 44, 21, 52, 32, 23, 11, 54, 26, 40, 15, 34, 20, 31, 10, 25, 14, 19, 9, 13, 8, 7, 6]), ("internal/strconv.uint64pow10", 4, .ints .u64 [1, 10, 100, 1000, 10000, 100000, 1000000, 10000000, 100000000, 1000000000, 10000000000, 100000000000, 1000000000000, 10000000000000, 100000000000000, 1000000000000000, 10000000000000000, 100000000000000000, 1000000000000000000, 10000000000000000000]), ("waypost/flag.codes", 1, .ints .i64 [301, 302, 303, 307, 308]), ("waypost/template.names", 0, .strs [[], [80, 65, 84, 72], [81, 85, 69, 82, 89], [72, 79, 83, 84], [77, 69, 84, 72, 79, 68]])]
theorem ldsOk : lds.ok Tryz.prog = true := by kernel_rfl
theorem mixed : Tryz.prog.follows .mixedOrders = true := by kernel_rfl
theorem noNum : Tryz.prog.funcs.toList.all (fun f => !(f.name == "runtime.NumGoroutine")) = true := by kernel_rfl
theorem tabsOk : tabsB Tryz.prog.globals.size lds.tabs = true := by kernel_rfl
end Go.Proofs.YtkdclmfgnjphoaaGreatDoor
