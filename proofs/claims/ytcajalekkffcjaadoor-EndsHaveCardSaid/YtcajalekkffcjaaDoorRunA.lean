/- The laid variables, and a call that is known. -/
import Derived.Test.YtcajalekkffcjaaDoorProg
import Derived.KernelRfl
import Derived.Test.YtcajalekkffcjaaDoorEv21
namespace Go.Proofs.YtcajalekkffcjaaDoor
open Go Go.Ev
def MY:sL:=[("math/bits.deBruijn64tab",0,.ints .u8 [0,1,56,2,57,49,28,3,61,58,42,50,38,29,17,4,62,47,59,36,45,43,51,22,53,39,33,30,24,18,12,5,63,55,48,27,60,41,37,16,46,35,44,21,52,32,23,11,54,26,40,15,34,20,31,10,25,14,19,9,13,8,7,6])]
theorem NX:MY.ok Tryd.prog=true:=by kernel_rfl
theorem mixed:Tryd.prog.follows .mixedOrders=true:=by kernel_rfl
theorem Mp:Tryd.prog.funcs.toList.all (fun f=>!(f.name == "runtime.NumGoroutine"))=true:=by kernel_rfl
theorem Ki:nV Tryd.prog.globals.size MY.tabs=true:=by kernel_rfl
end Go.Proofs.YtcajalekkffcjaaDoor
namespace Go.Proofs.YtcajalekkffcjaaDoor
open Go Go.Ev
def FJ:jl:=[⟨10,[],.bool true⟩]
set_option maxRecDepth 1000000 in
theorem Ic:oW Tryd.prog MY.tabs FJ:=
 HH (n:=2000) mixed Mp Ki Fi (by kernel_rfl) (by kernel_rfl)
end Go.Proofs.YtcajalekkffcjaaDoor
