/- The evaluator over a small code, and that what it finds of a call holds of the machine, part 18a. -/
import Derived.Test.YtcajalekkffcjaaDoorEv17
namespace Go.Ev
open Go
noncomputable def Jf (l m:List Value):List Value:=List.rec m (fun a _ ih=>a :: ih) l
theorem Cd:∀l m:List Value,Jf l m=l++m
 | [],_=>rfl
 |a :: l,m=>congrArg (a :: ·) (Cd l m)
def Md (v:Value) (b:Bool):Bool:=
 match v with
 | .bool c=>c == b
 |_=>false
theorem qF (t:Tmp) (b:Bool) (ts:List Value):aq (some (t,b)) ts=Md (NI t ts) b:=by
 rw [uw,List.getD_eq_getElem?_getD]
 simp only [aq,Md]
 cases ts[t]? with
 |none=>rfl
 |some v=>cases v<;>rfl
end Go.Ev
