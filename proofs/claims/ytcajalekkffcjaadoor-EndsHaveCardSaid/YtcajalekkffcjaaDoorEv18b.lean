/- The evaluator over a small code, and that what it finds of a call holds of the machine, part 18b. -/
import Derived.Test.YtcajalekkffcjaaDoorEv18a
namespace Go.Ev
open Go
noncomputable def Gt (r:Option (fR × RC × H)):Option (Value × H):=
 match r with
 |some (.ret v,_,h')=>some (v,h')
 |_=>none
end Go.Ev
