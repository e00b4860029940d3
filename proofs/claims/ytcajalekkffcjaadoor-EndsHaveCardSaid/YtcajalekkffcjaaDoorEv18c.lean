/- The evaluator over a small code, and that what it finds of a call holds of the machine, part 18c. -/
import Derived.Test.YtcajalekkffcjaaDoorEv18b
namespace Go.Ev
open Go
end Go.Ev
