/- Walks: DarkMany and CellsMany of the reference, Balanced. -/
import Derived.Test.YtbhogphgpigpdaaWf
import Derived.Test.YtbhogphgpigpdaaPureB
import Derived.Test.YtbhogphgpigpdaaReg
namespace Go.Proofs.Ytbhogphgpigpdaa
open Go.RowKit Domi

end Go.Proofs.Ytbhogphgpigpdaa
