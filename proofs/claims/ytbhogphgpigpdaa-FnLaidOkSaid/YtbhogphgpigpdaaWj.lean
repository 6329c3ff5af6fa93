/- Walks: at, l1At, RegionAt, step, l2Step. -/
import Derived.Test.YtbhogphgpigpdaaWd
import Derived.Test.YtbhogphgpigpdaaWf
import Derived.Test.YtbhogphgpigpdaaAtP
namespace Go.Proofs.Ytbhogphgpigpdaa
open Go.RowKit Domi

end Go.Proofs.Ytbhogphgpigpdaa
