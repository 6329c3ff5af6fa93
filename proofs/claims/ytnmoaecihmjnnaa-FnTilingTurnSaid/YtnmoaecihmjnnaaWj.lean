/- Walks: at, l1At, RegionAt, step, l2Step. -/
import Derived.Test.YtnmoaecihmjnnaaWd
import Derived.Test.YtnmoaecihmjnnaaWf
import Derived.Test.YtnmoaecihmjnnaaAtP
namespace Go.Proofs.Ytnmoaecihmjnnaa
open Go.RowKit Domi

end Go.Proofs.Ytnmoaecihmjnnaa
