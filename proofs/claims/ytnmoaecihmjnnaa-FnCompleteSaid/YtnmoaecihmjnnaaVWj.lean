/- Walks: at, l1At, RegionAt, step, l2Step. -/
import Derived.Test.YtnmoaecihmjnnaaVWd
import Derived.Test.YtnmoaecihmjnnaaVWf
import Derived.Test.YtnmoaecihmjnnaaZa
set_option linter.unusedVariables false
namespace Go.Proofs.Ytnmoaecihmjnnaa
open Go.RowKit Domi

end Go.Proofs.Ytnmoaecihmjnnaa
