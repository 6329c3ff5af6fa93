/- Walks: l20Pair. -/
import Derived.Test.YtnmoaecihmjnnaaVDrawS
namespace Go.Proofs.Ytnmoaecihmjnnaa
open Go.RowKit Domi

end Go.Proofs.Ytnmoaecihmjnnaa
