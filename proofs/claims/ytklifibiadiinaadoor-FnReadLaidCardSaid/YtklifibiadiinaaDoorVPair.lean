/- Walks: l20Pair. -/
import Derived.Test.YtklifibiadiinaaDoorVDrawS
set_option linter.unusedVariables false
namespace Go.Proofs.YtklifibiadiinaaDoor
open Go.RowKit Domi

end Go.Proofs.YtklifibiadiinaaDoor
