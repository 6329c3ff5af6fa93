/- Walks: combine, RegionMeet, RegionJoin. -/
import Derived.Test.YtklifibiadiinaaDoorVWc
import Derived.Test.YtklifibiadiinaaDoorVWf
import Derived.Test.YtklifibiadiinaaDoorZa
set_option linter.unusedVariables false
namespace Go.Proofs.YtklifibiadiinaaDoor
open Go.RowKit Domi

end Go.Proofs.YtklifibiadiinaaDoor
