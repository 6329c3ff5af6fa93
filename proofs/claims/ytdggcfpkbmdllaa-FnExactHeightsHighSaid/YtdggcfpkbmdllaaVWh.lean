/- Walks: combine, RegionMeet, RegionJoin. -/
import Derived.Test.YtdggcfpkbmdllaaVWc
import Derived.Test.YtdggcfpkbmdllaaVWf
import Derived.Test.YtdggcfpkbmdllaaZa
set_option linter.unusedVariables false
namespace Go.Proofs.Ytdggcfpkbmdllaa
open Go.RowKit Domi

end Go.Proofs.Ytdggcfpkbmdllaa
