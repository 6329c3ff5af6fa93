/- Walks: flip, FlipOne, flips, FlipsOf of the program. -/
import Derived.Test.YtdggcfpkbmdllaaVWflip
import Derived.Test.YtdggcfpkbmdllaaZa
set_option linter.unusedVariables false
namespace Go.Proofs.Ytdggcfpkbmdllaa
open Go.RowKit Domi

end Go.Proofs.Ytdggcfpkbmdllaa
