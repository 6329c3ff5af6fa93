/- Walks: l20Pair. -/
import Derived.Test.YtcagpfnlpjfgeaaVDrawS
set_option linter.unusedVariables false
namespace Go.Proofs.Ytcagpfnlpjfgeaa
open Go.RowKit Domi

end Go.Proofs.Ytcagpfnlpjfgeaa
