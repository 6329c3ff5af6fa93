/- Walks: the functions that draw two regions. -/
import Derived.Test.YtklifibiadiinaaDoorVPair
set_option linter.unusedVariables false
namespace Go.Proofs.YtklifibiadiinaaDoor
open Go.RowKit Domi

def DrawnP (w : World) (e : Ending) (w' : World) : Prop :=
  ∃ s u r q, e = .returned (.tuple #[.agg #[.int .i64 r.wide, .int .i64 r.tall, s], .agg #[.int .i64 q.wide, .int .i64 q.tall, u]]) ∧ Bl w' s r.cells ∧ Bl w' u q.cells ∧ RegSmall r ∧ RegSmall q ∧ Below w.heap.size w w'

end Go.Proofs.YtklifibiadiinaaDoor
