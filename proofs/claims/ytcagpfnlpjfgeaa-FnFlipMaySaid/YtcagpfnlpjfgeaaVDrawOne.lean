/- Walks: DrawLiftOne, DrawLayOne. -/
import Derived.Test.YtcagpfnlpjfgeaaVDrawSet
import Derived.Test.YtcagpfnlpjfgeaaVDrawL
set_option linter.unusedVariables false
namespace Go.Proofs.Ytcagpfnlpjfgeaa
open Go.RowKit Domi

/-- A drawn region, a list and a cell; and a direction. -/
def DrawnL1 (w : World) (e : Ending) (w' : World) : Prop := ∃ (v u : Value) (r : Reg) (L : List Int) (c : Int), e = .returned (.tuple #[v, u, .int .i64 c]) ∧ RegV w' v r ∧ Il w' u L ∧ RegSmall r ∧ L.length ≤ 37 ∧ (-2 ≤ c ∧ c ≤ 100) ∧ Below w.heap.size w w'
def DrawnL2 (w : World) (e : Ending) (w' : World) : Prop := ∃ (v u : Value) (r : Reg) (L : List Int) (c way : Int), e = .returned (.tuple #[v, u, .int .i64 c, .int .i64 way]) ∧ RegV w' v r ∧ Il w' u L ∧ RegSmall r ∧ L.length ≤ 37 ∧ (-2 ≤ c ∧ c ≤ 100) ∧ (0 ≤ way ∧ way ≤ 5) ∧ Below w.heap.size w w'
end Go.Proofs.Ytcagpfnlpjfgeaa
