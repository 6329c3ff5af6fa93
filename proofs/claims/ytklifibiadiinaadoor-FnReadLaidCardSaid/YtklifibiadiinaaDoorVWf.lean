/- Walks: dark, darks, DarkMany, CellsMany of the reference, Balanced. -/
import Derived.Test.YtklifibiadiinaaDoorVWd
import Derived.Test.YtklifibiadiinaaDoorZa
set_option linter.unusedVariables false
namespace Go.Proofs.YtklifibiadiinaaDoor
open Go.RowKit Domi

theorem RegionValid_is (v : Value) (r : Reg) (w : World) (h : RegV w v r) (c : Bool) (hc : r.valid = c) :
    Calls Tryd.prog 20 #[v] w fun e w' => e = .returned (.bool c) ∧ Below w.heap.size w w' := by
  rw [← hc]; exact RegionValid_any v r w h

theorem sRegionValid_is (v : Value) (r : Reg) (w : World) (h : RegV w v r) (c : Bool) (hc : r.valid = c) :
    Calls Tryd.prog 40 #[v] w fun e w' => e = .returned (.bool c) ∧ Below w.heap.size w w' := by
  rw [← hc]; exact sRegionValid_any v r w h

end Go.Proofs.YtklifibiadiinaaDoor
