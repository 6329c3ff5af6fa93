/- Walks: has, RegionSet. -/
import Derived.Test.YtbjenmfoblniaaaVWb
import Derived.Test.YtbjenmfoblniaaaVClone
import Derived.Test.YtbjenmfoblniaaaZa
set_option linter.unusedVariables false
namespace Go.Proofs.Ytbjenmfoblniaaa
open Go.RowKit Domi

set_option maxHeartbeats 400000 in
theorem has_any (v : Value) (r : Reg) (c : Int) (w : World) (h : RegV w v r) :
    Calls Try.prog 81 #[v, .int .i64 c] w (Ret (.bool (inB c 0 (r.cells.length - 1))) w) := by
  obtain ⟨a, cap, rfl, hs, hlc, hcm⟩ := h.opened
  clear h hs
  go_enter Try.func81, Try.ntmps81
  go_wp2_with (fail)
  refine (in_any _ _ _ _).mono ?_
  rintro e w1 ⟨rfl, rfl⟩
  go_wp2
  go_ret
  exact ⟨rfl, by go_grown⟩

end Go.Proofs.Ytbjenmfoblniaaa
