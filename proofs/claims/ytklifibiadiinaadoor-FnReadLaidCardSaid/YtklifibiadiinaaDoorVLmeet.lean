/- The laws FnRegionMeet and FnRegionJoin: their walks. -/
import Derived.Test.YtklifibiadiinaaDoorVWh
import Derived.Test.YtklifibiadiinaaDoorVWi
import Derived.Test.YtklifibiadiinaaDoorVWiJ
import Derived.Test.YtklifibiadiinaaDoorVPairB
import Derived.Test.YtklifibiadiinaaDoorZa
import Derived.Test.YtklifibiadiinaaDoorVLaw
set_option linter.unusedVariables false
namespace Go.Proofs.YtklifibiadiinaaDoor
open Go.RowKit Domi

theorem cells_later {w : World} {X : Nat} {r : Reg} {s : Value} (L : Later w) (h : RB w X r s) : Calls Tryd.prog 30 #[.agg #[.int .i64 r.wide, .int .i64 r.tall, s]] L.x fun e w' => e = .returned (.int .i64 r.many) ∧ ∃ K : Later w, w' = K.x :=
  calls_later L (CellsMany_any _ r _ (h.v.below L.h))
theorem same_later {w : World} {X Y : Nat} {r q : Reg} {s u : Value} (L : Later w) (h : RB w X r s) (g : RB w Y q u) (hc : decide (r = q) = true) :
    Calls Tryd.prog 13 #[.agg #[.int .i64 r.wide, .int .i64 r.tall, s], .agg #[.int .i64 q.wide, .int .i64 q.tall, u]] L.x fun e w' => e = .returned (.bool true) ∧ ∃ K : Later w, w' = K.x :=
  calls_later L ((sameRegion_any _ _ r q _ (h.v.below L.h) (g.v.below L.h)).mono fun e w' hh => ⟨by rw [hh.1, hc], hh.2⟩)
theorem sameRegion_is (v u : Value) (r q : Reg) (c : Bool) (w : World) (h : RegV w v r) (g : RegV w u q) (hc : decide (r = q) = c) :
    Calls Tryd.prog 13 #[v, u] w fun e w' => e = .returned (.bool c) ∧ Below w.heap.size w w' := by rw [← hc]; exact sameRegion_any v u r q w h g

end Go.Proofs.YtklifibiadiinaaDoor
