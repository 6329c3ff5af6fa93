/- Walks: the reference's TilingsMany for all regions; the equality of both. -/
import Derived.Test.YtbjenmfoblniaaaVWfront
set_option linter.unusedVariables false
namespace Go.Proofs.Ytbjenmfoblniaaa
open Go.RowKit Domi

set_option maxRecDepth 100000 in
theorem sTilingsMany_any (v : Value) (r : Reg) (w : World) (h : RegV w v r) : Calls Try.prog 25 #[v] w (Ret (.int .i64 (manyT r)) w) := by
  cases hv : r.valid
  · have HM := Lib.hid (manyT_no hv)
    obtain ⟨a, cap, rfl, hs, hlc, hcm⟩ := h.opened
    have RV : ∀ w', Below w.heap.size w w' → RegV w' (.agg #[.int .i64 r.wide, .int .i64 r.tall, .slice a r.cells.length cap]) r := fun w' hb => ⟨_, rfl, hs.below hb⟩
    have RV := Lib.hid RV
    have S0 := Lib.hid ((Sep.start w none).box #[.int .i64 r.wide, .int .i64 r.tall, .slice a r.cells.length cap] 29)
    have HV := Lib.hid hv
    clear hs h hv
    go_enter Try.func25, Try.ntmps25
    go_wp2_with (fail)
    refine (sRegionValid_is _ r _ (RV.out _ S0.out.bel) false HV.out).mono ?_
    rintro e w1 ⟨rfl, hb⟩
    have S1 := Lib.hid (S0.out.below hb)
    clear hb S0
    go_wp2
    go_ret
    exact ⟨by rw [HM.out]; rfl, S1.out.bel⟩
  · exact sTilingsMany_yes v r w h hv
end Go.Proofs.Ytbjenmfoblniaaa
