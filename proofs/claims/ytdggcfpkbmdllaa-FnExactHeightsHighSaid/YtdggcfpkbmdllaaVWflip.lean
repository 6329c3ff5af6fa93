/- Walks: flips of the program. -/
import Derived.Test.YtdggcfpkbmdllaaVWlaid
import Derived.Test.YtdggcfpkbmdllaaVWj
import Derived.Test.YtdggcfpkbmdllaaVClone
import Derived.Test.YtdggcfpkbmdllaaVLaw
import Derived.Test.YtdggcfpkbmdllaaZa
import Derived.Test.YtdggcfpkbmdllaaZe
import Derived.Laws.EntriesVeiled
set_option linter.unusedVariables false
namespace Go.Proofs.Ytdggcfpkbmdllaa
open Go.RowKit Domi

theorem corners_bd {r : Reg} (h : r.valid = true) : 4 ≤ corners r ∧ corners r ≤ 49 := by
  obtain ⟨v1, v2, _, _⟩ := Reg.valid_iff.1 h
  have e : corners r = r.wide * r.tall + r.wide + r.tall + 1 := by unfold corners; rw [Int.add_mul, Int.mul_add]; omega
  have := area_in v1 v2
  omega
set_option maxHeartbeats 400000 in
theorem corners_any (v : Value) (r : Reg) (w : World) (h : RegV w v r) (hv : r.valid = true) : Calls Try.prog 74 #[v] w (Ret (.int .i64 (corners r)) w) := by
  obtain ⟨v1, v2, _, _⟩ := Reg.valid_iff.1 hv
  have hb := corners_bd hv
  unfold corners at hb
  obtain ⟨a, cap, rfl, hs, hlc, hcm⟩ := h.opened
  clear h hs
  go_enter Try.func74, Try.ntmps74
  go_wp2
  go_ret
  exact ⟨ret_int rfl, by go_grown⟩

end Go.Proofs.Ytdggcfpkbmdllaa
