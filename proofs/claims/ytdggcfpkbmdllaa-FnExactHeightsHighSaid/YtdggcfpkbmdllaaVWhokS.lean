/- Walks: the parts of the reference's HeightsOk. -/
import Derived.Test.YtdggcfpkbmdllaaZe
import Derived.Test.YtdggcfpkbmdllaaVLaw
import Derived.Test.YtdggcfpkbmdllaaVWj
import Derived.Test.YtdggcfpkbmdllaaVWmv
set_option linter.unusedVariables false
namespace Go.Proofs.Ytdggcfpkbmdllaa
open Go.RowKit Domi

theorem sat9_is (v : Value) (r : Reg) (x y : Int) (w : World) (h : RegV w v r) (hv : r.valid = true) (hx : -100 ≤ x ∧ x ≤ 100) (hy : -100 ≤ y ∧ y ≤ 100) (b : Bool) (hb : r.at_ x y = b) :
    Calls Try.prog 98 #[v, .int .i64 x, .int .i64 y] w (Ret (.bool b) w) := by rw [← hb]; exact l1At_any v r x y w h hv hx hy
theorem l4Dark_is (x y : Int) (hx : -1 ≤ x ∧ x ≤ 100) (hy : -1 ≤ y ∧ y ≤ 100) (d : Bool) (hd : decide ((x + y) % 2 = 0) = d) (w : World) : Calls Try.prog 99 #[.int .i64 x, .int .i64 y] w (Ret (.bool d) w) := by
  have hd := Lib.hid hd
  go_enter Try.func99, Try.ntmps99
  go_wp2_with (fail)
  go_ret
  refine ⟨?_, by go_grown⟩
  rw [← hd.out]
  show Ending.returned (Value.bool ((x + y) % 2 == 0)) = _
  rw [show ((x + y) % 2 == 0) = decide ((x + y) % 2 = 0) by by_cases h : (x + y) % 2 = 0 <;> simp [h]]
theorem l4Rise_out (d : Bool) (w : World) : Calls Try.prog 72 #[.bool d, .bool false] w (Ret (.int .i64 (riseI d)) w) := by
  cases d
  all_goals go_enter Try.func72, Try.ntmps72
  all_goals go_wp2_with (fail)
  all_goals go_ret
  all_goals exact ⟨rfl, by go_grown⟩
theorem l4Rise_in (d : Bool) (w : World) : Calls Try.prog 72 #[.bool d, .bool true] w (Ret (.int .i64 (-3 * riseI d)) w) := by
  cases d
  all_goals go_enter Try.func72, Try.ntmps72
  all_goals go_wp2_with (fail)
  all_goals go_ret
  all_goals exact ⟨rfl, by go_grown⟩
set_option maxHeartbeats 400000 in
theorem cornerMany_is (v : Value) (r : Reg) (w0 t : Nat) (F : Fld r w0 t) (w : World) (h : RegV w v r) : Calls Try.prog 70 #[v] w (Ret (.int .i64 (r.cor : Int)) w) := by
  obtain ⟨a, cap, rfl, hs, hlc, hcm⟩ := h.opened
  have R := RB.new hs
  have B0 := below_alloc w (.cells #[.int .i64 r.wide, .int .i64 r.tall, .slice a r.cells.length cap] 28)
  obtain ⟨W, hW⟩ : ∃ W, W = w.alloc (.cells #[.int .i64 r.wide, .int .i64 r.tall, .slice a r.cells.length cap] 28) := ⟨_, rfl⟩
  rw [← hW] at R B0
  have R := Lib.hid R
  have BW := Lib.hid B0
  have hc := cor_is F
  have hw6 := F.w6
  have ht6 := F.t6
  have hm : (r.wide + 1) * (r.tall + 1) = (r.cor : Int) := by rw [hc, F.hw, F.ht]; push_cast; rfl
  have hk : (w0 + 1) * (t + 1) ≤ 7 * 7 := Nat.mul_le_mul (by omega) (by omega)
  have hwb : 0 ≤ r.wide ∧ r.wide ≤ 6 := by have := F.hw; omega
  have htb : 0 ≤ r.tall ∧ r.tall ≤ 6 := by have := F.ht; omega
  have hb : (r.cor : Int) ≤ 49 := by omega
  have CV := Lib.hid (fun (v : Value) (w : World) (h : RegV w v r) => sRegionValid_any v r w h)
  rw [F.hv] at CV
  clear hs h hk hc B0
  go_enter Try.func70, Try.ntmps70
  go_wp2_with (fail)
  rw [← hW]
  clear hW
  obtain ⟨x0, x1, x2⟩ := R.out.c3
  go_wp2_with (fail)
  refine (CV.out _ _ R.out.v).mono ?_
  rintro e w1 ⟨rfl, hb1⟩
  have R1 := Lib.hid (R.out.on hb1)
  have BW := Lib.hid (BW.out.trans (hb1.mono BW.out.size))
  clear x0 x1 x2 hb1
  obtain ⟨x0, x1, x2⟩ := R1.out.c3
  go_wp2_with (fail)
  go_ret
  exact ⟨rfl, BW.out⟩
end Go.Proofs.Ytdggcfpkbmdllaa
