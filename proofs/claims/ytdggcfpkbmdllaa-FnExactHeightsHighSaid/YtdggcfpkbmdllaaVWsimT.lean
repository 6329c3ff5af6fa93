/- Simple of the reference. -/
import Derived.Test.YtdggcfpkbmdllaaVWsim
import Derived.Test.YtdggcfpkbmdllaaVWsimS
import Derived.Test.YtdggcfpkbmdllaaVWpm
set_option linter.unusedVariables false
namespace Go.Proofs.Ytdggcfpkbmdllaa
open Go.RowKit Domi

theorem spmany_is (v : Value) (r : Reg) (w : World) (h : RegV w v r) (n : Int) (hn : r.pmany = n) : Calls Try.prog 96 #[v] w (Ret (.int .i64 n) w) := by rw [← hn]; exact sPartsMany_any v r w h
theorem sSimple_is (v : Value) (r : Reg) (w : World) (h : RegV w v r) (b : Bool) (hb0 : r.simB = b) : Calls Try.prog 69 #[v] w (Ret (.bool b) w) := by
  obtain ⟨a, cap, rfl, hs, hlc, hcm⟩ := h.opened
  have R0 := Lib.hid (RB.new hs)
  have B0 := Lib.hid (below_alloc w (.cells #[.int .i64 r.wide, .int .i64 r.tall, .slice a r.cells.length cap] 28))
  have HB := Lib.hid hb0
  obtain ⟨n, hn⟩ : ∃ n, r.pmany = n := ⟨_, rfl⟩
  have HN := Lib.hid hn
  clear h hs hb0 hn
  go_enter Try.func69, Try.ntmps69
  go_wp2_with (fail)
  refine (spmany_is _ r _ R0.out.v n HN.out).mono ?_
  rintro e w1 ⟨rfl, hb⟩
  have B1 := Lib.hid (B0.out.trans (hb.mono B0.out.size))
  have R1 := Lib.hid (R0.out.on hb)
  clear hb R0
  by_cases h1 : n = 1
  · have hv : r.valid = true := by
      cases hv : r.valid
      · have := HN.out
        rw [pmany_no hv] at this
        omega
      · rfl
    have E : Hid (decide (r.outs = 1) = b) := Lib.hid (by rw [← HB.out]; unfold Reg.simB; rw [hv, HN.out, h1]; simp)
    subst h1
    obtain ⟨x0, x1, x2⟩ := R1.out.c3
    go_wp2_with (fail)
    refine (l4Outside_any _ r _ R1.out.v hv b E.out).mono ?_
    rintro e w2 ⟨rfl, hb⟩
    have B2 := Lib.hid (B1.out.trans (hb.mono B1.out.size))
    clear hb x0 x1 x2
    go_wp2
    go_ret
    exact ⟨rfl, B2.out⟩
  · have E : Hid (b = false) := Lib.hid (by rw [← HB.out]; unfold Reg.simB; rw [HN.out, decide_eq_false h1]; simp)
    have hne : (n == 1) = false := by simpa using h1
    go_wp2
    go_ret
    exact ⟨ret_bool (by first | exact E.out.symm | (rw [E.out]; exact hne)), B1.out⟩
end Go.Proofs.Ytdggcfpkbmdllaa
