/- Walks: the reference's step and its opposite direction; the cell beside a cell. -/
import Derived.Test.YtklifibiadiinaaDoorVWk
import Derived.Test.YtklifibiadiinaaDoorVWf
import Derived.Test.YtklifibiadiinaaDoorZa
import Derived.Test.YtklifibiadiinaaDoorVLaw
set_option linter.unusedVariables false
namespace Go.Proofs.YtklifibiadiinaaDoor
open Go.RowKit Domi

theorem l2Back_any (way : Int) (w : World) (h : 1 ≤ way ∧ way ≤ 4) : Calls Tryd.prog 55 #[.int .i64 way] w (Ret (.int .i64 (backI way)) w) := by
  go_enter Tryd.func55, Tryd.ntmps55
  go_wp2
  go_ret
  exact ⟨ret_int rfl, Below.refl _ _⟩
theorem back_any (way : Int) (w : World) (h : 1 ≤ way ∧ way ≤ 4) : Calls Tryd.prog 57 #[.int .i64 way] w (Ret (.int .i64 (backI way)) w) := by
  go_enter Tryd.func57, Tryd.ntmps57
  go_wp2
  go_ret
  exact ⟨ret_int rfl, Below.refl _ _⟩

set_option maxHeartbeats 1000000 in
theorem l2Step_1 (v : Value) (r : Reg) (c : Int) (w : World) (h : RegV w v r) (hv : r.valid = true) (h0 : 0 ≤ c) (hl : c < r.wide * r.tall) :
    Calls Tryd.prog 54 #[v, .int .i64 c, .int .i64 1] w (Ret (.int .i64 (stepI r c 1)) w) := by
  obtain ⟨b1, b2, b3, b4⟩ := Reg.valid_iff.1 hv
  have ha := area_in b1 b2
  obtain ⟨a1, a2, a3, a4, a5⟩ := cell_xy (r := r) (by omega) h0 hl
  obtain ⟨a, cap, rfl, hs, hlc, hcm⟩ := h.opened
  have BX := Lib.hid (below_alloc w (.cells #[.int .i64 r.wide, .int .i64 r.tall, .slice a r.cells.length cap] 25))
  have c100 : c ≤ 100 := by omega
  clear hs h a5 b3
  by_cases hx : c % r.wide < r.wide - 1
  · have hR := Lib.hid (show stepI r c 1 = c + 1 by unfold stepI; simp [hx])
    go_enter Tryd.func54, Tryd.ntmps54
    go_wp2_with (fail)
    first | (go_quiet (fail); go_wp2) | skip
    first | (go_quiet (fail); go_wp2) | skip
    go_ret
    exact ⟨ret_int hR.out.symm, by first | exact BX.out | exact bel_dn BX.out _ | exact bel_dn (bel_dn BX.out _) _⟩
  · have hR := Lib.hid (show stepI r c 1 = -1 by unfold stepI; simp [hx])
    have hx' : decide (c % r.wide < r.wide - 1) = false := by simpa using hx
    go_enter Tryd.func54, Tryd.ntmps54
    go_wp2_with (fail)
    first | (go_quiet (fail); go_wp2) | skip
    first | (go_quiet (fail); go_wp2) | skip
    go_ret
    exact ⟨ret_int hR.out.symm, by first | exact BX.out | exact bel_dn BX.out _ | exact bel_dn (bel_dn BX.out _) _⟩

set_option maxHeartbeats 1000000 in
theorem l2Step_2 (v : Value) (r : Reg) (c : Int) (w : World) (h : RegV w v r) (hv : r.valid = true) (h0 : 0 ≤ c) (hl : c < r.wide * r.tall) :
    Calls Tryd.prog 54 #[v, .int .i64 c, .int .i64 2] w (Ret (.int .i64 (stepI r c 2)) w) := by
  obtain ⟨b1, b2, b3, b4⟩ := Reg.valid_iff.1 hv
  have ha := area_in b1 b2
  obtain ⟨a1, a2, a3, a4, a5⟩ := cell_xy (r := r) (by omega) h0 hl
  obtain ⟨a, cap, rfl, hs, hlc, hcm⟩ := h.opened
  have BX := Lib.hid (below_alloc w (.cells #[.int .i64 r.wide, .int .i64 r.tall, .slice a r.cells.length cap] 25))
  have c100 : c ≤ 100 := by omega
  clear hs h a5 b3
  by_cases hx : c / r.wide < r.tall - 1
  · have hR := Lib.hid (show stepI r c 2 = c + r.wide by unfold stepI; simp [hx])
    go_enter Tryd.func54, Tryd.ntmps54
    go_wp2_with (fail)
    first | (go_quiet (fail); go_wp2) | skip
    first | (go_quiet (fail); go_wp2) | skip
    go_ret
    exact ⟨ret_int hR.out.symm, by first | exact BX.out | exact bel_dn BX.out _ | exact bel_dn (bel_dn BX.out _) _⟩
  · have hR := Lib.hid (show stepI r c 2 = -1 by unfold stepI; simp [hx])
    have hx' : decide (c / r.wide < r.tall - 1) = false := by simpa using hx
    go_enter Tryd.func54, Tryd.ntmps54
    go_wp2_with (fail)
    first | (go_quiet (fail); go_wp2) | skip
    first | (go_quiet (fail); go_wp2) | skip
    go_ret
    exact ⟨ret_int hR.out.symm, by first | exact BX.out | exact bel_dn BX.out _ | exact bel_dn (bel_dn BX.out _) _⟩

set_option maxHeartbeats 1000000 in
theorem l2Step_3 (v : Value) (r : Reg) (c : Int) (w : World) (h : RegV w v r) (hv : r.valid = true) (h0 : 0 ≤ c) (hl : c < r.wide * r.tall) :
    Calls Tryd.prog 54 #[v, .int .i64 c, .int .i64 3] w (Ret (.int .i64 (stepI r c 3)) w) := by
  obtain ⟨b1, b2, b3, b4⟩ := Reg.valid_iff.1 hv
  have ha := area_in b1 b2
  obtain ⟨a1, a2, a3, a4, a5⟩ := cell_xy (r := r) (by omega) h0 hl
  obtain ⟨a, cap, rfl, hs, hlc, hcm⟩ := h.opened
  have BX := Lib.hid (below_alloc w (.cells #[.int .i64 r.wide, .int .i64 r.tall, .slice a r.cells.length cap] 25))
  have c100 : c ≤ 100 := by omega
  clear hs h a5 b3
  by_cases hx : 0 < c % r.wide
  · have hR := Lib.hid (show stepI r c 3 = c - 1 by unfold stepI; simp [hx])
    go_enter Tryd.func54, Tryd.ntmps54
    go_wp2_with (fail)
    first | (go_quiet (fail); go_wp2) | skip
    first | (go_quiet (fail); go_wp2) | skip
    go_ret
    exact ⟨ret_int hR.out.symm, by first | exact BX.out | exact bel_dn BX.out _ | exact bel_dn (bel_dn BX.out _) _⟩
  · have hR := Lib.hid (show stepI r c 3 = -1 by unfold stepI; simp [hx])
    have hx' : decide (0 < c % r.wide) = false := by simpa using hx
    go_enter Tryd.func54, Tryd.ntmps54
    go_wp2_with (fail)
    first | (go_quiet (fail); go_wp2) | skip
    first | (go_quiet (fail); go_wp2) | skip
    go_ret
    exact ⟨ret_int hR.out.symm, by first | exact BX.out | exact bel_dn BX.out _ | exact bel_dn (bel_dn BX.out _) _⟩

set_option maxHeartbeats 1000000 in
theorem l2Step_4 (v : Value) (r : Reg) (c : Int) (w : World) (h : RegV w v r) (hv : r.valid = true) (h0 : 0 ≤ c) (hl : c < r.wide * r.tall) :
    Calls Tryd.prog 54 #[v, .int .i64 c, .int .i64 4] w (Ret (.int .i64 (stepI r c 4)) w) := by
  obtain ⟨b1, b2, b3, b4⟩ := Reg.valid_iff.1 hv
  have ha := area_in b1 b2
  obtain ⟨a1, a2, a3, a4, a5⟩ := cell_xy (r := r) (by omega) h0 hl
  obtain ⟨a, cap, rfl, hs, hlc, hcm⟩ := h.opened
  have BX := Lib.hid (below_alloc w (.cells #[.int .i64 r.wide, .int .i64 r.tall, .slice a r.cells.length cap] 25))
  have c100 : c ≤ 100 := by omega
  clear hs h a5 b3
  by_cases hx : 0 < c / r.wide
  · have hR := Lib.hid (show stepI r c 4 = c - r.wide by unfold stepI; simp [hx])
    go_enter Tryd.func54, Tryd.ntmps54
    go_wp2_with (fail)
    first | (go_quiet (fail); go_wp2) | skip
    first | (go_quiet (fail); go_wp2) | skip
    go_ret
    exact ⟨ret_int hR.out.symm, by first | exact BX.out | exact bel_dn BX.out _ | exact bel_dn (bel_dn BX.out _) _⟩
  · have hR := Lib.hid (show stepI r c 4 = -1 by unfold stepI; simp [hx])
    have hx' : decide (0 < c / r.wide) = false := by simpa using hx
    go_enter Tryd.func54, Tryd.ntmps54
    go_wp2_with (fail)
    first | (go_quiet (fail); go_wp2) | skip
    first | (go_quiet (fail); go_wp2) | skip
    go_ret
    exact ⟨ret_int hR.out.symm, by first | exact BX.out | exact bel_dn BX.out _ | exact bel_dn (bel_dn BX.out _) _⟩

theorem l2Step_any (v : Value) (r : Reg) (c way : Int) (w : World) (h : RegV w v r) (hv : r.valid = true) (h0 : 0 ≤ c) (hl : c < r.wide * r.tall) (h1 : 1 ≤ way ∧ way ≤ 4) :
    Calls Tryd.prog 54 #[v, .int .i64 c, .int .i64 way] w (Ret (.int .i64 (stepI r c way)) w) := by
  have hw : way = 1 ∨ way = 2 ∨ way = 3 ∨ way = 4 := by omega
  rcases hw with rfl | rfl | rfl | rfl
  · exact l2Step_1 v r c w h hv h0 hl
  · exact l2Step_2 v r c w h hv h0 hl
  · exact l2Step_3 v r c w h hv h0 hl
  · exact l2Step_4 v r c w h hv h0 hl

theorem l1In_is (n lo hi : Int) (w : World) (b : Bool) (h : inB n lo hi = b) : Calls Tryd.prog 53 #[.int .i64 n, .int .i64 lo, .int .i64 hi] w fun e w' => e = .returned (.bool b) ∧ w = w' := by
  rw [← h]; exact l1In_any n lo hi w

set_option maxHeartbeats 1000000 in
theorem StepTo_any (v : Value) (r : Reg) (c way : Int) (w : World) (h : RegV w v r) :
    Calls Tryd.prog 64 #[v, .int .i64 c, .int .i64 way] w (Ret (.int .i64 (stepTo r c way)) w) := by
  obtain ⟨a, cap, rfl, hs, hlc, hcm⟩ := h.opened
  have R0 := Lib.hid (RB.new hs)
  have B0 := Lib.hid (below_alloc w (.cells #[.int .i64 r.wide, .int .i64 r.tall, .slice a r.cells.length cap] 25))
  clear hs h
  cases hv : r.valid
  · go_enter Tryd.func64, Tryd.ntmps64
    go_wp2_with (fail)
    refine (sRegionValid_is _ r _ R0.out.v false hv).mono ?_
    rintro e w1 ⟨rfl, hb⟩
    have HB := Lib.hid (B0.out.trans (hb.mono B0.out.size))
    clear hb
    go_wp2
    go_ret
    exact ⟨ret_int (stepTo_no (.inl hv)).symm, HB.out⟩
  · have hl36 : (r.cells.length : Int) ≤ 36 := by
      obtain ⟨b1, b2, b3, b4⟩ := Reg.valid_iff.1 hv
      have := area_in b1 b2
      omega
    cases hc : inB c 0 (r.cells.length - 1)
    · go_enter Tryd.func64, Tryd.ntmps64
      go_wp2_with (fail)
      refine (sRegionValid_is _ r _ R0.out.v true hv).mono ?_
      rintro e w1 ⟨rfl, hb⟩
      have R1 := Lib.hid (R0.out.on hb)
      have HB := Lib.hid (B0.out.trans (hb.mono B0.out.size))
      obtain ⟨x0, x1, x2⟩ := R1.out.c3
      clear hb
      go_wp2_with (fail)
      refine (l1In_is _ _ _ _ false hc).mono ?_
      rintro e w2 ⟨rfl, rfl⟩
      go_wp2
      go_ret
      exact ⟨ret_int (stepTo_no (.inr (.inl hc))).symm, HB.out⟩
    · cases hw : inB way 1 4
      · go_enter Tryd.func64, Tryd.ntmps64
        go_wp2_with (fail)
        refine (sRegionValid_is _ r _ R0.out.v true hv).mono ?_
        rintro e w1 ⟨rfl, hb⟩
        have R1 := Lib.hid (R0.out.on hb)
        have HB := Lib.hid (B0.out.trans (hb.mono B0.out.size))
        obtain ⟨x0, x1, x2⟩ := R1.out.c3
        clear hb
        go_wp2_with (fail)
        refine (l1In_is _ _ _ _ true hc).mono ?_
        rintro e w2 ⟨rfl, rfl⟩
        go_wp2_with (fail)
        refine (l1In_is _ _ _ _ false hw).mono ?_
        rintro e w2 ⟨rfl, rfl⟩
        go_wp2
        go_ret
        exact ⟨ret_int (stepTo_no (.inr (.inr hw))).symm, HB.out⟩
      · go_enter Tryd.func64, Tryd.ntmps64
        go_wp2_with (fail)
        refine (sRegionValid_is _ r _ R0.out.v true hv).mono ?_
        rintro e w1 ⟨rfl, hb⟩
        have R1 := Lib.hid (R0.out.on hb)
        have HB := Lib.hid (B0.out.trans (hb.mono B0.out.size))
        obtain ⟨x0, x1, x2⟩ := R1.out.c3
        clear hb
        go_wp2_with (fail)
        refine (l1In_is _ _ _ _ true hc).mono ?_
        rintro e w2 ⟨rfl, rfl⟩
        go_wp2_with (fail)
        refine (l1In_is _ _ _ _ true hw).mono ?_
        rintro e w2 ⟨rfl, rfl⟩
        go_wp2_with (fail)
        have hcc := inB_iff.1 hc
        refine (l2Step_any _ r c way _ R1.out.v hv (by omega) (by have := (Reg.valid_iff.1 hv).2.2.1; omega) (inB_iff.1 hw)).mono ?_
        rintro e w3 ⟨rfl, hb⟩
        have HB3 := Lib.hid (HB.out.trans (hb.mono HB.out.size))
        clear hb
        go_wp2
        go_ret
        exact ⟨ret_int (stepTo_yes hv hc hw).symm, HB3.out⟩
end Go.Proofs.YtklifibiadiinaaDoor
