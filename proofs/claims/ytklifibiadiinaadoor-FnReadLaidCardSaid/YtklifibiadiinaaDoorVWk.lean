/- Walks: step and l2Step: the cell in a direction. -/
import Derived.Test.YtklifibiadiinaaDoorVWj
set_option linter.unusedVariables false
namespace Go.Proofs.YtklifibiadiinaaDoor
open Go.RowKit Domi

set_option maxHeartbeats 1000000 in
theorem step_1 (v : Value) (r : Reg) (c : Int) (w : World) (h : RegV w v r) (hv : r.valid = true) (h0 : 0 ≤ c) (hl : c < r.wide * r.tall) :
    Calls Tryd.prog 56 #[v, .int .i64 c, .int .i64 1] w (Ret (.int .i64 (stepI r c 1)) w) := by
  obtain ⟨b1, b2, b3, b4⟩ := Reg.valid_iff.1 hv
  have ha := area_in b1 b2
  obtain ⟨a1, a2, a3, a4, a5⟩ := cell_xy (r := r) (by omega) h0 hl
  obtain ⟨a, cap, rfl, hs, hlc, hcm⟩ := h.opened
  have Hs := Lib.hid hs
  have hst : stepI r c 1 = if inB (c % r.wide + 1) 0 (r.wide - 1) && inB (c / r.wide) 0 (r.tall - 1) then (c / r.wide) * r.wide + (c % r.wide + 1) else -1 := by
    have := stepI_xy (r := r) (c := c) (way := 1) (by omega) h0 hl (by omega) (by omega)
    simpa [dX, dY, Int.sub_eq_add_neg] using this
  obtain ⟨R, hR⟩ : ∃ R, stepI r c 1 = R := ⟨_, rfl⟩
  rw [hR] at hst ⊢
  have HS := Lib.hid hst
  clear hs h hst hR a5 b3
  have c100 : c ≤ 100 := by omega
  go_enter Tryd.func56, Tryd.ntmps56
  go_wp2_with (fail)
  refine (xy_any _ r c _ ?_ (by omega) (by omega)).mono ?_
  · refine RegV.below ⟨_, rfl, Hs.out⟩ ?_; go_grown
  rintro e w1 ⟨rfl, hb⟩
  have Hb := Lib.hid (show Below w.heap.size w w1 from Below.trans (by go_grown) (hb.mono (by simp)))
  have c0 := cell_behind (o := 0) (b := w.heap.size) hb (by simp)
  have c1 := cell_behind (o := 1) (b := w.heap.size) hb (by simp)
  simp at c0 c1
  clear hb
  cases hx : inB (c % r.wide + 1) 0 (r.wide - 1)
  · go_wp2_with (go_at_call 42; refine (in_any _ _ _ _).mono ?_; rintro e w' ⟨rfl, rfl⟩)
    all_goals (go_ret; exact ⟨ret_int (by rw [HS.out, hx]; rfl), Hb.out⟩)
  · cases hy : inB (c / r.wide) 0 (r.tall - 1)
    · go_wp2_with (go_at_call 42; refine (in_any _ _ _ _).mono ?_; rintro e w' ⟨rfl, rfl⟩)
      all_goals (go_ret; exact ⟨ret_int (by rw [HS.out, hx, hy]; rfl), Hb.out⟩)
    · have hx' := inB_iff.1 hx
      have hy' := inB_iff.1 hy
      have hm := xy_lt (w := r.wide) (t := r.tall) (x := 0) (y := c / r.wide) (by omega) (by omega) (by omega) (by omega)
      have hm1 : 0 ≤ (c / r.wide) * r.wide := by omega
      have hm2 : (c / r.wide) * r.wide ≤ 36 := by omega
      clear hm
      go_wp2_with (go_at_call 42; refine (in_any _ _ _ _).mono ?_; rintro e w' ⟨rfl, rfl⟩)
      all_goals (go_ret; exact ⟨ret_int (by rw [HS.out, hx, hy]; rfl), Hb.out⟩)

set_option maxHeartbeats 1000000 in
theorem step_2 (v : Value) (r : Reg) (c : Int) (w : World) (h : RegV w v r) (hv : r.valid = true) (h0 : 0 ≤ c) (hl : c < r.wide * r.tall) :
    Calls Tryd.prog 56 #[v, .int .i64 c, .int .i64 2] w (Ret (.int .i64 (stepI r c 2)) w) := by
  obtain ⟨b1, b2, b3, b4⟩ := Reg.valid_iff.1 hv
  have ha := area_in b1 b2
  obtain ⟨a1, a2, a3, a4, a5⟩ := cell_xy (r := r) (by omega) h0 hl
  obtain ⟨a, cap, rfl, hs, hlc, hcm⟩ := h.opened
  have Hs := Lib.hid hs
  have hst : stepI r c 2 = if inB (c % r.wide) 0 (r.wide - 1) && inB (c / r.wide + 1) 0 (r.tall - 1) then (c / r.wide + 1) * r.wide + (c % r.wide) else -1 := by
    have := stepI_xy (r := r) (c := c) (way := 2) (by omega) h0 hl (by omega) (by omega)
    simpa [dX, dY, Int.sub_eq_add_neg] using this
  obtain ⟨R, hR⟩ : ∃ R, stepI r c 2 = R := ⟨_, rfl⟩
  rw [hR] at hst ⊢
  have HS := Lib.hid hst
  clear hs h hst hR a5 b3
  have c100 : c ≤ 100 := by omega
  go_enter Tryd.func56, Tryd.ntmps56
  go_wp2_with (fail)
  refine (xy_any _ r c _ ?_ (by omega) (by omega)).mono ?_
  · refine RegV.below ⟨_, rfl, Hs.out⟩ ?_; go_grown
  rintro e w1 ⟨rfl, hb⟩
  have Hb := Lib.hid (show Below w.heap.size w w1 from Below.trans (by go_grown) (hb.mono (by simp)))
  have c0 := cell_behind (o := 0) (b := w.heap.size) hb (by simp)
  have c1 := cell_behind (o := 1) (b := w.heap.size) hb (by simp)
  simp at c0 c1
  clear hb
  cases hx : inB (c % r.wide) 0 (r.wide - 1)
  · go_wp2_with (go_at_call 42; refine (in_any _ _ _ _).mono ?_; rintro e w' ⟨rfl, rfl⟩)
    all_goals (go_ret; exact ⟨ret_int (by rw [HS.out, hx]; rfl), Hb.out⟩)
  · cases hy : inB (c / r.wide + 1) 0 (r.tall - 1)
    · go_wp2_with (go_at_call 42; refine (in_any _ _ _ _).mono ?_; rintro e w' ⟨rfl, rfl⟩)
      all_goals (go_ret; exact ⟨ret_int (by rw [HS.out, hx, hy]; rfl), Hb.out⟩)
    · have hx' := inB_iff.1 hx
      have hy' := inB_iff.1 hy
      have hm := xy_lt (w := r.wide) (t := r.tall) (x := 0) (y := c / r.wide + 1) (by omega) (by omega) (by omega) (by omega)
      have hm1 : 0 ≤ (c / r.wide + 1) * r.wide := by omega
      have hm2 : (c / r.wide + 1) * r.wide ≤ 36 := by omega
      clear hm
      go_wp2_with (go_at_call 42; refine (in_any _ _ _ _).mono ?_; rintro e w' ⟨rfl, rfl⟩)
      all_goals (go_ret; exact ⟨ret_int (by rw [HS.out, hx, hy]; rfl), Hb.out⟩)

set_option maxHeartbeats 1000000 in
theorem step_3 (v : Value) (r : Reg) (c : Int) (w : World) (h : RegV w v r) (hv : r.valid = true) (h0 : 0 ≤ c) (hl : c < r.wide * r.tall) :
    Calls Tryd.prog 56 #[v, .int .i64 c, .int .i64 3] w (Ret (.int .i64 (stepI r c 3)) w) := by
  obtain ⟨b1, b2, b3, b4⟩ := Reg.valid_iff.1 hv
  have ha := area_in b1 b2
  obtain ⟨a1, a2, a3, a4, a5⟩ := cell_xy (r := r) (by omega) h0 hl
  obtain ⟨a, cap, rfl, hs, hlc, hcm⟩ := h.opened
  have Hs := Lib.hid hs
  have hst : stepI r c 3 = if inB (c % r.wide - 1) 0 (r.wide - 1) && inB (c / r.wide) 0 (r.tall - 1) then (c / r.wide) * r.wide + (c % r.wide - 1) else -1 := by
    have := stepI_xy (r := r) (c := c) (way := 3) (by omega) h0 hl (by omega) (by omega)
    simpa [dX, dY, Int.sub_eq_add_neg] using this
  obtain ⟨R, hR⟩ : ∃ R, stepI r c 3 = R := ⟨_, rfl⟩
  rw [hR] at hst ⊢
  have HS := Lib.hid hst
  clear hs h hst hR a5 b3
  have c100 : c ≤ 100 := by omega
  go_enter Tryd.func56, Tryd.ntmps56
  go_wp2_with (fail)
  refine (xy_any _ r c _ ?_ (by omega) (by omega)).mono ?_
  · refine RegV.below ⟨_, rfl, Hs.out⟩ ?_; go_grown
  rintro e w1 ⟨rfl, hb⟩
  have Hb := Lib.hid (show Below w.heap.size w w1 from Below.trans (by go_grown) (hb.mono (by simp)))
  have c0 := cell_behind (o := 0) (b := w.heap.size) hb (by simp)
  have c1 := cell_behind (o := 1) (b := w.heap.size) hb (by simp)
  simp at c0 c1
  clear hb
  cases hx : inB (c % r.wide - 1) 0 (r.wide - 1)
  · go_wp2_with (go_at_call 42; refine (in_any _ _ _ _).mono ?_; rintro e w' ⟨rfl, rfl⟩)
    all_goals (go_ret; exact ⟨ret_int (by rw [HS.out, hx]; rfl), Hb.out⟩)
  · cases hy : inB (c / r.wide) 0 (r.tall - 1)
    · go_wp2_with (go_at_call 42; refine (in_any _ _ _ _).mono ?_; rintro e w' ⟨rfl, rfl⟩)
      all_goals (go_ret; exact ⟨ret_int (by rw [HS.out, hx, hy]; rfl), Hb.out⟩)
    · have hx' := inB_iff.1 hx
      have hy' := inB_iff.1 hy
      have hm := xy_lt (w := r.wide) (t := r.tall) (x := 0) (y := c / r.wide) (by omega) (by omega) (by omega) (by omega)
      have hm1 : 0 ≤ (c / r.wide) * r.wide := by omega
      have hm2 : (c / r.wide) * r.wide ≤ 36 := by omega
      clear hm
      go_wp2_with (go_at_call 42; refine (in_any _ _ _ _).mono ?_; rintro e w' ⟨rfl, rfl⟩)
      all_goals (go_ret; exact ⟨ret_int (by rw [HS.out, hx, hy]; rfl), Hb.out⟩)

set_option maxHeartbeats 1000000 in
theorem step_4 (v : Value) (r : Reg) (c : Int) (w : World) (h : RegV w v r) (hv : r.valid = true) (h0 : 0 ≤ c) (hl : c < r.wide * r.tall) :
    Calls Tryd.prog 56 #[v, .int .i64 c, .int .i64 4] w (Ret (.int .i64 (stepI r c 4)) w) := by
  obtain ⟨b1, b2, b3, b4⟩ := Reg.valid_iff.1 hv
  have ha := area_in b1 b2
  obtain ⟨a1, a2, a3, a4, a5⟩ := cell_xy (r := r) (by omega) h0 hl
  obtain ⟨a, cap, rfl, hs, hlc, hcm⟩ := h.opened
  have Hs := Lib.hid hs
  have hst : stepI r c 4 = if inB (c % r.wide) 0 (r.wide - 1) && inB (c / r.wide - 1) 0 (r.tall - 1) then (c / r.wide - 1) * r.wide + (c % r.wide) else -1 := by
    have := stepI_xy (r := r) (c := c) (way := 4) (by omega) h0 hl (by omega) (by omega)
    simpa [dX, dY, Int.sub_eq_add_neg] using this
  obtain ⟨R, hR⟩ : ∃ R, stepI r c 4 = R := ⟨_, rfl⟩
  rw [hR] at hst ⊢
  have HS := Lib.hid hst
  clear hs h hst hR a5 b3
  have c100 : c ≤ 100 := by omega
  go_enter Tryd.func56, Tryd.ntmps56
  go_wp2_with (fail)
  refine (xy_any _ r c _ ?_ (by omega) (by omega)).mono ?_
  · refine RegV.below ⟨_, rfl, Hs.out⟩ ?_; go_grown
  rintro e w1 ⟨rfl, hb⟩
  have Hb := Lib.hid (show Below w.heap.size w w1 from Below.trans (by go_grown) (hb.mono (by simp)))
  have c0 := cell_behind (o := 0) (b := w.heap.size) hb (by simp)
  have c1 := cell_behind (o := 1) (b := w.heap.size) hb (by simp)
  simp at c0 c1
  clear hb
  cases hx : inB (c % r.wide) 0 (r.wide - 1)
  · go_wp2_with (go_at_call 42; refine (in_any _ _ _ _).mono ?_; rintro e w' ⟨rfl, rfl⟩)
    all_goals (go_ret; exact ⟨ret_int (by rw [HS.out, hx]; rfl), Hb.out⟩)
  · cases hy : inB (c / r.wide - 1) 0 (r.tall - 1)
    · go_wp2_with (go_at_call 42; refine (in_any _ _ _ _).mono ?_; rintro e w' ⟨rfl, rfl⟩)
      all_goals (go_ret; exact ⟨ret_int (by rw [HS.out, hx, hy]; rfl), Hb.out⟩)
    · have hx' := inB_iff.1 hx
      have hy' := inB_iff.1 hy
      have hm := xy_lt (w := r.wide) (t := r.tall) (x := 0) (y := c / r.wide - 1) (by omega) (by omega) (by omega) (by omega)
      have hm1 : 0 ≤ (c / r.wide - 1) * r.wide := by omega
      have hm2 : (c / r.wide - 1) * r.wide ≤ 36 := by omega
      clear hm
      go_wp2_with (go_at_call 42; refine (in_any _ _ _ _).mono ?_; rintro e w' ⟨rfl, rfl⟩)
      all_goals (go_ret; exact ⟨ret_int (by rw [HS.out, hx, hy]; rfl), Hb.out⟩)

set_option maxHeartbeats 1000000 in
theorem step_other (v : Value) (r : Reg) (c way : Int) (w : World) (h : RegV w v r) (hv : r.valid = true) (h0 : 0 ≤ c) (hl : c < r.wide * r.tall) (ho : way < 1 ∨ 4 < way) :
    Calls Tryd.prog 56 #[v, .int .i64 c, .int .i64 way] w (Ret (.int .i64 (stepI r c way)) w) := by
  obtain ⟨b1, b2, b3, b4⟩ := Reg.valid_iff.1 hv
  have ha := area_in b1 b2
  obtain ⟨a, cap, rfl, hs, hlc, hcm⟩ := h.opened
  have Hs := Lib.hid hs
  rw [stepI_other ho]
  have e1 : (way == 1) = false := by simp; omega
  have e2 : (way == 2) = false := by simp; omega
  have e3 : (way == 3) = false := by simp; omega
  have e4 : (way == 4) = false := by simp; omega
  clear hs h b3 ho
  go_enter Tryd.func56, Tryd.ntmps56
  go_wp2_with (fail)
  refine (xy_any _ r c _ ?_ (by omega) (by omega)).mono ?_
  · refine RegV.below ⟨_, rfl, Hs.out⟩ ?_; go_grown
  rintro e w1 ⟨rfl, hb⟩
  have Hb := Lib.hid (show Below w.heap.size w w1 from Below.trans (by go_grown) (hb.mono (by simp)))
  clear hb
  go_wp2
  go_ret
  exact ⟨rfl, Hb.out⟩

theorem step_any (v : Value) (r : Reg) (c way : Int) (w : World) (h : RegV w v r) (hv : r.valid = true) (h0 : 0 ≤ c) (hl : c < r.wide * r.tall) :
    Calls Tryd.prog 56 #[v, .int .i64 c, .int .i64 way] w (Ret (.int .i64 (stepI r c way)) w) := by
  by_cases h1 : way = 1
  · subst h1; exact step_1 v r c w h hv h0 hl
  by_cases h2 : way = 2
  · subst h2; exact step_2 v r c w h hv h0 hl
  by_cases h3 : way = 3
  · subst h3; exact step_3 v r c w h hv h0 hl
  by_cases h4 : way = 4
  · subst h4; exact step_4 v r c w h hv h0 hl
  exact step_other v r c way w h hv h0 hl (by omega)

end Go.Proofs.YtklifibiadiinaaDoor
