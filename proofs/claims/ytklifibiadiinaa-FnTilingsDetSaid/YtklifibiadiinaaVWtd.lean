/- Walks: TilingsDet on both sides. -/
import Derived.Test.YtklifibiadiinaaZe
import Derived.Test.YtklifibiadiinaaVWdetS
import Derived.Test.YtklifibiadiinaaVWsgnS
set_option linter.unusedVariables false
namespace Go.Proofs.Ytklifibiadiinaa
open Go.RowKit Domi

set_option maxRecDepth 100000 in
set_option maxHeartbeats 1000000 in
theorem TilingsDet_is (v : Value) (r : Reg) (w : World) (h : RegV w v r) (x : Int) (hx : tdR r = x) : Calls Try.prog 27 #[v] w (Ret (.int .i64 x) w) := by
  obtain ⟨ra, rc, rfl, hs, hlc, hcm⟩ := h.opened
  have R := Lib.hid (RB.new hs)
  have B0 := Lib.hid (below_alloc w (.cells #[.int .i64 r.wide, .int .i64 r.tall, .slice ra r.cells.length rc] 28))
  have HX := Lib.hid hx
  clear h hs hx
  go_enter Try.func27, Try.ntmps27
  go_wp2_with (fail)
  cases hv : r.valid
  · refine (RegionValid_is _ r _ R.out.v false hv).mono ?_
    rintro e w1 ⟨rfl, hb⟩
    have B1 := Lib.hid (B0.out.trans (hb.mono B0.out.size))
    have HR : Hid ((-1 : Int) = x) := Lib.hid (by rw [← HX.out, tdR_no hv])
    clear hb hv
    go_wp2_with (fail)
    go_ret
    exact ⟨ret_int HR.out, B1.out⟩
  refine (RegionValid_is _ r _ R.out.v true hv).mono ?_
  rintro e w1 ⟨rfl, hb⟩
  have B1 := Lib.hid (B0.out.trans (hb.mono B0.out.size))
  have R1 := Lib.hid (R.out.on hb)
  have HV := Lib.hid hv
  clear hb hv R B0
  obtain ⟨x0, x1, x2⟩ := R1.out.c3
  go_wp2_with (fail)
  cases hb0 : r.bal
  · refine (Balanced_is _ r _ R1.out.v false hb0).mono ?_
    rintro e w2 ⟨rfl, hb⟩
    have B2 := Lib.hid (B1.out.trans (hb.mono B1.out.size))
    have HR : Hid ((0 : Int) = x) := Lib.hid (by rw [← HX.out, tdR_un HV.out hb0])
    clear hb hb0 x0 x1 x2
    go_wp2_with (fail)
    go_ret
    exact ⟨ret_int HR.out, B2.out⟩
  refine (Balanced_is _ r _ R1.out.v true hb0).mono ?_
  rintro e w2 ⟨rfl, hb⟩
  have B2 := Lib.hid (B1.out.trans (hb.mono B1.out.size))
  have R2 := Lib.hid (R1.out.on hb)
  have HB := Lib.hid hb0
  clear hb hb0 R1 x0 x1 x2
  obtain ⟨x0, x1, x2⟩ := R2.out.c3
  go_wp2_with (fail)
  refine (signs_mx _ r _ R2.out.v HV.out).mono ?_
  rintro e w3 ⟨u, vs, rfl, hm⟩
  have B3 := Lib.hid (B2.out.trans (hm.bel.mono B2.out.size))
  have M := Lib.hid hm.ll
  clear hm x0 x1 x2
  obtain ⟨d, hd⟩ : ∃ d, detM (signR r) = d := ⟨_, rfl⟩
  have HD := Lib.hid hd
  have HSQ := Lib.hid (signR_sq HB.out)
  have h12 := (lens_bal HB.out).2.2
  clear hd
  go_wp2_with (fail)
  refine (det_any _ (signR r) _ _ M.out HSQ.out (by omega) d HD.out).mono ?_
  rintro e w4 ⟨rfl, hb⟩
  have B4 := Lib.hid (B3.out.trans (hb.mono B3.out.size))
  have HT : Hid (maxI d (wrap64 (-d)) = x) := Lib.hid (by rw [← HX.out, tdR_yes HB.out, HD.out])
  clear hb
  by_cases hlt : d < wrap64 (-d)
  · have HR : Hid (wrap64 (-d) = x) := Lib.hid (by rw [← HT.out, maxI_lt hlt])
    go_wp2_with (fail)
    go_ret
    exact ⟨ret_int HR.out, B4.out⟩
  · have HR : Hid (d = x) := Lib.hid (by rw [← HT.out, maxI_ge hlt])
    go_wp2_with (fail)
    go_ret
    exact ⟨ret_int HR.out, B4.out⟩
theorem sSign_ll (v : Value) (r : Reg) (w : World) (h : RegV w v r) : Calls Try.prog 11 #[v] w fun e w' => ∃ u, e = .returned u ∧ Ll w' u (signM r) ∧ Below w.heap.size w w' :=
  (sSignMatrix_mx v r w h).mono fun _ _ ⟨u, _, he, hm⟩ => ⟨u, he, hm.ll, hm.bel⟩
set_option maxRecDepth 100000 in
set_option maxHeartbeats 4000000 in
theorem sTilingsDet_is (v : Value) (r : Reg) (w : World) (h : RegV w v r) (x : Int) (hx : tdR r = x) : Calls Try.prog 26 #[v] w (Ret (.int .i64 x) w) := by
  obtain ⟨ra, rc, rfl, hs, hlc, hcm⟩ := h.opened
  have R := RB.new hs
  have B0 := below_alloc w (.cells #[.int .i64 r.wide, .int .i64 r.tall, .slice ra r.cells.length rc] 28)
  have HX := Lib.hid hx
  obtain ⟨W, hW⟩ : ∃ W, W = w.alloc (.cells #[.int .i64 r.wide, .int .i64 r.tall, .slice ra r.cells.length rc] 28) := ⟨_, rfl⟩
  rw [← hW] at R B0
  have R := Lib.hid R
  have B0 := Lib.hid B0
  clear h hs hx
  go_enter Try.func26, Try.ntmps26
  go_wp2_with (fail)
  rw [← hW]
  clear hW
  cases hv : r.valid
  · refine (sRegionValid_is _ r _ R.out.v false hv).mono ?_
    rintro e w1 ⟨rfl, hb⟩
    have B1 := Lib.hid (B0.out.trans (hb.mono B0.out.size))
    have HR : Hid ((-1 : Int) = x) := Lib.hid (by rw [← HX.out, tdR_no hv])
    clear hb hv
    go_wp2_with (fail)
    go_ret
    exact ⟨ret_int HR.out, B1.out⟩
  refine (sRegionValid_is _ r _ R.out.v true hv).mono ?_
  rintro e w1 ⟨rfl, hb⟩
  have B1 := Lib.hid (B0.out.trans (hb.mono B0.out.size))
  have R1 := Lib.hid (R.out.on hb)
  have HV := Lib.hid hv
  clear hb hv R B0
  obtain ⟨x0, x1, x2⟩ := R1.out.c3
  go_wp2_with (fail)
  cases hb0 : r.bal
  · refine (sBalanced_is _ r _ R1.out.v false hb0).mono ?_
    rintro e w2 ⟨rfl, hb⟩
    have B2 := Lib.hid (B1.out.trans (hb.mono B1.out.size))
    have HR : Hid ((0 : Int) = x) := Lib.hid (by rw [← HX.out, tdR_un HV.out hb0])
    clear hb hb0 x0 x1 x2
    go_wp2_with (fail)
    go_ret
    exact ⟨ret_int HR.out, B2.out⟩
  refine (sBalanced_is _ r _ R1.out.v true hb0).mono ?_
  rintro e w2 ⟨rfl, hb⟩
  have B2 := Lib.hid (B1.out.trans (hb.mono B1.out.size))
  have R2 := Lib.hid (R1.out.on hb)
  have HB := Lib.hid hb0
  clear hb hb0 R1 x0 x1 x2
  obtain ⟨x0, x1, x2⟩ := R2.out.c3
  have sX := R2.out.lt
  obtain ⟨d, hd⟩ : ∃ d, detM (signR r) = d := ⟨_, rfl⟩
  have HD : Hid (detR (signM r) = d) := Lib.hid (by rw [signM_yes HB.out, detR_yes (signR_mat HB.out)]; exact hd)
  have HT : Hid (maxI d (wrap64 (-d)) = x) := Lib.hid (by rw [← HX.out, tdR_yes HB.out, hd])
  obtain ⟨nd, hnd⟩ : ∃ nd, IntKind.i64.wrap (-d) = nd := ⟨_, rfl⟩
  have hnd' : wrap64 (-d) = nd := (IntWalk.i64_left (-d)).symm.trans hnd
  rw [hnd'] at HT
  clear hd
  go_wp2_with (fail)
  by_cases hlt : d < nd
  case' pos => have HR : Hid (nd = x) := Lib.hid (by rw [← HT.out, maxI_lt hlt])
  case' neg => have HR : Hid (d = x) := Lib.hid (by rw [← HT.out, maxI_ge hlt])
  all_goals
    go_region_held3 (fun w' => w'.cell? ⟨w.heap.size, 0, none⟩ = some (.int .i64 r.wide) ∧ w'.cell? ⟨w.heap.size, 1, none⟩ = some (.int .i64 r.tall) ∧ w'.cell? ⟨w.heap.size, 2, none⟩ = some (.slice ra r.cells.length rc))
      (first | go_keep | assumption | exact ⟨(cell_behind B7 sX).trans x0, (cell_behind B7 sX).trans x1, (cell_behind B7 sX).trans x2⟩ | exact ⟨(cell_behind B6 sX).trans x0, (cell_behind B6 sX).trans x1, (cell_behind B6 sX).trans x2⟩ | exact ⟨(cell_behind B5 sX).trans x0, (cell_behind B5 sX).trans x1, (cell_behind B5 sX).trans x2⟩ | exact ⟨(cell_behind B4 sX).trans x0, (cell_behind B4 sX).trans x1, (cell_behind B4 sX).trans x2⟩)
      ((first
        | (go_at_call 30; refine (sDet_any _ (signM r) _ L6.out d HD.out).mono ?_; rintro e w7 ⟨rfl, hb7⟩; (have B7 : Below w2.heap.size w2 w7 := B6.trans (hb7.mono B6.size)); clear hb7)
        | (go_at_call 11; refine (sSign_ll _ r _ (R2.out.on B5).v).mono ?_; rintro e w6 ⟨u6, rfl, hl6, hb6⟩; (have B6 : Below w2.heap.size w2 w6 := B5.trans (hb6.mono B5.size)); (have L6 := Lib.hid hl6); clear hb6 hl6)
        | (go_at_call 30; refine (sDet_any _ (signM r) _ L4.out d HD.out).mono ?_; rintro e w5 ⟨rfl, hb5⟩; (have B5 : Below w2.heap.size w2 w5 := B4.trans (hb5.mono B4.size)); clear hb5)
        | (go_at_call 11; refine (sSign_ll _ r _ (R2.out.on ((Below.refl _ _).drew)).v).mono ?_; rintro e w4 ⟨u4, rfl, hl4, hb4⟩; (have B4 : Below w2.heap.size w2 w4 := (Below.refl _ _).drew.trans hb4); (have L4 := Lib.hid hl4); clear hb4 hl4)))
    all_goals
      have BE := Lib.hid (B2.out.trans (B7.mono B2.out.size))
      clear B4 B5 B6 B7 x0 x1 x2 sX
      go_wp2_with (fail)
      go_ret
      exact ⟨ret_int HR.out, BE.out⟩
end Go.Proofs.Ytklifibiadiinaa
