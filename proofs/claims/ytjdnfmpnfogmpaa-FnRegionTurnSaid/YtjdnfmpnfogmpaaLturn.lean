/- The law FnRegionTurn: its walk. -/
import Derived.Test.YtjdnfmpnfogmpaaWe
import Derived.Test.YtjdnfmpnfogmpaaDrawD
import Derived.Test.YtjdnfmpnfogmpaaGrid
import Derived.Test.YtjdnfmpnfogmpaaWpm
import Derived.Test.YtjdnfmpnfogmpaaWholesB
namespace Go.Proofs.Ytjdnfmpnfogmpaa
open Go.RowKit Domi

set_option maxRecDepth 100000 in
set_option maxHeartbeats 2000000 in
theorem FnRegionTurn_walk (v : Value) (ys : List Int) (w : World) (h : Yl w v ys) (hr : ∀ i, i < ys.length → 0 ≤ ys.getD i 0 ∧ ys.getD i 0 ≤ 255) :
    Calls Try.prog 6 #[v] w (Ret (.bool true) w) := by
  have H := Lib.hid h
  have Hr := Lib.hid hr
  obtain ⟨a0, cap0, rfl, hlc0, hcm0, _⟩ := h.opened
  clear h hr
  by_cases hlen : (1048576 : Int) < (ys.length : Int)
  · go_enter Try.func6, Try.ntmps6
    go_wp2
    go_ret
    exact ⟨rfl, Below.refl _ _⟩
  · go_enter Try.func6, Try.ntmps6
    go_wp2_with (fail)
    refine (DrawRegionTurn_any _ ys w H.out Hr.out).mono ?_
    rintro e w1 ⟨v1, r, rfl, hv1, hsm, hb1⟩
    obtain ⟨a1, cap1, rfl, hs1, _, _⟩ := hv1.opened
    have S1 := Lib.hid hs1
    have B1 := Lib.hid hb1
    clear hs1 hb1 hv1
    go_wp2_with (fail)
    refine (RegionTurn_any _ r _ ?_).mono ?_
    · exact ⟨_, rfl, S1.out.below (by go_grown)⟩
    rintro e w2 ⟨v2, rfl, hv2, hb2⟩
    obtain ⟨a2, cap2, rfl, hs2, _, _⟩ := hv2.opened
    have hR : w2.heap[w1.heap.size]? = some (.cells #[.int .i64 r.wide, .int .i64 r.tall, .slice a1 r.cells.length cap1] 25 (0, 0)) := by
      rw [hb2.block _ (by simp)]; exact heap_alloc_new w1 _
    have HR := Lib.hid hR
    have B2 := Lib.hid (show Below w1.heap.size w1 w2 from Below.trans (by go_grown) (hb2.mono (by simp)))
    have S2 := Lib.hid hs2
    have S1' := Lib.hid (S1.out.below B2.out)
    obtain ⟨r0, r1, r2, _⟩ := three_cells hR
    clear hb2 hs2 hv2 hR
    have s12 : w1.heap.size < w2.heap.size := by have := lt_of_heap HR.out; omega
    have hX := heap_alloc_new w2 (.cells #[.int .i64 r.turnR.wide, .int .i64 r.turnR.tall, .slice a2 r.turnR.cells.length cap2] 25)
    have BW : Below w2.heap.size w2 (w2.alloc (.cells #[.int .i64 r.turnR.wide, .int .i64 r.turnR.tall, .slice a2 r.turnR.cells.length cap2] 25)) := by go_grown
    have sW : (w2.alloc (.cells #[.int .i64 r.turnR.wide, .int .i64 r.turnR.tall, .slice a2 r.turnR.cells.length cap2] 25)).heap.size = w2.heap.size + 1 := by simp
    go_wp2_with (fail)
    generalize w2.alloc (.cells #[.int .i64 r.turnR.wide, .int .i64 r.turnR.tall, .slice a2 r.turnR.cells.length cap2] 25) = W at *
    have T1 := Lib.hid (S1'.out.below BW)
    have T2 := Lib.hid (S2.out.below BW)
    have s1W : w1.heap.size < W.heap.size := by omega
    have s2W : w2.heap.size < W.heap.size := by omega
    have HRW := Lib.hid (show W.heap[w1.heap.size]? = _ from (BW.block _ s12).trans HR.out)
    obtain ⟨r0, r1, r2, _⟩ := three_cells HRW.out
    obtain ⟨x0, x1, x2, _⟩ := three_cells hX
    have BW' := Lib.hid (show Below w.heap.size w W from (B1.out.trans (B2.out.mono B1.out.size)).trans (BW.mono (Nat.le_trans B1.out.size (Nat.le_of_lt s12))))
    have HXW := Lib.hid hX
    clear BW sW hX
    go_region_held3 (fun w' => w'.cell? ⟨w1.heap.size, 0, none⟩ = some (.int .i64 r.wide) ∧ w'.cell? ⟨w1.heap.size, 1, none⟩ = some (.int .i64 r.tall) ∧ w'.cell? ⟨w1.heap.size, 2, none⟩ = some (.slice a1 r.cells.length cap1) ∧ w'.cell? ⟨w2.heap.size, 0, none⟩ = some (.int .i64 r.turnR.wide) ∧ w'.cell? ⟨w2.heap.size, 1, none⟩ = some (.int .i64 r.turnR.tall) ∧ w'.cell? ⟨w2.heap.size, 2, none⟩ = some (.slice a2 r.turnR.cells.length cap2))
      (first | go_keep | assumption | exact ⟨(cell_behind BY s1W).trans r0, (cell_behind BY s1W).trans r1, (cell_behind BY s1W).trans r2, (cell_behind BY s2W).trans x0, (cell_behind BY s2W).trans x1, (cell_behind BY s2W).trans x2⟩ | exact ⟨(cell_behind BZ s1W).trans r0, (cell_behind BZ s1W).trans r1, (cell_behind BZ s1W).trans r2, (cell_behind BZ s2W).trans x0, (cell_behind BZ s2W).trans x1, (cell_behind BZ s2W).trans x2⟩)
      (first | (go_at_call 29; refine (sRegionTurn_any _ r _ ?_).mono ?_; exact ⟨_, rfl, T1.out.below (Below.refl _ _).drew⟩; rintro e w4 ⟨v4, rfl, hv4, hb4⟩; obtain ⟨a4, cap4, rfl, hs4, _, _⟩ := hv4.opened; (have BY : Below W.heap.size W w4 := (Below.refl _ _).drew.trans hb4); have S4 := Lib.hid hs4; clear hs4 hv4 hb4) | (go_at_call 17; refine (sameRegion_any _ _ r.turnR r.turnR _ ?_ ?_).mono ?_; exact ⟨_, rfl, T2.out.below BY⟩; exact ⟨_, rfl, S4.out⟩; rintro e w5 ⟨rfl, hb5⟩; (have BZ : Below W.heap.size W w5 := BY.trans (hb5.mono BY.size)); clear hb5))
    have T1' := Lib.hid (T1.out.below BZ)
    have T2' := Lib.hid (T2.out.below BZ)
    have HR5 := Lib.hid (show w5.heap[w1.heap.size]? = _ from (BZ.block _ s1W).trans HRW.out)
    have HX5 := Lib.hid (show w5.heap[w2.heap.size]? = _ from (BZ.block _ s2W).trans HXW.out)
    have BW5 := Lib.hid (BW'.out.trans (BZ.mono BW'.out.size))
    have s1W : w1.heap.size < w5.heap.size := Nat.lt_of_lt_of_le s1W BZ.size
    have s2W : w2.heap.size < w5.heap.size := Nat.lt_of_lt_of_le s2W BZ.size
    clear BY BZ r0 r1 r2 x0 x1 x2
    obtain ⟨r0, r1, r2, _⟩ := three_cells HR5.out
    obtain ⟨x0, x1, x2, _⟩ := three_cells HX5.out
    go_wp2_with (fail)
    refine (RegionValid_any _ r _ ?_).mono ?_
    · exact ⟨_, rfl, T1'.out⟩
    rintro e w6 ⟨rfl, hb6⟩
    have B6 := Lib.hid hb6
    have y0 := (cell_behind (o := 0) hb6 s2W).trans x0
    have y2 := (cell_behind (o := 2) hb6 s2W).trans x2
    cases hv : r.valid
    · have hz : (r.turnR.wide == 0) = true := by rw [turnR_no hv]; rfl
      have hl : r.turnR.cells.length = 0 := by rw [turnR_no hv]; rfl
      clear hb6 r0 r1 r2 x0 x1 x2
      go_wp2_with (fail)
      refine (alive_any _).mono ?_
      rintro e w7 ⟨rfl, hb7⟩
      have B7 := Lib.hid hb7
      clear hb7
      go_wp2
      go_ret
      exact ⟨rfl, (BW5.out.trans (B6.out.mono BW5.out.size)).trans (B7.out.mono (Nat.le_trans BW5.out.size B6.out.size))⟩
    · have z0 := (cell_behind (o := 0) hb6 s1W).trans r0
      have z1 := (cell_behind (o := 1) hb6 s1W).trans r1
      have z2 := (cell_behind (o := 2) hb6 s1W).trans r2
      have y1 := (cell_behind (o := 1) hb6 s2W).trans x1
      have U1 := Lib.hid (T1'.out.below hb6)
      have U2 := Lib.hid (T2'.out.below hb6)
      have BW6 := Lib.hid (BW5.out.trans (hb6.mono BW5.out.size))
      have s1W : w1.heap.size < w6.heap.size := Nat.lt_of_lt_of_le s1W hb6.size
      have s2W : w2.heap.size < w6.heap.size := Nat.lt_of_lt_of_le s2W hb6.size
      have vx : r.turnR.valid = true := by rw [turnR_yes hv]; exact turn_valid hv
      have tf := Lib.hid (decide_eq_true (turn_four hv))
      have cm := Lib.hid (show r.turnR.many = r.many by rw [Reg.many_yes hv, Reg.many_yes vx, turnR_yes hv, turn_cnt hv])
      have pm := Lib.hid (show r.turnR.pmany = r.pmany by rw [turnR_yes hv]; exact turn_pmany hv)
      have hm := Lib.hid (show r.turnR.holesR = r.holesR by rw [holesR_yes hv, holesR_yes vx, turnR_yes hv]; exact turn_holes hv)
      clear vx
      clear hb6 r0 r1 r2 x0 x1 x2
      have r0 := z0
      have r1 := z1
      have r2 := z2
      have x0 := y0
      have x1 := y1
      have x2 := y2
      clear z0 z1 z2 y0 y1 y2
      go_wp2_with (fail)
      go_region_held3 (fun w' => w'.cell? ⟨w1.heap.size, 0, none⟩ = some (.int .i64 r.wide) ∧ w'.cell? ⟨w1.heap.size, 1, none⟩ = some (.int .i64 r.tall) ∧ w'.cell? ⟨w1.heap.size, 2, none⟩ = some (.slice a1 r.cells.length cap1) ∧ w'.cell? ⟨w2.heap.size, 0, none⟩ = some (.int .i64 r.turnR.wide) ∧ w'.cell? ⟨w2.heap.size, 1, none⟩ = some (.int .i64 r.turnR.tall) ∧ w'.cell? ⟨w2.heap.size, 2, none⟩ = some (.slice a2 r.turnR.cells.length cap2))
        (first | go_keep | assumption | exact ⟨(cell_behind BK10 s1W).trans r0, (cell_behind BK10 s1W).trans r1, (cell_behind BK10 s1W).trans r2, (cell_behind BK10 s2W).trans x0, (cell_behind BK10 s2W).trans x1, (cell_behind BK10 s2W).trans x2⟩ | exact ⟨(cell_behind BK9 s1W).trans r0, (cell_behind BK9 s1W).trans r1, (cell_behind BK9 s1W).trans r2, (cell_behind BK9 s2W).trans x0, (cell_behind BK9 s2W).trans x1, (cell_behind BK9 s2W).trans x2⟩ | exact ⟨(cell_behind BK8 s1W).trans r0, (cell_behind BK8 s1W).trans r1, (cell_behind BK8 s1W).trans r2, (cell_behind BK8 s2W).trans x0, (cell_behind BK8 s2W).trans x1, (cell_behind BK8 s2W).trans x2⟩ | exact ⟨(cell_behind BK7 s1W).trans r0, (cell_behind BK7 s1W).trans r1, (cell_behind BK7 s1W).trans r2, (cell_behind BK7 s2W).trans x0, (cell_behind BK7 s2W).trans x1, (cell_behind BK7 s2W).trans x2⟩ | exact ⟨(cell_behind BK6 s1W).trans r0, (cell_behind BK6 s1W).trans r1, (cell_behind BK6 s1W).trans r2, (cell_behind BK6 s2W).trans x0, (cell_behind BK6 s2W).trans x1, (cell_behind BK6 s2W).trans x2⟩ | exact ⟨(cell_behind BK5 s1W).trans r0, (cell_behind BK5 s1W).trans r1, (cell_behind BK5 s1W).trans r2, (cell_behind BK5 s2W).trans x0, (cell_behind BK5 s2W).trans x1, (cell_behind BK5 s2W).trans x2⟩ | exact ⟨(cell_behind BK4 s1W).trans r0, (cell_behind BK4 s1W).trans r1, (cell_behind BK4 s1W).trans r2, (cell_behind BK4 s2W).trans x0, (cell_behind BK4 s2W).trans x1, (cell_behind BK4 s2W).trans x2⟩ | exact ⟨(cell_behind BK3 s1W).trans r0, (cell_behind BK3 s1W).trans r1, (cell_behind BK3 s1W).trans r2, (cell_behind BK3 s2W).trans x0, (cell_behind BK3 s2W).trans x1, (cell_behind BK3 s2W).trans x2⟩ | exact ⟨(cell_behind BK2 s1W).trans r0, (cell_behind BK2 s1W).trans r1, (cell_behind BK2 s1W).trans r2, (cell_behind BK2 s2W).trans x0, (cell_behind BK2 s2W).trans x1, (cell_behind BK2 s2W).trans x2⟩ | exact ⟨(cell_behind BK1 s1W).trans r0, (cell_behind BK1 s1W).trans r1, (cell_behind BK1 s1W).trans r2, (cell_behind BK1 s2W).trans x0, (cell_behind BK1 s2W).trans x1, (cell_behind BK1 s2W).trans x2⟩)
        (first | (go_at_call 22; refine (HolesMany_any _ r _ ?_).mono ?_; exact ⟨_, rfl, U1.out.below BK9⟩; rintro e k10 ⟨rfl, hb⟩; (have BK10 : Below w6.heap.size w6 k10 := BK9.trans (hb.mono BK9.size)); clear hb) | (go_at_call 22; refine (HolesMany_any _ r.turnR _ ?_).mono ?_; exact ⟨_, rfl, U2.out.below BK8⟩; rintro e k9 ⟨rfl, hb⟩; rw [hm.out]; (have BK9 : Below w6.heap.size w6 k9 := BK8.trans (hb.mono BK8.size)); clear hb) | (go_at_call 23; refine (PartsMany_any _ r _ ?_).mono ?_; exact ⟨_, rfl, U1.out.below BK7⟩; rintro e k8 ⟨rfl, hb⟩; (have BK8 : Below w6.heap.size w6 k8 := BK7.trans (hb.mono BK7.size)); clear hb) | (go_at_call 23; refine (PartsMany_any _ r.turnR _ ?_).mono ?_; exact ⟨_, rfl, U2.out.below BK6⟩; rintro e k7 ⟨rfl, hb⟩; rw [pm.out]; (have BK7 : Below w6.heap.size w6 k7 := BK6.trans (hb.mono BK6.size)); clear hb) | (go_at_call 20; refine (CellsMany_any _ r _ ?_).mono ?_; exact ⟨_, rfl, U1.out.below BK5⟩; rintro e k6 ⟨rfl, hb⟩; (have BK6 : Below w6.heap.size w6 k6 := BK5.trans (hb.mono BK5.size)); clear hb) | (go_at_call 20; refine (CellsMany_any _ r.turnR _ ?_).mono ?_; exact ⟨_, rfl, U2.out.below BK4⟩; rintro e k5 ⟨rfl, hb⟩; rw [cm.out]; (have BK5 : Below w6.heap.size w6 k5 := BK4.trans (hb.mono BK4.size)); clear hb) | (go_at_call 17; refine (sameRegion_any _ _ r.turnR.turnR.turnR.turnR r _ ?_ ?_).mono ?_; exact ⟨_, rfl, V3.out⟩; exact ⟨_, rfl, U1.out.below BK3⟩; rintro e k4 ⟨rfl, hb⟩; rw [tf.out]; (have BK4 : Below w6.heap.size w6 k4 := BK3.trans (hb.mono BK3.size)); clear hb) | (go_at_call 28; refine (RegionTurn_any _ r.turnR.turnR.turnR _ ?_).mono ?_; exact ⟨_, rfl, V2.out⟩; rintro e k3 ⟨v, rfl, hv, hb⟩; obtain ⟨b3, d3, rfl, hs, _, _⟩ := hv.opened; (have V3 := Lib.hid hs); (have BK3 : Below w6.heap.size w6 k3 := BK2.trans (hb.mono BK2.size)); clear hb hs hv) | (go_at_call 28; refine (RegionTurn_any _ r.turnR.turnR _ ?_).mono ?_; exact ⟨_, rfl, V1.out⟩; rintro e k2 ⟨v, rfl, hv, hb⟩; obtain ⟨b2, d2, rfl, hs, _, _⟩ := hv.opened; (have V2 := Lib.hid hs); (have BK2 : Below w6.heap.size w6 k2 := BK1.trans (hb.mono BK1.size)); clear hb hs hv) | (go_at_call 28; refine (RegionTurn_any _ r.turnR _ ?_).mono ?_; exact ⟨_, rfl, U2.out.below (Below.refl _ _).drew⟩; rintro e k1 ⟨v, rfl, hv, hb⟩; obtain ⟨b1, d1, rfl, hs, _, _⟩ := hv.opened; (have V1 := Lib.hid hs); (have BK1 : Below w6.heap.size w6 k1 := (Below.refl _ _).drew.trans hb); clear hb hs hv))
      go_wp2
      go_ret
      exact ⟨rfl, BW6.out.trans (BK10.mono BW6.out.size)⟩

end Go.Proofs.Ytjdnfmpnfogmpaa
