/- The law FnRegionFlip: its walk. -/
import Derived.Test.YtedccoimdkehgaaWe
import Derived.Test.YtedccoimdkehgaaDrawD
import Derived.Test.YtedccoimdkehgaaPure
namespace Go.Proofs.Ytedccoimdkehgaa
open Go.RowKit Domi

set_option maxRecDepth 100000 in
set_option maxHeartbeats 2000000 in
theorem FnRegionFlip_walk (v : Value) (ys : List Int) (w : World) (h : Yl w v ys) (hr : ∀ i, i < ys.length → 0 ≤ ys.getD i 0 ∧ ys.getD i 0 ≤ 255) :
    Calls Try.prog 5 #[v] w (Ret (.bool true) w) := by
  have H := Lib.hid h
  have Hr := Lib.hid hr
  obtain ⟨a0, cap0, rfl, hlc0, hcm0, _⟩ := h.opened
  clear h hr
  by_cases hlen : (1048576 : Int) < (ys.length : Int)
  · go_enter Try.func5, Try.ntmps5
    go_wp2
    go_ret
    exact ⟨rfl, Below.refl _ _⟩
  · go_enter Try.func5, Try.ntmps5
    go_wp2_with (fail)
    refine (DrawRegionFlip_any _ ys w H.out Hr.out).mono ?_
    rintro e w1 ⟨v1, r, rfl, hv1, hsm, hb1⟩
    obtain ⟨a1, cap1, rfl, hs1, _, _⟩ := hv1.opened
    have S1 := Lib.hid hs1
    have B1 := Lib.hid hb1
    clear hs1 hb1 hv1
    go_wp2_with (fail)
    refine (RegionFlip_any _ r _ ?_).mono ?_
    · exact ⟨_, rfl, S1.out.below (by go_grown)⟩
    rintro e w2 ⟨v2, rfl, hv2, hb2⟩
    obtain ⟨a2, cap2, rfl, hs2, _, _⟩ := hv2.opened
    have hR : w2.heap[w1.heap.size]? = some (.cells #[.int .i64 r.wide, .int .i64 r.tall, .slice a1 r.cells.length cap1] 25 (0, 0)) := by
      rw [hb2.block _ (by simp)]; exact heap_alloc_new w1 _
    have HR := Lib.hid hR
    have B2 := Lib.hid (show Below w1.heap.size w1 w2 from Below.trans (by go_grown) (hb2.mono (by simp)))
    have S2 := Lib.hid hs2
    have S1' := Lib.hid (S1.out.below B2.out)
    obtain ⟨r0, r1, r2, _⟩ := three_cells hR
    clear hb2 hs2 hv2 hR
    have s12 : w1.heap.size < w2.heap.size := by have := lt_of_heap HR.out; omega
    have hX := heap_alloc_new w2 (.cells #[.int .i64 r.flipR.wide, .int .i64 r.flipR.tall, .slice a2 r.flipR.cells.length cap2] 25)
    have BW : Below w2.heap.size w2 (w2.alloc (.cells #[.int .i64 r.flipR.wide, .int .i64 r.flipR.tall, .slice a2 r.flipR.cells.length cap2] 25)) := by go_grown
    have sW : (w2.alloc (.cells #[.int .i64 r.flipR.wide, .int .i64 r.flipR.tall, .slice a2 r.flipR.cells.length cap2] 25)).heap.size = w2.heap.size + 1 := by simp
    go_wp2_with (fail)
    generalize w2.alloc (.cells #[.int .i64 r.flipR.wide, .int .i64 r.flipR.tall, .slice a2 r.flipR.cells.length cap2] 25) = W at *
    have T1 := Lib.hid (S1'.out.below BW)
    have T2 := Lib.hid (S2.out.below BW)
    have s1W : w1.heap.size < W.heap.size := by omega
    have s2W : w2.heap.size < W.heap.size := by omega
    have HRW := Lib.hid (show W.heap[w1.heap.size]? = _ from (BW.block _ s12).trans HR.out)
    obtain ⟨r0, r1, r2, _⟩ := three_cells HRW.out
    obtain ⟨x0, x1, x2, _⟩ := three_cells hX
    have BW' := Lib.hid (show Below w.heap.size w W from (B1.out.trans (B2.out.mono B1.out.size)).trans (BW.mono (Nat.le_trans B1.out.size (Nat.le_of_lt s12))))
    have HXW := Lib.hid hX
    clear BW sW hX
    go_region_held3 (fun w' => w'.cell? ⟨w1.heap.size, 0, none⟩ = some (.int .i64 r.wide) ∧ w'.cell? ⟨w1.heap.size, 1, none⟩ = some (.int .i64 r.tall) ∧ w'.cell? ⟨w1.heap.size, 2, none⟩ = some (.slice a1 r.cells.length cap1) ∧ w'.cell? ⟨w2.heap.size, 0, none⟩ = some (.int .i64 r.flipR.wide) ∧ w'.cell? ⟨w2.heap.size, 1, none⟩ = some (.int .i64 r.flipR.tall) ∧ w'.cell? ⟨w2.heap.size, 2, none⟩ = some (.slice a2 r.flipR.cells.length cap2))
      (first | go_keep | assumption | exact ⟨(cell_behind BY s1W).trans r0, (cell_behind BY s1W).trans r1, (cell_behind BY s1W).trans r2, (cell_behind BY s2W).trans x0, (cell_behind BY s2W).trans x1, (cell_behind BY s2W).trans x2⟩ | exact ⟨(cell_behind BZ s1W).trans r0, (cell_behind BZ s1W).trans r1, (cell_behind BZ s1W).trans r2, (cell_behind BZ s2W).trans x0, (cell_behind BZ s2W).trans x1, (cell_behind BZ s2W).trans x2⟩)
      (first | (go_at_call 26; refine (sRegionFlip_any _ r _ ?_).mono ?_; exact ⟨_, rfl, T1.out.below (Below.refl _ _).drew⟩; rintro e w4 ⟨v4, rfl, hv4, hb4⟩; obtain ⟨a4, cap4, rfl, hs4, _, _⟩ := hv4.opened; (have BY : Below W.heap.size W w4 := (Below.refl _ _).drew.trans hb4); have S4 := Lib.hid hs4; clear hs4 hv4 hb4) | (go_at_call 18; refine (sameRegion_any _ _ r.flipR r.flipR _ ?_ ?_).mono ?_; exact ⟨_, rfl, T2.out.below BY⟩; exact ⟨_, rfl, S4.out⟩; rintro e w5 ⟨rfl, hb5⟩; (have BZ : Below W.heap.size W w5 := BY.trans (hb5.mono BY.size)); clear hb5))
    have T1' := Lib.hid (T1.out.below BZ)
    have T2' := Lib.hid (T2.out.below BZ)
    have HR5 := Lib.hid (show w5.heap[w1.heap.size]? = _ from (BZ.block _ s1W).trans HRW.out)
    have HX5 := Lib.hid (show w5.heap[w2.heap.size]? = _ from (BZ.block _ s2W).trans HXW.out)
    have BW5 := Lib.hid (BW'.out.trans (BZ.mono BW'.out.size))
    have s1W : w1.heap.size < w5.heap.size := Nat.lt_of_lt_of_le s1W BZ.size
    have s2W : w2.heap.size < w5.heap.size := Nat.lt_of_lt_of_le s2W BZ.size
    clear BY BZ r0 r1 r2 x0 x1 x2
    obtain ⟨r0, r1, r2, _⟩ := three_cells HR5.out
    obtain ⟨x0, x1, x2, _⟩ := three_cells HX5.out
    go_wp2_with (fail)
    refine (RegionValid_any _ r _ ?_).mono ?_
    · exact ⟨_, rfl, T1'.out⟩
    rintro e w6 ⟨rfl, hb6⟩
    have B6 := Lib.hid hb6
    have y0 := (cell_behind (o := 0) hb6 s2W).trans x0
    cases hv : r.valid
    · have hz : (r.flipR.wide == 0) = true := by rw [flipR_no hv]; rfl
      clear hb6 r0 r1 r2 x0 x1 x2
      go_wp2_with (fail)
      refine (alive_any _).mono ?_
      rintro e w7 ⟨rfl, hb7⟩
      have B7 := Lib.hid hb7
      clear hb7
      go_wp2
      go_ret
      exact ⟨rfl, (BW5.out.trans (B6.out.mono BW5.out.size)).trans (B7.out.mono (Nat.le_trans BW5.out.size B6.out.size))⟩
    · have z0 := (cell_behind (o := 0) hb6 s1W).trans r0
      have z1 := (cell_behind (o := 1) hb6 s1W).trans r1
      have z2 := (cell_behind (o := 2) hb6 s1W).trans r2
      have y1 := (cell_behind (o := 1) hb6 s2W).trans x1
      have y2 := (cell_behind (o := 2) hb6 s2W).trans x2
      have U1 := Lib.hid (T1'.out.below hb6)
      have U2 := Lib.hid (T2'.out.below hb6)
      have BW6 := Lib.hid (BW5.out.trans (hb6.mono BW5.out.size))
      have s1W : w1.heap.size < w6.heap.size := Nat.lt_of_lt_of_le s1W hb6.size
      have s2W : w2.heap.size < w6.heap.size := Nat.lt_of_lt_of_le s2W hb6.size
      have ff := Lib.hid (decide_eq_true (flip_flip hv))
      have tf := Lib.hid (decide_eq_true (turn_flip hv))
      clear hb6 r0 r1 r2 x0 x1 x2
      have r0 := z0
      have r1 := z1
      have r2 := z2
      have x0 := y0
      have x1 := y1
      have x2 := y2
      clear z0 z1 z2 y0 y1 y2
      go_wp2_with (fail)
      go_region_held3 (fun w' => w'.cell? ⟨w1.heap.size, 0, none⟩ = some (.int .i64 r.wide) ∧ w'.cell? ⟨w1.heap.size, 1, none⟩ = some (.int .i64 r.tall) ∧ w'.cell? ⟨w1.heap.size, 2, none⟩ = some (.slice a1 r.cells.length cap1) ∧ w'.cell? ⟨w2.heap.size, 0, none⟩ = some (.int .i64 r.flipR.wide) ∧ w'.cell? ⟨w2.heap.size, 1, none⟩ = some (.int .i64 r.flipR.tall) ∧ w'.cell? ⟨w2.heap.size, 2, none⟩ = some (.slice a2 r.flipR.cells.length cap2))
        (first | go_keep | assumption | exact ⟨(cell_behind BK10 s1W).trans r0, (cell_behind BK10 s1W).trans r1, (cell_behind BK10 s1W).trans r2, (cell_behind BK10 s2W).trans x0, (cell_behind BK10 s2W).trans x1, (cell_behind BK10 s2W).trans x2⟩ | exact ⟨(cell_behind BK9 s1W).trans r0, (cell_behind BK9 s1W).trans r1, (cell_behind BK9 s1W).trans r2, (cell_behind BK9 s2W).trans x0, (cell_behind BK9 s2W).trans x1, (cell_behind BK9 s2W).trans x2⟩ | exact ⟨(cell_behind BK8 s1W).trans r0, (cell_behind BK8 s1W).trans r1, (cell_behind BK8 s1W).trans r2, (cell_behind BK8 s2W).trans x0, (cell_behind BK8 s2W).trans x1, (cell_behind BK8 s2W).trans x2⟩ | exact ⟨(cell_behind BK7 s1W).trans r0, (cell_behind BK7 s1W).trans r1, (cell_behind BK7 s1W).trans r2, (cell_behind BK7 s2W).trans x0, (cell_behind BK7 s2W).trans x1, (cell_behind BK7 s2W).trans x2⟩ | exact ⟨(cell_behind BK6 s1W).trans r0, (cell_behind BK6 s1W).trans r1, (cell_behind BK6 s1W).trans r2, (cell_behind BK6 s2W).trans x0, (cell_behind BK6 s2W).trans x1, (cell_behind BK6 s2W).trans x2⟩ | exact ⟨(cell_behind BK5 s1W).trans r0, (cell_behind BK5 s1W).trans r1, (cell_behind BK5 s1W).trans r2, (cell_behind BK5 s2W).trans x0, (cell_behind BK5 s2W).trans x1, (cell_behind BK5 s2W).trans x2⟩ | exact ⟨(cell_behind BK4 s1W).trans r0, (cell_behind BK4 s1W).trans r1, (cell_behind BK4 s1W).trans r2, (cell_behind BK4 s2W).trans x0, (cell_behind BK4 s2W).trans x1, (cell_behind BK4 s2W).trans x2⟩)
        (first | (go_at_call 18; refine (sameRegion_any _ _ r.turnR.flipR.turnR.flipR r _ ?_ ?_).mono ?_; exact ⟨_, rfl, V9.out⟩; exact ⟨_, rfl, U1.out.below BK9⟩; rintro e w10 ⟨rfl, hb⟩; rw [tf.out]; (have BK10 : Below w6.heap.size w6 w10 := BK9.trans (hb.mono BK9.size)); clear hb) | (go_at_call 25; refine (RegionFlip_any _ r.turnR.flipR.turnR _ ?_).mono ?_; exact ⟨_, rfl, V8.out⟩; rintro e w9 ⟨v, rfl, hv, hb⟩; obtain ⟨a9, cap9, rfl, hs, _, _⟩ := hv.opened; (have V9 := Lib.hid hs); (have BK9 : Below w6.heap.size w6 w9 := BK8.trans (hb.mono BK8.size)); clear hb hs hv) | (go_at_call 28; refine (RegionTurn_any _ r.turnR.flipR _ ?_).mono ?_; exact ⟨_, rfl, V7.out⟩; rintro e w8 ⟨v, rfl, hv, hb⟩; obtain ⟨a8, cap8, rfl, hs, _, _⟩ := hv.opened; (have V8 := Lib.hid hs); (have BK8 : Below w6.heap.size w6 w8 := BK7.trans (hb.mono BK7.size)); clear hb hs hv) | (go_at_call 25; refine (RegionFlip_any _ r.turnR _ ?_).mono ?_; exact ⟨_, rfl, V6.out⟩; rintro e w7 ⟨v, rfl, hv, hb⟩; obtain ⟨a7, cap7, rfl, hs, _, _⟩ := hv.opened; (have V7 := Lib.hid hs); (have BK7 : Below w6.heap.size w6 w7 := BK6.trans (hb.mono BK6.size)); clear hb hs hv) | (go_at_call 28; refine (RegionTurn_any _ r _ ?_).mono ?_; exact ⟨_, rfl, U1.out.below BK5⟩; rintro e wa ⟨v, rfl, hv, hb⟩; obtain ⟨a6, cap6, rfl, hs, _, _⟩ := hv.opened; (have V6 := Lib.hid hs); (have BK6 : Below w6.heap.size w6 wa := BK5.trans (hb.mono BK5.size)); clear hb hs hv) | (go_at_call 18; refine (sameRegion_any _ _ r.flipR.flipR r _ ?_ ?_).mono ?_; exact ⟨_, rfl, V4.out⟩; exact ⟨_, rfl, U1.out.below BK4⟩; rintro e wb ⟨rfl, hb⟩; rw [ff.out]; (have BK5 : Below w6.heap.size w6 wb := BK4.trans (hb.mono BK4.size)); clear hb) | (go_at_call 25; refine (RegionFlip_any _ r.flipR _ ?_).mono ?_; exact ⟨_, rfl, U2.out.below (Below.refl _ _).drew⟩; rintro e wd ⟨v, rfl, hv, hb⟩; obtain ⟨a4', cap4', rfl, hs, _, _⟩ := hv.opened; (have V4 := Lib.hid hs); (have BK4 : Below w6.heap.size w6 wd := (Below.refl _ _).drew.trans hb); clear hb hs hv))
      go_wp2
      go_ret
      exact ⟨rfl, BW6.out.trans (BK10.mono BW6.out.size)⟩

end Go.Proofs.Ytedccoimdkehgaa
