/- The law FnBalanced: its walk. -/
import Derived.Test.YtedccoimdkehgaaWe
import Derived.Test.YtedccoimdkehgaaWg
import Derived.Test.YtedccoimdkehgaaDrawD
namespace Go.Proofs.Ytedccoimdkehgaa
open Go.RowKit Domi

theorem even_of {r : Reg} (h : r.bal = true) : r.many.tmod 2 = 0 ∧ 0 ≤ r.many ∧ r.many ≤ 72 := by
  have e := bal_even h
  have hv : r.valid = true := by
    cases hv : r.valid
    · rw [bal_no hv] at h; cases h
    · rfl
  obtain ⟨h1, h2, h3, h4⟩ := Reg.valid_iff.1 hv
  have := area_in h1 h2
  have hd := r.darkTo_le r.cells.length
  refine ⟨by rw [e]; exact Int.mul_tmod_right 2 _, ?_, ?_⟩ <;> rw [e] <;> unfold Reg.darks <;> omega

theorem CellsMany_is (v : Value) (r : Reg) (w : World) (h : RegV w v r) (c : Int) (hc : r.many = c) :
    Calls Try.prog 23 #[v] w (Ret (.int .i64 c) w) := by rw [← hc]; exact CellsMany_any v r w h

set_option maxRecDepth 100000 in
set_option maxHeartbeats 2000000 in
theorem FnBalanced_walk (v : Value) (ys : List Int) (w : World) (h : Yl w v ys) (hr : ∀ i, i < ys.length → 0 ≤ ys.getD i 0 ∧ ys.getD i 0 ≤ 255) :
    Calls Try.prog 8 #[v] w (Ret (.bool true) w) := by
  have H := Lib.hid h
  have Hr := Lib.hid hr
  obtain ⟨a0, cap0, rfl, hlc0, hcm0, _⟩ := h.opened
  clear h hr
  by_cases hlen : (1048576 : Int) < (ys.length : Int)
  · go_enter Try.func8, Try.ntmps8
    go_wp2
    go_ret
    exact ⟨rfl, Below.refl _ _⟩
  · go_enter Try.func8, Try.ntmps8
    go_wp2_with (fail)
    refine (DrawBalanced_any _ ys w H.out Hr.out).mono ?_
    rintro e w1 ⟨v1, r, rfl, hv1, hsm, hb1⟩
    obtain ⟨a1, cap1, rfl, hs1, _, _⟩ := hv1.opened
    have S1 := Lib.hid hs1
    have B1 := Lib.hid hb1
    clear hs1 hb1 hv1
    obtain ⟨c, hc⟩ : ∃ c, r.bal = c := ⟨_, rfl⟩
    have Ht := Lib.hid ((turnR_bal r).trans hc)
    have Hf := Lib.hid ((flipR_bal r).trans hc)
    have Hc := Lib.hid hc
    have He := Lib.hid (fun h : c = true => even_of (hc.trans h))
    clear hc
    go_wp2_with (fail)
    refine (Balanced_is _ r _ ?_ c Hc.out).mono ?_
    · exact ⟨_, rfl, S1.out.below (by go_grown)⟩
    rintro e w2 ⟨rfl, hb2⟩
    have hR : w2.heap[w1.heap.size]? = some (.cells #[.int .i64 r.wide, .int .i64 r.tall, .slice a1 r.cells.length cap1] 25 (0, 0)) := by
      rw [hb2.block _ (by simp)]; exact heap_alloc_new w1 _
    have HR := Lib.hid hR
    have B2 := Lib.hid (show Below w1.heap.size w1 w2 from Below.trans (by go_grown) (hb2.mono (by simp)))
    have S2 := Lib.hid (S1.out.below B2.out)
    obtain ⟨r0, r1, r2, _⟩ := three_cells hR
    have sW := lt_of_heap hR
    clear hb2 hR
    go_wp2_with (fail)
    refine (sBalanced_is _ r _ ?_ c Hc.out).mono ?_
    · exact ⟨_, rfl, S2.out⟩
    rintro e w3 ⟨rfl, hb3⟩
    have BY := hb3
    have BW := Lib.hid (B1.out.trans ((B2.out.trans (BY.mono B2.out.size)).mono B1.out.size))
    have S3 := Lib.hid (S2.out.below BY)
    have x0 := (cell_behind (o := 0) BY sW).trans r0
    have x1 := (cell_behind (o := 1) BY sW).trans r1
    have x2 := (cell_behind (o := 2) BY sW).trans r2
    have sX : w1.heap.size < w3.heap.size := Nat.lt_of_lt_of_le sW BY.size
    clear BY hb3 r0 r1 r2 sW
    have c1 := Hc.out
    cases c
    · clear He
      go_wp2_with (fail)
      refine (RegionTurn_any _ r _ ⟨_, rfl, S3.out⟩).mono ?_
      rintro e K1 ⟨v, rfl, hv, hb⟩
      obtain ⟨a1', cap1', rfl, hs, _, _⟩ := hv.opened
      have V1 := Lib.hid hs
      clear hs hv
      have BK1 := Lib.hid (show Below w3.heap.size w3 K1 from hb)
      have y0 := (cell_behind (o := 0) BK1.out sX).trans x0
      have y1 := (cell_behind (o := 1) BK1.out sX).trans x1
      have y2 := (cell_behind (o := 2) BK1.out sX).trans x2
      clear hb
      go_wp2_with (fail)
      clear y0 y1 y2
      refine (Balanced_is _ r.turnR _ ⟨_, rfl, V1.out⟩ _ Ht.out).mono ?_
      rintro e K2 ⟨rfl, hb⟩
      have BK2 := Lib.hid (show Below w3.heap.size w3 K2 from BK1.out.trans (hb.mono BK1.out.size))
      have y0 := (cell_behind (o := 0) BK2.out sX).trans x0
      have y1 := (cell_behind (o := 1) BK2.out sX).trans x1
      have y2 := (cell_behind (o := 2) BK2.out sX).trans x2
      clear hb
      go_wp2_with (fail)
      clear y0 y1 y2
      refine (RegionFlip_any _ r _ ⟨_, rfl, S3.out.below BK2.out⟩).mono ?_
      rintro e K3 ⟨v, rfl, hv, hb⟩
      obtain ⟨a3', cap3', rfl, hs, _, _⟩ := hv.opened
      have V3 := Lib.hid hs
      clear hs hv
      have BK3 := Lib.hid (show Below w3.heap.size w3 K3 from BK2.out.trans (hb.mono BK2.out.size))
      have y0 := (cell_behind (o := 0) BK3.out sX).trans x0
      have y1 := (cell_behind (o := 1) BK3.out sX).trans x1
      have y2 := (cell_behind (o := 2) BK3.out sX).trans x2
      clear hb
      go_wp2_with (fail)
      clear y0 y1 y2
      refine (Balanced_is _ r.flipR _ ⟨_, rfl, V3.out⟩ _ Hf.out).mono ?_
      rintro e K4 ⟨rfl, hb⟩
      have BK4 := Lib.hid (show Below w3.heap.size w3 K4 from BK3.out.trans (hb.mono BK3.out.size))
      have y0 := (cell_behind (o := 0) BK4.out sX).trans x0
      have y1 := (cell_behind (o := 1) BK4.out sX).trans x1
      have y2 := (cell_behind (o := 2) BK4.out sX).trans x2
      clear hb
      go_wp2_with (fail)
      clear y0 y1 y2
      refine (alive_any _).mono ?_
      rintro e K6 ⟨rfl, hb⟩
      have BK6 := Lib.hid (BK4.out.trans (hb.mono BK4.out.size))
      clear hb
      go_wp2
      go_ret
      exact ⟨rfl, BW.out.trans (BK6.out.mono BW.out.size)⟩
    · obtain ⟨e1, e2, e3⟩ := He.out rfl
      clear He
      go_wp2_with (fail)
      refine (RegionTurn_any _ r _ ⟨_, rfl, S3.out⟩).mono ?_
      rintro e K1 ⟨v, rfl, hv, hb⟩
      obtain ⟨a1', cap1', rfl, hs, _, _⟩ := hv.opened
      have V1 := Lib.hid hs
      clear hs hv
      have BK1 := Lib.hid (show Below w3.heap.size w3 K1 from hb)
      have y0 := (cell_behind (o := 0) BK1.out sX).trans x0
      have y1 := (cell_behind (o := 1) BK1.out sX).trans x1
      have y2 := (cell_behind (o := 2) BK1.out sX).trans x2
      clear hb
      go_wp2_with (fail)
      clear y0 y1 y2
      refine (Balanced_is _ r.turnR _ ⟨_, rfl, V1.out⟩ _ Ht.out).mono ?_
      rintro e K2 ⟨rfl, hb⟩
      have BK2 := Lib.hid (show Below w3.heap.size w3 K2 from BK1.out.trans (hb.mono BK1.out.size))
      have y0 := (cell_behind (o := 0) BK2.out sX).trans x0
      have y1 := (cell_behind (o := 1) BK2.out sX).trans x1
      have y2 := (cell_behind (o := 2) BK2.out sX).trans x2
      clear hb
      go_wp2_with (fail)
      clear y0 y1 y2
      refine (RegionFlip_any _ r _ ⟨_, rfl, S3.out.below BK2.out⟩).mono ?_
      rintro e K3 ⟨v, rfl, hv, hb⟩
      obtain ⟨a3', cap3', rfl, hs, _, _⟩ := hv.opened
      have V3 := Lib.hid hs
      clear hs hv
      have BK3 := Lib.hid (show Below w3.heap.size w3 K3 from BK2.out.trans (hb.mono BK2.out.size))
      have y0 := (cell_behind (o := 0) BK3.out sX).trans x0
      have y1 := (cell_behind (o := 1) BK3.out sX).trans x1
      have y2 := (cell_behind (o := 2) BK3.out sX).trans x2
      clear hb
      go_wp2_with (fail)
      clear y0 y1 y2
      refine (Balanced_is _ r.flipR _ ⟨_, rfl, V3.out⟩ _ Hf.out).mono ?_
      rintro e K4 ⟨rfl, hb⟩
      have BK4 := Lib.hid (show Below w3.heap.size w3 K4 from BK3.out.trans (hb.mono BK3.out.size))
      have y0 := (cell_behind (o := 0) BK4.out sX).trans x0
      have y1 := (cell_behind (o := 1) BK4.out sX).trans x1
      have y2 := (cell_behind (o := 2) BK4.out sX).trans x2
      clear hb
      go_wp2_with (fail)
      clear y0 y1 y2
      refine (CellsMany_any _ r _ ⟨_, rfl, S3.out.below BK4.out⟩).mono ?_
      rintro e K5 ⟨rfl, hb⟩
      have BK5 := Lib.hid (show Below w3.heap.size w3 K5 from BK4.out.trans (hb.mono BK4.out.size))
      have y0 := (cell_behind (o := 0) BK5.out sX).trans x0
      have y1 := (cell_behind (o := 1) BK5.out sX).trans x1
      have y2 := (cell_behind (o := 2) BK5.out sX).trans x2
      clear hb
      go_wp2_with (fail)
      clear y0 y1 y2
      refine (alive_any _).mono ?_
      rintro e K6 ⟨rfl, hb⟩
      have BK6 := Lib.hid (BK5.out.trans (hb.mono BK5.out.size))
      clear hb
      go_wp2
      go_ret
      exact ⟨rfl, BW.out.trans (BK6.out.mono BW.out.size)⟩

end Go.Proofs.Ytedccoimdkehgaa
