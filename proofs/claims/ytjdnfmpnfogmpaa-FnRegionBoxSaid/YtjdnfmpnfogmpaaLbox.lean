/- The law FnRegionBox: its walk. -/
import Derived.Test.YtjdnfmpnfogmpaaWbox
import Derived.Test.YtjdnfmpnfogmpaaWbord
import Derived.Test.YtjdnfmpnfogmpaaDrawC
import Derived.Test.YtjdnfmpnfogmpaaLaw
import Derived.Test.YtjdnfmpnfogmpaaBoxP
import Derived.Test.YtjdnfmpnfogmpaaWpm
import Derived.Test.YtjdnfmpnfogmpaaWholesB
namespace Go.Proofs.Ytjdnfmpnfogmpaa
open Go.RowKit Domi

/-- Two drawn sides. -/
def DrawnXY (w : World) (e : Ending) (w' : World) : Prop := ∃ x y : Int, e = .returned (.tuple #[.int .i64 x, .int .i64 y]) ∧ (0 ≤ x ∧ x ≤ 7) ∧ (0 ≤ y ∧ y ≤ 7) ∧ Below w.heap.size w w'
set_option maxHeartbeats 400000 in
theorem DrawRegionBox_any (v : Value) (ys : List Int) (w : World) (h : Yl w v ys) (hr : ∀ i, i < ys.length → 0 ≤ ys.getD i 0 ∧ ys.getD i 0 ≤ 255) :
    Calls Try.prog 15 #[v] w (DrawnXY w) := by
  have H := Lib.hid h
  have Hr := Lib.hid hr
  clear h hr
  go_enter Try.func15, Try.ntmps15
  go_wp2_with (fail)
  refine (open_n v ys _ H.out Hr.out).mono ?_
  rintro e w1 ⟨b, sl, zs, rfl, hb1, hb2, hr1⟩
  have Hr1 := Lib.hid hr1
  have HB := Lib.hid hb2
  clear hb2 hr1
  go_wp2_with (fail)
  refine (pick_n b sl zs 0 8 _ Hr1.out (by omega)).mono ?_
  rintro e w2 ⟨k1, rfl, hk1, hg1, hd1⟩
  have Hr2 := Lib.hid hd1
  have HB2 := Lib.hid (HB.out.trans (below_grown hg1 HB.out.size (by simp; omega)))
  clear hg1 hd1
  go_wp2_with (fail)
  refine (pick_n b sl zs 1 8 _ Hr2.out (by omega)).mono ?_
  rintro e w3 ⟨k2, rfl, hk2, hg2, hd2⟩
  have HB3 := Lib.hid (HB2.out.trans (below_grown hg2 HB2.out.size (by simp; omega)))
  clear hg2 hd2
  go_wp2
  go_ret2
  exact ⟨k1, k2, rfl, by omega, by omega, HB3.out⟩
set_option maxRecDepth 100000 in
set_option maxHeartbeats 2000000 in
theorem FnRegionBox_walk (v : Value) (ys : List Int) (w : World) (h : Yl w v ys) (hr : ∀ i, i < ys.length → 0 ≤ ys.getD i 0 ∧ ys.getD i 0 ≤ 255) :
    Calls Try.prog 4 #[v] w (Ret (.bool true) w) := by
  have H := Lib.hid h
  have Hr := Lib.hid hr
  obtain ⟨a0, cap0, rfl, hlc0, hcm0, _⟩ := h.opened
  clear h hr
  by_cases hlen : (1048576 : Int) < (ys.length : Int)
  · go_enter Try.func4, Try.ntmps4
    go_wp2
    go_ret
    exact ⟨rfl, Below.refl _ _⟩
  · go_enter Try.func4, Try.ntmps4
    go_wp2_with (fail)
    refine (DrawRegionBox_any _ ys w H.out Hr.out).mono ?_
    rintro e w1 ⟨x, y, rfl, hx7, hy7, hb1⟩
    have B1 := Lib.hid hb1
    clear hb1
    obtain ⟨r, hr⟩ : ∃ r, boxReg x y = r := ⟨_, rfl⟩
    go_wp2_with (fail)
    refine (RegionBox_any x y _).mono ?_
    rw [hr]
    rintro e w2 ⟨v2, rfl, hv2, hb2⟩
    obtain ⟨a2, cap2, rfl, hs2, _, _⟩ := hv2.opened
    have HR := Lib.hid hr
    clear hr
    obtain ⟨W, hW⟩ : ∃ W, W = w2.alloc (.cells #[.int .i64 r.wide, .int .i64 r.tall, .slice a2 r.cells.length cap2] 25) := ⟨_, rfl⟩
    have R := RB.new hs2
    rw [← hW] at R
    have R := Lib.hid R
    have BW := Lib.hid (show Below w.heap.size w W by rw [hW]; exact ((B1.out.trans (hb2.mono B1.out.size)).alloc (Nat.le_trans B1.out.size hb2.size) _))
    clear hv2 hs2 hb2
    go_wp2_with (fail)
    rw [← hW]
    clear hW
    generalize w2.heap.size = X at *
    obtain ⟨x0, x1, x2⟩ := R.out.c3
    have sX := R.out.lt
    go_region_held3 (fun w' => w'.cell? ⟨X, 0, none⟩ = some (.int .i64 r.wide) ∧ w'.cell? ⟨X, 1, none⟩ = some (.int .i64 r.tall) ∧ w'.cell? ⟨X, 2, none⟩ = some (.slice a2 r.cells.length cap2))
      (first | with_reducible exact K5.out | with_reducible exact K4.out | (go_keep; done) | assumption)
      ((first
        | (go_at_call 17; refine (sameRegion_any _ _ r r _ (R4.out.v) (⟨_, rfl, S4.out⟩)).mono ?_; rintro e w5 ⟨rfl, hb5⟩; (have R5 := Lib.hid (R4.out.on hb5)); (have K5 := Lib.hid R5.out.c3); (have BW5 := Lib.hid (BW4.out.trans (hb5.mono BW4.out.size))); clear hb5)
        | (go_at_call 18; refine (sRegionBox_any x y _).mono ?_; rw [HR.out]; rintro e w4 h4; obtain ⟨v4, rfl, hv4, hb4⟩ := RetRO.reg h4; obtain ⟨a4, cap4, rfl, hs4, _, _⟩ := hv4.opened; (have S4 := Lib.hid hs4); (have hb4' : Below W.heap.size W w4 := (Below.refl _ _).drew.trans hb4); (have R4 := Lib.hid (R.out.on hb4')); (have K4 := Lib.hid R4.out.c3); (have BW4 := Lib.hid (BW.out.trans (hb4'.mono BW.out.size))); clear h4 hv4 hs4 hb4 hb4')))
    clear x0 x1 x2 sX
    obtain ⟨x0, x1, x2⟩ := R5.out.c3
    have sX := R5.out.lt
    cases hok : boxOk x y
    · have hw0 : r.wide = 0 := by rw [← HR.out, boxReg, hok]; rfl
      have hl0 : r.cells.length = 0 := by rw [← HR.out, boxReg, hok]; rfl
      go_wp2_with (fail)
      refine (alive_any _).mono ?_
      rintro e w6 ⟨rfl, hb6⟩
      have B6 := Lib.hid (BW5.out.trans (hb6.mono BW5.out.size))
      clear hb6
      go_wp2
      go_ret
      exact ⟨rfl, B6.out⟩
    · have hok' := hok
      simp only [boxOk, Bool.and_eq_true, decide_eq_true_eq, inB_iff] at hok'
      obtain ⟨⟨hx6, hy6⟩, h24⟩ := hok'
      have hful : r = Reg.full_ x y := by rw [← HR.out, boxReg, hok]; rfl
      have hv : r.valid = true := by rw [hful]; exact full_valid hx6 hy6 h24
      have cm := Lib.hid (show r.many = x * y by rw [hful]; exact full_many hx6 hy6 h24)
      have bm := Lib.hid (show bordTo r r.cells.length = 2 * (x + y) by have := full_bord hx6 hy6 h24; rw [← hful] at this; unfold Reg.bord at this; rw [if_pos hv] at this; exact this)
      have hm := Lib.hid (show r.holesR = 0 by rw [hful]; exact full_holes hx6 hy6 h24)
      have pm := Lib.hid (show r.pmany = 1 by rw [hful]; exact full_parts hx6 hy6 h24)
      have hwn : (r.wide == 0) = false := by rw [hful]; show (x == 0) = false; simp; omega
      have ha := area_in hx6 hy6
      clear hful
      go_wp2_with (fail)
      refine (RegionValid_any _ r _ R5.out.v).mono ?_
      rintro e w6 ⟨rfl, hb6⟩
      rw [hv]
      have R6 := Lib.hid (R5.out.on hb6)
      have B6 := Lib.hid (BW5.out.trans (hb6.mono BW5.out.size))
      clear hb6 x0 x1 x2
      obtain ⟨x0, x1, x2⟩ := R6.out.c3
      go_wp2_with (fail)
      refine (CellsMany_any _ r _ R6.out.v).mono ?_
      rintro e w7 ⟨rfl, hb7⟩
      rw [cm.out]
      have R7 := Lib.hid (R6.out.on hb7)
      have B7 := Lib.hid (B6.out.trans (hb7.mono B6.out.size))
      clear hb7 x0 x1 x2
      obtain ⟨x0, x1, x2⟩ := R7.out.c3
      go_wp2_with (fail)
      refine (Border_yes _ r _ R7.out.v hv).mono ?_
      rintro e w8 ⟨rfl, hb8⟩
      rw [bm.out]
      have R8 := Lib.hid (R7.out.on hb8)
      have B8 := Lib.hid (B7.out.trans (hb8.mono B7.out.size))
      clear hb8 x0 x1 x2
      obtain ⟨x0, x1, x2⟩ := R8.out.c3
      go_wp2_with (fail)
      refine (HolesMany_any _ r _ R8.out.v).mono ?_
      rintro e w9 ⟨rfl, hb9⟩
      rw [hm.out]
      have R9 := Lib.hid (R8.out.on hb9)
      have B9 := Lib.hid (B8.out.trans (hb9.mono B8.out.size))
      clear hb9 x0 x1 x2
      obtain ⟨x0, x1, x2⟩ := R9.out.c3
      go_wp2_with (fail)
      refine (PartsMany_any _ r _ R9.out.v).mono ?_
      rintro e w10 ⟨rfl, hb10⟩
      rw [pm.out]
      have B10 := Lib.hid (B9.out.trans (hb10.mono B9.out.size))
      clear hb10 x0 x1 x2
      go_wp2
      go_ret
      exact ⟨rfl, B10.out⟩

end Go.Proofs.Ytjdnfmpnfogmpaa
