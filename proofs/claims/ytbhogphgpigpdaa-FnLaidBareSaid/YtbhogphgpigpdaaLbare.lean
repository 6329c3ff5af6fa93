/- The law FnLaidBare: its walk. -/
import Derived.Test.YtbhogphgpigpdaaDrawE
import Derived.Test.YtbhogphgpigpdaaWmany
import Derived.Test.YtbhogphgpigpdaaBareP
import Derived.Test.YtbhogphgpigpdaaSame
import Derived.Test.YtbhogphgpigpdaaLaw
namespace Go.Proofs.Ytbhogphgpigpdaa
open Go.RowKit Domi

set_option maxRecDepth 100000 in
set_option maxHeartbeats 2000000 in
theorem FnLaidBare_walk (v : Value) (ys : List Int) (w : World) (h : Yl w v ys) (hr : ∀ i, i < ys.length → 0 ≤ ys.getD i 0 ∧ ys.getD i 0 ≤ 255) :
    Calls Try.prog 5 #[v] w (Ret (.bool true) w) := by
  have H := Lib.hid h
  have Hr := Lib.hid hr
  obtain ⟨a0, cap0, rfl, hlc0, hcm0, _⟩ := h.opened
  clear h hr
  by_cases hlen : (1048576 : Int) < (ys.length : Int)
  · go_enter Try.func5, Try.ntmps5
    go_wp2
    go_ret
    exact ⟨rfl, Below.refl _ _⟩
  · go_enter Try.func5, Try.ntmps5
    go_wp2_with (fail)
    refine (DrawLaidBare_any _ ys w H.out Hr.out).mono ?_
    rintro e w1 ⟨v1, r, rfl, hv1, hsm, hb1⟩
    obtain ⟨a1, cap1, rfl, hs1, _, _⟩ := hv1.opened
    have R := RB.new hs1
    obtain ⟨W, hW⟩ : ∃ W, W = w1.alloc (.cells #[.int .i64 r.wide, .int .i64 r.tall, .slice a1 r.cells.length cap1] 29) := ⟨_, rfl⟩
    rw [← hW] at R
    have R := Lib.hid R
    have BW := Lib.hid (show Below w.heap.size w W by rw [hW]; exact hb1.alloc hb1.size _)
    have hX : w1.heap.size < W.heap.size := by rw [hW]; simp
    clear hs1 hb1 hv1
    go_wp2_with (fail)
    rw [← hW]
    clear hW
    generalize w1.heap.size = X at *
    refine (LaidBare_any _ r _ R.out.v).mono ?_
    rintro e w2 ⟨u, rfl, ho, hb⟩
    have U := Lib.hid ho.sl
    have R2 := Lib.hid (R.out.on hb)
    have B2 := Lib.hid (BW.out.trans (hb.mono BW.out.size))
    obtain ⟨ua, uc, rfl⟩ := ho.formM
    clear ho hb hX R BW
    obtain ⟨x0, x1, x2⟩ := R2.out.c3
    have sX := R2.out.lt
    go_wp2_with (fail)
    refine (sLaidBare_any _ r _ R2.out.v).mono ?_
    rintro e w3 ⟨u3, rfl, ho, hb⟩
    have U3 := Lib.hid ho.sl
    have R3 := Lib.hid (R2.out.on hb)
    have B3 := Lib.hid (B2.out.trans (hb.mono B2.out.size))
    have U2 := Lib.hid (Sl.below U.out hb)
    clear ho hb x0 x1 x2 sX
    go_wp2_with (fail)
    refine (sameInts_is _ _ (bareL r) (bareL r) _ U2.out U3.out true (by simp)).mono ?_
    rintro e w4 ⟨rfl, hb⟩
    have R4 := Lib.hid (R3.out.on hb)
    have B4 := Lib.hid (B3.out.trans (hb.mono B3.out.size))
    have U4 := Lib.hid (Sl.below U2.out hb)
    clear hb
    obtain ⟨x0, x1, x2⟩ := R4.out.c3
    have sX := R4.out.lt
    go_wp2_with (fail)
    cases hv : r.valid
    · refine (RegionValid_any _ r _ R4.out.v).mono ?_
      rw [hv]
      rintro e w5 ⟨rfl, hb⟩
      have B5 := Lib.hid (B4.out.trans (hb.mono B4.out.size))
      have hl0 : (bareL r).length = 0 := by rw [bareL_no hv]; rfl
      clear hb x0 x1 x2 sX
      go_wp2_with (fail)
      refine (alive_any _).mono ?_
      rintro e w6 ⟨rfl, hb⟩
      have B6 := Lib.hid (B5.out.trans (hb.mono B5.out.size))
      clear hb
      go_wp2
      go_ret
      exact ⟨rfl, B6.out⟩
    · refine (RegionValid_any _ r _ R4.out.v).mono ?_
      rw [hv]
      rintro e w5 ⟨rfl, hb⟩
      have R5 := Lib.hid (R4.out.on hb)
      have B5 := Lib.hid (B4.out.trans (hb.mono B4.out.size))
      have U5 := Lib.hid (Sl.below U4.out hb)
      clear hb x0 x1 x2 sX
      obtain ⟨x0, x1, x2⟩ := R5.out.c3
      have sX := R5.out.lt
      have hLc : ∀ (T : Later w5) (b o : Nat), b < w5.heap.size → T.x.cell? ⟨b, o, none⟩ = w5.cell? ⟨b, o, none⟩ := Later.cell
      have RT : Hid (∀ T : Later w5, RegV T.x (.agg #[.int .i64 r.wide, .int .i64 r.tall, .slice a1 r.cells.length cap1]) r) := Lib.hid fun T => (R5.out.on T.h).v
      have UT : Hid (∀ T : Later w5, Il T.x (.slice ua (bareL r).length uc) (bareL r)) := Lib.hid fun T => Sl.below U5.out T.h
      have lm := Lib.hid (bare_many hv)
      obtain ⟨c, hc⟩ : ∃ c, (r.many == 0) = c := ⟨_, rfl⟩
      have tm := Lib.hid ((bare_tiling hv).trans hc)
      obtain ⟨m, hm⟩ : ∃ m, r.many = m := ⟨_, rfl⟩
      rw [hm] at hc
      have HM := Lib.hid hm
      clear hm
      have HLM := fun (T : Later w5) => LaidMany_any _ _ r (bareL r) T.x (RT.out T) (UT.out T)
      rw [lm.out] at HLM
      have HTO := fun (T : Later w5) => TilingOk_any _ _ r (bareL r) T.x (RT.out T) (UT.out T)
      rw [tm.out] at HTO
      have HCM := fun (T : Later w5) => CellsMany_any _ r T.x (RT.out T)
      rw [HM.out] at HCM
      have HLM := Lib.hid HLM
      have HTO := Lib.hid HTO
      have HCM := Lib.hid HCM
      go_wp2_with (fail)
      refine wp_region_later_all (by kernel_rfl) (by kernel_rfl) ?_
      repeat (go_big_quiet_step (fail))
      go_big_quiet_step (with_reducible exact calls_later _ (HLM.out _))
      repeat (go_big_quiet_step (fail))
      go_big_quiet_step (with_reducible exact calls_later _ (HTO.out _))
      repeat (go_big_quiet_step (fail))
      go_big_quiet_step (with_reducible exact calls_later _ (HCM.out _))
      repeat (first | (go_big_quiet_step (fail)) | rw [hc])
      refine wpQuiet_nil ?_
      intro T
      have B6 := Lib.hid (B5.out.trans (T.h.mono B5.out.size))
      clear hLc x0 x1 x2 sX
      go_wp2
      go_ret
      exact ⟨by first | rfl | (cases c <;> rfl), B6.out⟩

end Go.Proofs.Ytbhogphgpigpdaa
