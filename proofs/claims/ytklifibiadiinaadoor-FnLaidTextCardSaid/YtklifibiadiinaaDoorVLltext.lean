/- The law FnLaidText: its walk. -/
import Derived.Test.YtklifibiadiinaaDoorVWrlR
import Derived.Test.YtklifibiadiinaaDoorVWltxS
import Derived.Test.YtklifibiadiinaaDoorVDrawL
import Derived.Test.YtklifibiadiinaaDoorVLmeet
import Derived.Test.YtklifibiadiinaaDoorVSame
import Derived.Test.YtklifibiadiinaaDoorVWc
set_option linter.unusedVariables false
namespace Go.Proofs.YtklifibiadiinaaDoor
open Go.RowKit Domi

theorem bs_fullL {l : List UInt8} (h : l ≠ []) : (bs l).toList.isEmpty = false := by
  rw [ByteArray.toList_eq, bs_data]
  cases l with
  | nil => exact absurd rfl h
  | cons _ _ => rfl
set_option maxRecDepth 100000 in
set_option maxHeartbeats 4000000 in
theorem FnLaidText_walk (v : Value) (ys : List Int) (w : World) (h : Yl w v ys) (hr : ∀ i, i < ys.length → 0 ≤ ys.getD i 0 ∧ ys.getD i 0 ≤ 255) (m : Int) (hm : w.cell? ⟨0, 0, none⟩ = some (.int .i64 m)) (hw0 : 0 < w.heap.size) :
    Calls Tryd.prog 3 #[v] w (Ret (.bool true) w) := by
  have H := Lib.hid h
  have Hr := Lib.hid hr
  have HM := Lib.hid (And.intro hm hw0)
  obtain ⟨a0, cap0, rfl, hlc0, hcm0, _⟩ := h.opened
  clear h hr hm hw0
  by_cases hlen : (1048576 : Int) < (ys.length : Int)
  · go_enter Tryd.func3, Tryd.ntmps3
    go_wp2
    go_ret
    exact ⟨rfl, Below.refl _ _⟩
  go_enter Tryd.func3, Tryd.ntmps3
  go_wp2_with (fail)
  refine (DrawLaidText_any _ ys w H.out Hr.out).mono ?_
  rintro e w1 ⟨v1, u1, r, L, rfl, hv1, hu1, hsm, hl37, hb1⟩
  obtain ⟨a1, cap1, rfl, hs1, _, _⟩ := hv1.opened
  obtain ⟨ua, uc, rfl, hul, hum, _⟩ := hu1.opened
  have R := RB.new hs1
  have U := hu1.below (below_alloc w1 (.cells #[.int .i64 r.wide, .int .i64 r.tall, .slice a1 r.cells.length cap1] 25))
  obtain ⟨W, hW⟩ : ∃ W, W = w1.alloc (.cells #[.int .i64 r.wide, .int .i64 r.tall, .slice a1 r.cells.length cap1] 25) := ⟨_, rfl⟩
  rw [← hW] at R U
  have R := Lib.hid R
  have U := Lib.hid U
  have BW := Lib.hid (show Below w.heap.size w W by rw [hW]; exact hb1.alloc hb1.size _)
  have hX : w1.heap.size < W.heap.size := by rw [hW]; simp
  have HSM := Lib.hid hsm
  clear hs1 hb1 hv1 hu1 hsm H Hr
  go_wp2_with (fail)
  rw [← hW]
  clear hW
  generalize w1.heap.size = X at *
  clear hX
  obtain ⟨S, hT⟩ : ∃ S, bs (laidText r L) = S := ⟨_, rfl⟩
  have HT := Lib.hid hT
  obtain ⟨x0, x1, x2⟩ := R.out.c3
  go_wp2_with (fail)
  have C1 := LaidText_any _ _ r L _ R.out.v U.out
  rw [hT] at C1
  refine C1.mono ?_
  rintro e w2 ⟨rfl, hb⟩
  have BW := Lib.hid (BW.out.trans (hb.mono BW.out.size))
  have R := Lib.hid (R.out.on hb)
  have U := Lib.hid (U.out.below hb)
  clear hb x0 x1 x2 C1
  obtain ⟨x0, x1, x2⟩ := R.out.c3
  have C2 := sLaidText_any _ _ r L _ R.out.v U.out (by have := HSM.out; unfold RegSmall at this; omega) (by have := HSM.out; unfold RegSmall at this; omega)
  rw [hT] at C2
  have C2 := Lib.hid C2
  clear hT
  go_wp2_with (fail)
  refine C2.out.mono ?_
  rintro e w3 ⟨rfl, hb⟩
  have BW := Lib.hid (BW.out.trans (hb.mono BW.out.size))
  have R := Lib.hid (R.out.on hb)
  have U := Lib.hid (U.out.below hb)
  clear hb x0 x1 x2 C2
  obtain ⟨x0, x1, x2⟩ := R.out.c3
  cases hv : laidOk r L
  · have hTT : S = (⟨#[]⟩ : ByteArray) := by rw [← HT.out, laidText_no hv]; rfl
    subst hTT
    have HV := Lib.hid hv
    clear hv HT
    go_wp2_with (fail)
    refine (LaidOk_is _ _ r L _ R.out.v U.out false HV.out).mono ?_
    rintro e w4 ⟨rfl, hb⟩
    have BW := Lib.hid (BW.out.trans (hb.mono BW.out.size))
    clear hb x0 x1 x2
    go_wp2_with (fail)
    refine (alive_any _).mono ?_
    rintro e w5 ⟨rfl, hb⟩
    have BW := Lib.hid (BW.out.trans (hb.mono BW.out.size))
    clear hb
    go_wp2
    go_ret
    exact ⟨rfl, BW.out⟩
  · have hne : S.toList.isEmpty = false := by
      rw [← HT.out]
      exact bs_fullL (fit_nonempty (goodU_iff.1 (text_goodL hv).1).1)
    have HRD := Lib.hid (show readL S.data.toList = (r, L, true) by rw [← HT.out, bs_data]; exact read_laid hv)
    have hT42 : S.size ≤ 42 := by rw [← HT.out, bs_size]; exact laidText_len r L
    have C3 := ReadLaid_any S w3 (by omega) m (by rw [BW.out.cell HM.out.2]; exact HM.out.1) (Nat.lt_of_lt_of_le HM.out.2 BW.out.size)
    rw [HRD.out] at C3
    have C3 := Lib.hid C3
    clear hv HT
    go_wp2_with (fail)
    refine C3.out.mono ?_
    rintro e w4 ⟨v4, u4, rfl, hv4, hu4, hb⟩
    have BW := Lib.hid (BW.out.trans (hb.mono BW.out.size))
    have R := Lib.hid (R.out.on hb)
    have U := Lib.hid (U.out.below hb)
    obtain ⟨a4, cap4, rfl, hs4, _, _⟩ := hv4.opened
    obtain ⟨ua4, uc4, rfl, hul4, hum4, _⟩ := hu4.opened
    have R4 := RB.new hs4
    have U4 := hu4.below (below_alloc w4 (.cells #[.int .i64 r.wide, .int .i64 r.tall, .slice a4 r.cells.length cap4] 25))
    obtain ⟨W4, hW4⟩ : ∃ W4, W4 = w4.alloc (.cells #[.int .i64 r.wide, .int .i64 r.tall, .slice a4 r.cells.length cap4] 25) := ⟨_, rfl⟩
    rw [← hW4] at R4 U4
    have R4 := Lib.hid R4
    have U4 := Lib.hid U4
    have B4 := Lib.hid (show Below w4.heap.size w4 W4 by rw [hW4]; exact below_alloc _ _)
    have R := Lib.hid (R.out.on B4.out)
    have U := Lib.hid (U.out.below B4.out)
    have BW := Lib.hid (BW.out.trans (B4.out.mono BW.out.size))
    clear hb hv4 hu4 hs4 x0 x1 x2 C3 B4
    go_upto_region 10 with (fail)
    rw [← hW4]
    clear hW4
    generalize w4.heap.size = X4 at *
    obtain ⟨x0, x1, x2⟩ := R.out.c3
    obtain ⟨y0, y1, y2⟩ := R4.out.c3
    go_wp2_with (fail)
    refine (sameRegion_is _ _ r r true _ R4.out.v R.out.v (by simp)).mono ?_
    rintro e w5 ⟨rfl, hb⟩
    have BW := Lib.hid (BW.out.trans (hb.mono BW.out.size))
    have U := Lib.hid (U.out.below hb)
    have U4 := Lib.hid (U4.out.below hb)
    clear hb x0 x1 x2 y0 y1 y2
    go_wp2_with (fail)
    refine (sameInts_is _ _ L L _ U4.out U.out true (by simp)).mono ?_
    rintro e w6 ⟨rfl, hb⟩
    have BW := Lib.hid (BW.out.trans (hb.mono BW.out.size))
    clear hb
    go_wp2
    go_ret
    exact ⟨rfl, BW.out⟩
end Go.Proofs.YtklifibiadiinaaDoor
