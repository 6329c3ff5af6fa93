/- The law FnExactHeightsHigh: its walk. -/
import Derived.Test.YtdggcfpkbmdllaaVWhokH
import Derived.Test.YtdggcfpkbmdllaaVWexl
set_option linter.unusedVariables false
namespace Go.Proofs.Ytdggcfpkbmdllaa
open Go.RowKit Domi

set_option maxRecDepth 100000 in
set_option maxHeartbeats 4000000 in
theorem FnExactHeightsHigh_walk (v u : Value) (r : Reg) (L : List Int) (t : Value) (D : List Int) (w : World) (h : RegV w v r) (hu : Il w u L) (ht : Il w t D) (hD : ∀ k, k < D.length → -9223372036854775808 ≤ D.getD k 0 ∧ D.getD k 0 ≤ 9223372036854775807) :
    Calls Try.prog 9 #[v, u, t] w (Ret (.bool true) w) := by
  obtain ⟨a0, cap0, rfl, hs, hlc, hcm⟩ := h.opened
  have R := RL.new hs
  have BW := below_alloc w (.cells #[.int .i64 r.wide, .int .i64 r.tall, .slice a0 r.cells.length cap0] 24)
  obtain ⟨ua, uc, rfl, hul, hum, _⟩ := hu.opened
  have U := hu.below (below_alloc w (.cells #[.int .i64 r.wide, .int .i64 r.tall, .slice a0 r.cells.length cap0] 24))
  obtain ⟨da, dc, rfl, hdl, hdm, _⟩ := ht.opened
  have D1 := ht.below (below_alloc w (.cells #[.int .i64 r.wide, .int .i64 r.tall, .slice a0 r.cells.length cap0] 24))
  have HD := Lib.hid hD
  obtain ⟨W, hW⟩ : ∃ W, W = w.alloc (.cells #[.int .i64 r.wide, .int .i64 r.tall, .slice a0 r.cells.length cap0] 24) := ⟨_, rfl⟩
  rw [← hW] at R BW U D1
  have R := Lib.hid R
  have BW := Lib.hid BW
  have U := Lib.hid U
  have D1 := Lib.hid D1
  clear h hs hu ht hD
  by_cases hlen : (1048576 : Int) < (L.length : Int)
  · go_enter Try.func9, Try.ntmps9
    go_wp2
    go_ret
    rw [hW] at BW
    exact ⟨rfl, BW.out⟩
  have hlen' : L.length ≤ 1048576 := by omega
  by_cases hlen2 : (1048576 : Int) < (D.length : Int)
  · go_enter Try.func9, Try.ntmps9
    go_wp2
    go_ret
    rw [hW] at BW
    exact ⟨rfl, BW.out⟩
  have hlen2' : D.length ≤ 1048576 := by omega
  go_enter Try.func9, Try.ntmps9
  go_wp2_with (fail)
  rw [← hW]
  clear hW
  by_cases hsz : 1048576 - (r.cells.length : Int) < 0
  · refine (szRegion_no _ r 1048576 _ R.out.v (by omega) hsz).mono ?_
    rintro e w1 ⟨rfl, hb⟩
    have BW := Lib.hid (BW.out.trans (hb.mono BW.out.size))
    have R := Lib.hid (R.out.on hb)
    have U := Lib.hid (Sl.below U.out hb)
    have D1 := Lib.hid (Sl.below D1.out hb)
    clear hb
    go_wp2
    go_ret
    exact ⟨rfl, BW.out⟩
  refine (szRegion_yes _ r 1048576 _ R.out.v (by omega) hsz).mono ?_
  rintro e w2 ⟨rfl, hb⟩
  have BW := Lib.hid (BW.out.trans (hb.mono BW.out.size))
  have R := Lib.hid (R.out.on hb)
  have U := Lib.hid (Sl.below U.out hb)
  have D1 := Lib.hid (Sl.below D1.out hb)
  clear hb
  have hrl : r.cells.length ≤ 1048576 := by omega
  obtain ⟨Gl, hq⟩ : ∃ q, hHigh r L D = q := ⟨_, rfl⟩
  have hGl : Gl.length ≤ 1048576 := by
    have h1 := hHigh_len r L D
    rw [hq] at h1
    omega
  have HS := fun (v u t : Value) (w : World) (h : RegV w v r) (g : Il w u L) (gt : Il w t D) => sHeightsHigh_any v u t r L D w h g gt
  have HI := fun (v u t : Value) (w : World) (h : RegV w v r) (g : Il w u L) (gt : Il w t D) => HeightsHigh_any v u t r L D w h g gt
  rw [hq] at HS HI
  have HS := Lib.hid HS
  have HI := Lib.hid HI
  clear hq
  have hnn : ((1 + (Gl.length : Int)) != (1 + (Gl.length : Int))) = false := by simp
  obtain ⟨x0, x1, x2⟩ := R.out.c3
  have sX := R.out.lt
  go_wp2_with (fail)
  refine (toRegion_any _ r _ R.out.v hrl).mono ?_
  rintro e w3 ⟨a3, c3, rfl, ho, hb⟩
  have BW := Lib.hid (BW.out.trans (hb.mono BW.out.size))
  have R := Lib.hid (R.out.on hb)
  have U := Lib.hid (Sl.below U.out hb)
  have D1 := Lib.hid (Sl.below D1.out hb)
  have Q0 := Lib.hid (RetRX.regV ho)
  have Q0o := Lib.hid ho
  clear ho
  clear hb
  clear x0 x1 x2 sX
  have Q0 := Q0
  go_wp2_with (fail)
  refine (toIntS_any _ L _ U.out hlen').mono ?_
  rintro e w4 ⟨v4, rfl, ho, hb⟩
  have BW := Lib.hid (BW.out.trans (hb.mono BW.out.size))
  have R := Lib.hid (R.out.on hb)
  have U := Lib.hid (Sl.below U.out hb)
  have D1 := Lib.hid (Sl.below D1.out hb)
  have Q0 := Lib.hid (Q0.out.below hb)
  have Q1 := Lib.hid ho.sl
  clear ho
  clear hb
  go_wp2_with (fail)
  refine (toIntS_any _ D _ D1.out hlen2').mono ?_
  rintro e w5 ⟨v5, rfl, ho, hb⟩
  have BW := Lib.hid (BW.out.trans (hb.mono BW.out.size))
  have R := Lib.hid (R.out.on hb)
  have U := Lib.hid (Sl.below U.out hb)
  have D1 := Lib.hid (Sl.below D1.out hb)
  have Q0 := Lib.hid (Q0.out.below hb)
  have Q1 := Lib.hid (Sl.below Q1.out hb)
  have Q2 := Lib.hid ho.sl
  clear ho
  clear hb
  go_wp2_with (fail)
  refine (HS.out _ _ _ _ Q0.out Q1.out Q2.out).mono ?_
  rintro e w6 ⟨v6, rfl, ho, hb⟩
  have BW := Lib.hid (BW.out.trans (hb.mono BW.out.size))
  have R := Lib.hid (R.out.on hb)
  have U := Lib.hid (Sl.below U.out hb)
  have D1 := Lib.hid (Sl.below D1.out hb)
  have W0 := Lib.hid ho.sl
  clear ho
  clear hb Q0 Q0o Q1 Q2
  have B5 := Lib.hid (Below.refl w6.heap.size w6)
  obtain ⟨x0, x1, x2⟩ := (R.out.on B5.out).c3
  have sX := (R.out.on B5.out).lt
  go_wp2_with (fail)
  refine (toRegion_any _ r _ (R.out.on B5.out).v hrl).mono ?_
  rintro e w7 ⟨a7, c7, rfl, ho, hb⟩
  have B6z := Lib.hid (B5.out.trans (hb.mono B5.out.size)).size
  have K0 := Lib.hid (bk_of (Ow.of_owns ho))
  have C0 := Lib.hid (Ow.of_owns ho)
  have Q0b := Lib.hid ho.sl
  clear ho
  have B5 := Lib.hid (B5.out.trans (hb.mono B5.out.size))
  clear hb
  clear x0 x1 x2 sX
  obtain ⟨x0, x1, x2⟩ := (R.out.on B5.out).c3
  have sX := (R.out.on B5.out).lt
  have BA := below_alloc w7 (.cells #[.int .i64 r.wide, .int .i64 r.tall, .slice a7 r.cells.length c7] 28)
  have RX := RB.new (W := w7) (r := r) (s := .slice a7 r.cells.length c7) Q0b.out
  have C0 := C0.out.below BA
  have B5 := B5.out.trans (BA.mono B5.out.size)
  have k67 := BA.size
  clear BA
  obtain ⟨W1, hW1⟩ : ∃ W, W = w7.alloc (.cells #[.int .i64 r.wide, .int .i64 r.tall, .slice a7 r.cells.length c7] 28) := ⟨_, rfl⟩
  rw [← hW1] at RX C0 B5 k67
  have RX := Lib.hid RX
  have C0 := Lib.hid C0
  have B5 := Lib.hid B5
  have k67 := Lib.hid k67
  clear x0 x1 x2 sX
  clear Q0b
  go_wp2_with (fail)
  rw [← hW1]
  clear hW1
  obtain ⟨X1, hX1⟩ : ∃ X, w7.heap.size = X := ⟨_, rfl⟩
  rw [hX1] at RX K0 k67 ⊢
  have B5z := Lib.hid (show w6.heap.size ≤ X1 by rw [← hX1]; exact B6z.out)
  clear hX1
  refine (toIntS_any _ L _ (Sl.below U.out B5.out) hlen').mono ?_
  rintro e w8 ⟨v8, rfl, ho, hb⟩
  have RX := Lib.hid (RX.out.on hb)
  have C0 := Lib.hid (Ow.below C0.out hb)
  have K1 := Lib.hid (bk_of (Ow.of_owns ho))
  have O1 := Lib.hid (Ow.of_owns ho)
  have zK1 := Lib.hid hb.size
  clear ho
  have B5 := Lib.hid (B5.out.trans (hb.mono B5.out.size))
  clear hb
  go_wp2_with (fail)
  refine (toIntS_any _ D _ (Sl.below D1.out B5.out) hlen2').mono ?_
  rintro e w9 ⟨v9, rfl, ho, hb⟩
  have RX := Lib.hid (RX.out.on hb)
  have C0 := Lib.hid (Ow.below C0.out hb)
  have O1 := Lib.hid (Ow.below O1.out hb)
  have K2 := Lib.hid (bk_of (Ow.of_owns ho))
  have O2 := Lib.hid (Ow.of_owns ho)
  have zK2 := Lib.hid hb.size
  clear ho
  have B5 := Lib.hid (B5.out.trans (hb.mono B5.out.size))
  clear hb
  obtain ⟨y0, y1, y2⟩ := RX.out.c3
  have sY := RX.out.lt
  go_wp2_with (fail)
  refine (HI.out _ _ _ _ RX.out.v O1.out.il O2.out.il).mono ?_
  rintro e w10 ⟨v10, rfl, ho, hb⟩
  have RX := Lib.hid (RX.out.on hb)
  have C0 := Lib.hid (Ow.below C0.out hb)
  have O1 := Lib.hid (Ow.below O1.out hb)
  have O2 := Lib.hid (Ow.below O2.out hb)
  have zG := Lib.hid hb.size
  have G := Lib.hid ho
  clear ho
  have B5 := Lib.hid (B5.out.trans (hb.mono B5.out.size))
  clear hb
  clear y0 y1 y2 sY
  obtain ⟨ga, gc, rfl⟩ := G.out.formM
  go_wp2_with (fail)
  refine (eqIntS_is _ _ Gl Gl _ G.out.il (Sl.below W0.out B5.out) true (by simp)).mono ?_
  rintro e w11 ⟨rfl, hb⟩
  have RX := Lib.hid (RX.out.on hb)
  have C0 := Lib.hid (Ow.below C0.out hb)
  have O1 := Lib.hid (Ow.below O1.out hb)
  have O2 := Lib.hid (Ow.below O2.out hb)
  have G := Lib.hid (Ow.below G.out hb)
  have B5 := Lib.hid (B5.out.trans (hb.mono B5.out.size))
  clear hb
  obtain ⟨x0, x1, x2⟩ := (R.out.on B5.out).c3
  have sX := (R.out.on B5.out).lt
  obtain ⟨y0, y1, y2⟩ := RX.out.c3
  have sY := RX.out.lt
  go_wp2_with (fail)
  go_region_held3 (fun w' => w'.cell? ⟨w.heap.size, 0, none⟩ = some (.int .i64 r.wide) ∧ w'.cell? ⟨w.heap.size, 1, none⟩ = some (.int .i64 r.tall) ∧ w'.cell? ⟨w.heap.size, 2, none⟩ = some (.slice a0 r.cells.length cap0) ∧ w'.cell? ⟨X1, 0, none⟩ = some (.int .i64 r.wide) ∧ w'.cell? ⟨X1, 1, none⟩ = some (.int .i64 r.tall) ∧ w'.cell? ⟨X1, 2, none⟩ = some (.slice a7 r.cells.length c7))
    (first | go_keep | assumption | exact ⟨(cell_behind BY sX).trans x0, (cell_behind BY sX).trans x1, (cell_behind BY sX).trans x2, (cell_behind BY sY).trans y0, (cell_behind BY sY).trans y1, (cell_behind BY sY).trans y2⟩ | exact ⟨(cell_behind BZ sX).trans x0, (cell_behind BZ sX).trans x1, (cell_behind BZ sX).trans x2, (cell_behind BZ sY).trans y0, (cell_behind BZ sY).trans y1, (cell_behind BZ sY).trans y2⟩)
    (first | (go_at_call 12; refine (toRegion_any _ r _ (R.out.on (B5.out.trans ((Below.refl _ _).drew.mono B5.out.size))).v hrl).mono ?_; rintro e w12 ⟨a12, c12, rfl, ho4, hb4⟩; (have BY : Below w11.heap.size w11 w12 := (Below.refl _ _).drew.trans hb4); have Q4 := Lib.hid (RetRX.regV ho4); clear ho4 hb4) | (go_at_call 15; refine (eqRegion_same _ _ r _ (RX.out.on BY).v Q4.out).mono ?_; rintro e w13 ⟨rfl, hb5⟩; (have BZ : Below w11.heap.size w11 w13 := BY.trans (hb5.mono BY.size)); clear hb5))
  have RX := Lib.hid (RX.out.on BZ)
  have C0 := Lib.hid (Ow.below C0.out BZ)
  have O1 := Lib.hid (Ow.below O1.out BZ)
  have O2 := Lib.hid (Ow.below O2.out BZ)
  have G := Lib.hid (Ow.below G.out BZ)
  have B5 := Lib.hid (B5.out.trans (BZ.mono B5.out.size))
  clear BY BZ Q4
  clear x0 x1 x2 sX
  clear y0 y1 y2 sY
  go_wp2_with (fail)
  refine (toIntS_any _ L _ (Sl.below U.out B5.out) hlen').mono ?_
  rintro e w14 ⟨v14, rfl, ho, hb⟩
  have RX := Lib.hid (RX.out.on hb)
  have C0 := Lib.hid (Ow.below C0.out hb)
  have O1 := Lib.hid (Ow.below O1.out hb)
  have O2 := Lib.hid (Ow.below O2.out hb)
  have G := Lib.hid (Ow.below G.out hb)
  have Q1 := Lib.hid ho.sl
  clear ho
  have B5 := Lib.hid (B5.out.trans (hb.mono B5.out.size))
  clear hb
  go_wp2_with (fail)
  refine (eqIntS_is _ _ L L _ O1.out.il Q1.out true (by simp)).mono ?_
  rintro e w15 ⟨rfl, hb⟩
  have RX := Lib.hid (RX.out.on hb)
  have C0 := Lib.hid (Ow.below C0.out hb)
  have O1 := Lib.hid (Ow.below O1.out hb)
  have O2 := Lib.hid (Ow.below O2.out hb)
  have G := Lib.hid (Ow.below G.out hb)
  have B5 := Lib.hid (B5.out.trans (hb.mono B5.out.size))
  clear hb Q1
  go_wp2_with (fail)
  refine (toIntS_any _ D _ (Sl.below D1.out B5.out) hlen2').mono ?_
  rintro e w16 ⟨v16, rfl, ho, hb⟩
  have RX := Lib.hid (RX.out.on hb)
  have C0 := Lib.hid (Ow.below C0.out hb)
  have O1 := Lib.hid (Ow.below O1.out hb)
  have O2 := Lib.hid (Ow.below O2.out hb)
  have G := Lib.hid (Ow.below G.out hb)
  have Q1 := Lib.hid ho.sl
  clear ho
  have B5 := Lib.hid (B5.out.trans (hb.mono B5.out.size))
  clear hb
  go_wp2_with (fail)
  refine (eqIntS_is _ _ D D _ O2.out.il Q1.out true (by simp)).mono ?_
  rintro e w17 ⟨rfl, hb⟩
  have RX := Lib.hid (RX.out.on hb)
  have C0 := Lib.hid (Ow.below C0.out hb)
  have O1 := Lib.hid (Ow.below O1.out hb)
  have O2 := Lib.hid (Ow.below O2.out hb)
  have G := Lib.hid (Ow.below G.out hb)
  have B5 := Lib.hid (B5.out.trans (hb.mono B5.out.size))
  clear hb Q1
  obtain ⟨y0, y1, y2⟩ := RX.out.c3
  have sY := RX.out.lt
  go_wp2_with (fail)
  refine (markRegion_any r _ _ _ 1 _ _ C0.out hrl (by omega)).mono ?_
  rintro e w18 ⟨rfl, hg⟩
  have O1 := Lib.hid (ow_beside O1.out hg K0.out k67.out)
  have O2 := Lib.hid (ow_beside O2.out hg K0.out (Nat.le_trans k67.out zK1.out))
  have G := Lib.hid (ow_beside G.out hg K0.out (Nat.le_trans (Nat.le_trans k67.out zK1.out) zK2.out))
  have B5 := Lib.hid (below_beside B5.out hg K0.out (Nat.le_refl _))
  clear hg
  clear y0 y1 y2 sY
  clear RX C0
  go_wp2_with (fail)
  refine (markIntS_any _ L (1 + r.cells.length) _ _ O1.out hlen' (by omega)).mono ?_
  rintro e w19 ⟨rfl, _, hg⟩
  have O2 := Lib.hid (ow_beside O2.out hg K1.out (Nat.le_refl _))
  have G := Lib.hid (ow_beside G.out hg K1.out zK2.out)
  have B5 := Lib.hid (below_beside B5.out hg K1.out (Nat.le_trans B5z.out k67.out))
  clear hg
  clear O1
  go_wp2_with (fail)
  refine (markIntS_any _ D (1 + r.cells.length + L.length) _ _ O2.out hlen2' (by omega)).mono ?_
  rintro e w20 ⟨rfl, _, hg⟩
  have G := Lib.hid (ow_beside G.out hg K2.out (Nat.le_refl _))
  have B5 := Lib.hid (below_beside B5.out hg K2.out (Nat.le_trans (Nat.le_trans B5z.out k67.out) zK1.out))
  clear hg
  clear O2
  go_wp2_with (fail)
  refine (eqIntS_is _ _ Gl Gl _ G.out.il (Sl.below W0.out B5.out) true (by simp)).mono ?_
  rintro e w21 ⟨rfl, hb⟩
  have G := Lib.hid (Ow.below G.out hb)
  have B5 := Lib.hid (B5.out.trans (hb.mono B5.out.size))
  clear hb
  go_wp2_with (fail)
  have KG := Lib.hid (bk_of G.out)
  refine (markIntS_any _ Gl 1 _ _ G.out hGl (by omega)).mono ?_
  rintro e w22 ⟨rfl, ho, hg⟩
  have B5 := Lib.hid (below_beside B5.out hg KG.out (Nat.le_trans (Nat.le_trans (Nat.le_trans B5z.out k67.out) zK1.out) zK2.out))
  rw [markL_full] at ho
  have G := Lib.hid ho
  clear ho hg KG
  go_wp2_with (fail)
  refine (heldIntS_any _ Gl 1 _ G.out.il hGl (by omega)).mono ?_
  rintro e w23 ⟨rfl, hb⟩
  have G := Lib.hid (Ow.below G.out hb)
  have B5 := Lib.hid (B5.out.trans (hb.mono B5.out.size))
  clear hb
  obtain ⟨x0, x1, x2⟩ := (R.out.on B5.out).c3
  have sX := (R.out.on B5.out).lt
  go_wp2_with (fail)
  refine (toRegion_any _ r _ (R.out.on B5.out).v hrl).mono ?_
  rintro e w24 ⟨a24, c24, rfl, ho, hb⟩
  have G := Lib.hid (Ow.below G.out hb)
  have Q0 := Lib.hid (RetRX.regV ho)
  clear ho
  have B5 := Lib.hid (B5.out.trans (hb.mono B5.out.size))
  clear hb
  clear x0 x1 x2 sX
  go_wp2_with (fail)
  refine (toIntS_any _ L _ (Sl.below U.out B5.out) hlen').mono ?_
  rintro e w25 ⟨v25, rfl, ho, hb⟩
  have G := Lib.hid (Ow.below G.out hb)
  have Q0 := Lib.hid (Q0.out.below hb)
  have Q1 := Lib.hid ho.sl
  clear ho
  have B5 := Lib.hid (B5.out.trans (hb.mono B5.out.size))
  clear hb
  go_wp2_with (fail)
  refine (toIntS_any _ D _ (Sl.below D1.out B5.out) hlen2').mono ?_
  rintro e w26 ⟨v26, rfl, ho, hb⟩
  have G := Lib.hid (Ow.below G.out hb)
  have Q0 := Lib.hid (Q0.out.below hb)
  have Q1 := Lib.hid (Sl.below Q1.out hb)
  have Q2 := Lib.hid ho.sl
  clear ho
  have B5 := Lib.hid (B5.out.trans (hb.mono B5.out.size))
  clear hb
  go_wp2_with (fail)
  refine (HI.out _ _ _ _ Q0.out Q1.out Q2.out).mono ?_
  rintro e w27 ⟨v27, rfl, ho, hb⟩
  have G := Lib.hid (Ow.below G.out hb)
  have H := Lib.hid ho.il
  clear ho
  have B5 := Lib.hid (B5.out.trans (hb.mono B5.out.size))
  clear hb Q0 Q1 Q2
  go_wp2_with (fail)
  refine (eqIntS_is _ _ Gl Gl _ H.out (Sl.below W0.out B5.out) true (by simp)).mono ?_
  rintro e w28 ⟨rfl, hb⟩
  have G := Lib.hid (Ow.below G.out hb)
  have B5 := Lib.hid (B5.out.trans (hb.mono B5.out.size))
  clear hb H
  go_wp2_with (fail)
  refine (heldIntS_any _ Gl 1 _ G.out.il hGl (by omega)).mono ?_
  rintro e w29 ⟨rfl, hb⟩
  have G := Lib.hid (Ow.below G.out hb)
  have B5 := Lib.hid (B5.out.trans (hb.mono B5.out.size))
  clear hb
  have BW := Lib.hid (BW.out.trans (B5.out.mono BW.out.size))
  go_wp2
  go_ret
  exact ⟨rfl, BW.out⟩
end Go.Proofs.Ytdggcfpkbmdllaa
