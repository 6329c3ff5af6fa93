/- The law FnExactFlipsOf: its walk. -/
import Derived.Test.YtcagpfnlpjfgeaaVWflipD
import Derived.Test.YtcagpfnlpjfgeaaVWexl
set_option linter.unusedVariables false
namespace Go.Proofs.Ytcagpfnlpjfgeaa
open Go.RowKit Domi

set_option maxRecDepth 100000 in
set_option maxHeartbeats 4000000 in
theorem FnExactFlipsOf_walk (v u : Value) (r : Reg) (L : List Int) (w : World) (h : RegV w v r) (hu : Il w u L) :
    Calls Try.prog 10 #[v, u] w (Ret (.bool true) w) := by
  obtain ⟨a0, cap0, rfl, hs, hlc, hcm⟩ := h.opened
  have R := RL.new hs
  have BW := below_alloc w (.cells #[.int .i64 r.wide, .int .i64 r.tall, .slice a0 r.cells.length cap0] 41)
  obtain ⟨ua, uc, rfl, hul, hum, _⟩ := hu.opened
  have U := hu.below (below_alloc w (.cells #[.int .i64 r.wide, .int .i64 r.tall, .slice a0 r.cells.length cap0] 41))
  obtain ⟨W, hW⟩ : ∃ W, W = w.alloc (.cells #[.int .i64 r.wide, .int .i64 r.tall, .slice a0 r.cells.length cap0] 41) := ⟨_, rfl⟩
  rw [← hW] at R BW U
  have R := Lib.hid R
  have BW := Lib.hid BW
  have U := Lib.hid U
  clear h hs hu
  by_cases hlen : (1048576 : Int) < (L.length : Int)
  · go_enter Try.func10, Try.ntmps10
    go_wp2
    go_ret
    rw [hW] at BW
    exact ⟨rfl, BW.out⟩
  have hlen' : L.length ≤ 1048576 := by omega
  go_enter Try.func10, Try.ntmps10
  go_wp2_with (fail)
  rw [← hW]
  clear hW
  by_cases hsz : 1048576 - (r.cells.length : Int) < 0
  · refine (szRegion_no _ r 1048576 _ R.out.v (by omega) hsz).mono ?_
    rintro e w1 ⟨rfl, hb⟩
    have BW := Lib.hid (BW.out.trans (hb.mono BW.out.size))
    have R := Lib.hid (R.out.on hb)
    have U := Lib.hid (Sl.below U.out hb)
    clear hb
    go_wp2
    go_ret
    exact ⟨rfl, BW.out⟩
  refine (szRegion_yes _ r 1048576 _ R.out.v (by omega) hsz).mono ?_
  rintro e w2 ⟨rfl, hb⟩
  have BW := Lib.hid (BW.out.trans (hb.mono BW.out.size))
  have R := Lib.hid (R.out.on hb)
  have U := Lib.hid (Sl.below U.out hb)
  clear hb
  have hrl : r.cells.length ≤ 1048576 := by omega
  obtain ⟨Gl, hq⟩ : ∃ q, flipsOf r L = q := ⟨_, rfl⟩
  have hGl : Gl.length ≤ 1048576 := by
    have h1 := flipsOf_len r L
    rw [hq] at h1
    omega
  have HS := fun (v u : Value) (w : World) (h : RegV w v r) (g : Il w u L) => sFlipsOf_any v u r L w h g
  have HI := fun (v u : Value) (w : World) (h : RegV w v r) (g : Il w u L) => FlipsOf_any v u r L w h g
  rw [hq] at HS HI
  have HS := Lib.hid HS
  have HI := Lib.hid HI
  clear hq
  have hnn : ((1 + (Gl.length : Int)) != (1 + (Gl.length : Int))) = false := by simp
  obtain ⟨x0, x1, x2⟩ := R.out.c3
  have sX := R.out.lt
  go_wp2_with (fail)
  refine (toRegion_any _ r _ R.out.v hrl).mono ?_
  rintro e w3 ⟨a3, c3, rfl, ho, hb⟩
  have BW := Lib.hid (BW.out.trans (hb.mono BW.out.size))
  have R := Lib.hid (R.out.on hb)
  have U := Lib.hid (Sl.below U.out hb)
  have Q0 := Lib.hid (RetRX.regV ho)
  have Q0o := Lib.hid ho
  clear ho
  clear hb
  clear x0 x1 x2 sX
  have Q0 := Q0
  go_wp2_with (fail)
  refine (toIntS_any _ L _ U.out hlen').mono ?_
  rintro e w4 ⟨v4, rfl, ho, hb⟩
  have BW := Lib.hid (BW.out.trans (hb.mono BW.out.size))
  have R := Lib.hid (R.out.on hb)
  have U := Lib.hid (Sl.below U.out hb)
  have Q0 := Lib.hid (Q0.out.below hb)
  have Q1 := Lib.hid ho.sl
  clear ho
  clear hb
  go_wp2_with (fail)
  refine (HS.out _ _ _ Q0.out Q1.out).mono ?_
  rintro e w5 ⟨v5, rfl, ho, hb⟩
  have BW := Lib.hid (BW.out.trans (hb.mono BW.out.size))
  have R := Lib.hid (R.out.on hb)
  have U := Lib.hid (Sl.below U.out hb)
  have W0 := Lib.hid ho.sl
  clear ho
  clear hb Q0 Q0o Q1
  have B5 := Lib.hid (Below.refl w5.heap.size w5)
  obtain ⟨x0, x1, x2⟩ := (R.out.on B5.out).c3
  have sX := (R.out.on B5.out).lt
  go_wp2_with (fail)
  refine (toRegion_any _ r _ (R.out.on B5.out).v hrl).mono ?_
  rintro e w6 ⟨a6, c6, rfl, ho, hb⟩
  have B6z := Lib.hid (B5.out.trans (hb.mono B5.out.size)).size
  have K0 := Lib.hid (bk_of (Ow.of_owns ho))
  have C0 := Lib.hid (Ow.of_owns ho)
  have Q0b := Lib.hid ho.sl
  clear ho
  have B5 := Lib.hid (B5.out.trans (hb.mono B5.out.size))
  clear hb
  clear x0 x1 x2 sX
  obtain ⟨x0, x1, x2⟩ := (R.out.on B5.out).c3
  have sX := (R.out.on B5.out).lt
  have BA := below_alloc w6 (.cells #[.int .i64 r.wide, .int .i64 r.tall, .slice a6 r.cells.length c6] 25)
  have RX := RB.new (W := w6) (r := r) (s := .slice a6 r.cells.length c6) Q0b.out
  have C0 := C0.out.below BA
  have B5 := B5.out.trans (BA.mono B5.out.size)
  have k67 := BA.size
  clear BA
  obtain ⟨W1, hW1⟩ : ∃ W, W = w6.alloc (.cells #[.int .i64 r.wide, .int .i64 r.tall, .slice a6 r.cells.length c6] 25) := ⟨_, rfl⟩
  rw [← hW1] at RX C0 B5 k67
  have RX := Lib.hid RX
  have C0 := Lib.hid C0
  have B5 := Lib.hid B5
  have k67 := Lib.hid k67
  clear x0 x1 x2 sX
  clear Q0b
  go_wp2_with (fail)
  rw [← hW1]
  clear hW1
  obtain ⟨X1, hX1⟩ : ∃ X, w6.heap.size = X := ⟨_, rfl⟩
  rw [hX1] at RX K0 k67 ⊢
  have B5z := Lib.hid (show w5.heap.size ≤ X1 by rw [← hX1]; exact B6z.out)
  clear hX1
  refine (toIntS_any _ L _ (Sl.below U.out B5.out) hlen').mono ?_
  rintro e w7 ⟨v7, rfl, ho, hb⟩
  have RX := Lib.hid (RX.out.on hb)
  have C0 := Lib.hid (Ow.below C0.out hb)
  have K1 := Lib.hid (bk_of (Ow.of_owns ho))
  have O1 := Lib.hid (Ow.of_owns ho)
  have zK1 := Lib.hid hb.size
  clear ho
  have B5 := Lib.hid (B5.out.trans (hb.mono B5.out.size))
  clear hb
  obtain ⟨y0, y1, y2⟩ := RX.out.c3
  have sY := RX.out.lt
  go_wp2_with (fail)
  refine (HI.out _ _ _ RX.out.v O1.out.il).mono ?_
  rintro e w8 ⟨v8, rfl, ho, hb⟩
  have RX := Lib.hid (RX.out.on hb)
  have C0 := Lib.hid (Ow.below C0.out hb)
  have O1 := Lib.hid (Ow.below O1.out hb)
  have zG := Lib.hid hb.size
  have G := Lib.hid ho
  clear ho
  have B5 := Lib.hid (B5.out.trans (hb.mono B5.out.size))
  clear hb
  clear y0 y1 y2 sY
  obtain ⟨ga, gc, rfl⟩ := G.out.formM
  go_wp2_with (fail)
  refine (eqIntS_is _ _ Gl Gl _ G.out.il (Sl.below W0.out B5.out) true (by simp)).mono ?_
  rintro e w9 ⟨rfl, hb⟩
  have RX := Lib.hid (RX.out.on hb)
  have C0 := Lib.hid (Ow.below C0.out hb)
  have O1 := Lib.hid (Ow.below O1.out hb)
  have G := Lib.hid (Ow.below G.out hb)
  have B5 := Lib.hid (B5.out.trans (hb.mono B5.out.size))
  clear hb
  obtain ⟨x0, x1, x2⟩ := (R.out.on B5.out).c3
  have sX := (R.out.on B5.out).lt
  obtain ⟨y0, y1, y2⟩ := RX.out.c3
  have sY := RX.out.lt
  go_wp2_with (fail)
  go_region_held3 (fun w' => w'.cell? ⟨w.heap.size, 0, none⟩ = some (.int .i64 r.wide) ∧ w'.cell? ⟨w.heap.size, 1, none⟩ = some (.int .i64 r.tall) ∧ w'.cell? ⟨w.heap.size, 2, none⟩ = some (.slice a0 r.cells.length cap0) ∧ w'.cell? ⟨X1, 0, none⟩ = some (.int .i64 r.wide) ∧ w'.cell? ⟨X1, 1, none⟩ = some (.int .i64 r.tall) ∧ w'.cell? ⟨X1, 2, none⟩ = some (.slice a6 r.cells.length c6))
    (first | go_keep | assumption | exact ⟨(cell_behind BY sX).trans x0, (cell_behind BY sX).trans x1, (cell_behind BY sX).trans x2, (cell_behind BY sY).trans y0, (cell_behind BY sY).trans y1, (cell_behind BY sY).trans y2⟩ | exact ⟨(cell_behind BZ sX).trans x0, (cell_behind BZ sX).trans x1, (cell_behind BZ sX).trans x2, (cell_behind BZ sY).trans y0, (cell_behind BZ sY).trans y1, (cell_behind BZ sY).trans y2⟩)
    (first | (go_at_call 36; refine (toRegion_any _ r _ (R.out.on (B5.out.trans ((Below.refl _ _).drew.mono B5.out.size))).v hrl).mono ?_; rintro e w10 ⟨a10, c10, rfl, ho4, hb4⟩; (have BY : Below w9.heap.size w9 w10 := (Below.refl _ _).drew.trans hb4); have Q4 := Lib.hid (RetRX.regV ho4); clear ho4 hb4) | (go_at_call 38; refine (eqRegion_same _ _ r _ (RX.out.on BY).v Q4.out).mono ?_; rintro e w11 ⟨rfl, hb5⟩; (have BZ : Below w9.heap.size w9 w11 := BY.trans (hb5.mono BY.size)); clear hb5))
  have RX := Lib.hid (RX.out.on BZ)
  have C0 := Lib.hid (Ow.below C0.out BZ)
  have O1 := Lib.hid (Ow.below O1.out BZ)
  have G := Lib.hid (Ow.below G.out BZ)
  have B5 := Lib.hid (B5.out.trans (BZ.mono B5.out.size))
  clear BY BZ Q4
  clear x0 x1 x2 sX
  clear y0 y1 y2 sY
  go_wp2_with (fail)
  refine (toIntS_any _ L _ (Sl.below U.out B5.out) hlen').mono ?_
  rintro e w12 ⟨v12, rfl, ho, hb⟩
  have RX := Lib.hid (RX.out.on hb)
  have C0 := Lib.hid (Ow.below C0.out hb)
  have O1 := Lib.hid (Ow.below O1.out hb)
  have G := Lib.hid (Ow.below G.out hb)
  have Q1 := Lib.hid ho.sl
  clear ho
  have B5 := Lib.hid (B5.out.trans (hb.mono B5.out.size))
  clear hb
  go_wp2_with (fail)
  refine (eqIntS_is _ _ L L _ O1.out.il Q1.out true (by simp)).mono ?_
  rintro e w13 ⟨rfl, hb⟩
  have RX := Lib.hid (RX.out.on hb)
  have C0 := Lib.hid (Ow.below C0.out hb)
  have O1 := Lib.hid (Ow.below O1.out hb)
  have G := Lib.hid (Ow.below G.out hb)
  have B5 := Lib.hid (B5.out.trans (hb.mono B5.out.size))
  clear hb Q1
  obtain ⟨y0, y1, y2⟩ := RX.out.c3
  have sY := RX.out.lt
  go_wp2_with (fail)
  refine (markRegion_any r _ _ _ 1 _ _ C0.out hrl (by omega)).mono ?_
  rintro e w14 ⟨rfl, hg⟩
  have O1 := Lib.hid (ow_beside O1.out hg K0.out k67.out)
  have G := Lib.hid (ow_beside G.out hg K0.out (Nat.le_trans k67.out zK1.out))
  have B5 := Lib.hid (below_beside B5.out hg K0.out (Nat.le_refl _))
  clear hg
  clear y0 y1 y2 sY
  clear RX C0
  go_wp2_with (fail)
  refine (markIntS_any _ L (1 + r.cells.length) _ _ O1.out hlen' (by omega)).mono ?_
  rintro e w15 ⟨rfl, _, hg⟩
  have G := Lib.hid (ow_beside G.out hg K1.out (Nat.le_refl _))
  have B5 := Lib.hid (below_beside B5.out hg K1.out (Nat.le_trans B5z.out k67.out))
  clear hg
  clear O1
  go_wp2_with (fail)
  refine (eqIntS_is _ _ Gl Gl _ G.out.il (Sl.below W0.out B5.out) true (by simp)).mono ?_
  rintro e w16 ⟨rfl, hb⟩
  have G := Lib.hid (Ow.below G.out hb)
  have B5 := Lib.hid (B5.out.trans (hb.mono B5.out.size))
  clear hb
  go_wp2_with (fail)
  have KG := Lib.hid (bk_of G.out)
  refine (markIntS_any _ Gl 1 _ _ G.out hGl (by omega)).mono ?_
  rintro e w17 ⟨rfl, ho, hg⟩
  have B5 := Lib.hid (below_beside B5.out hg KG.out (Nat.le_trans (Nat.le_trans B5z.out k67.out) zK1.out))
  rw [markL_full] at ho
  have G := Lib.hid ho
  clear ho hg KG
  go_wp2_with (fail)
  refine (heldIntS_any _ Gl 1 _ G.out.il hGl (by omega)).mono ?_
  rintro e w18 ⟨rfl, hb⟩
  have G := Lib.hid (Ow.below G.out hb)
  have B5 := Lib.hid (B5.out.trans (hb.mono B5.out.size))
  clear hb
  obtain ⟨x0, x1, x2⟩ := (R.out.on B5.out).c3
  have sX := (R.out.on B5.out).lt
  go_wp2_with (fail)
  refine (toRegion_any _ r _ (R.out.on B5.out).v hrl).mono ?_
  rintro e w19 ⟨a19, c19, rfl, ho, hb⟩
  have G := Lib.hid (Ow.below G.out hb)
  have Q0 := Lib.hid (RetRX.regV ho)
  clear ho
  have B5 := Lib.hid (B5.out.trans (hb.mono B5.out.size))
  clear hb
  clear x0 x1 x2 sX
  go_wp2_with (fail)
  refine (toIntS_any _ L _ (Sl.below U.out B5.out) hlen').mono ?_
  rintro e w20 ⟨v20, rfl, ho, hb⟩
  have G := Lib.hid (Ow.below G.out hb)
  have Q0 := Lib.hid (Q0.out.below hb)
  have Q1 := Lib.hid ho.sl
  clear ho
  have B5 := Lib.hid (B5.out.trans (hb.mono B5.out.size))
  clear hb
  go_wp2_with (fail)
  refine (HI.out _ _ _ Q0.out Q1.out).mono ?_
  rintro e w21 ⟨v21, rfl, ho, hb⟩
  have G := Lib.hid (Ow.below G.out hb)
  have H := Lib.hid ho.il
  clear ho
  have B5 := Lib.hid (B5.out.trans (hb.mono B5.out.size))
  clear hb Q0 Q1
  go_wp2_with (fail)
  refine (eqIntS_is _ _ Gl Gl _ H.out (Sl.below W0.out B5.out) true (by simp)).mono ?_
  rintro e w22 ⟨rfl, hb⟩
  have G := Lib.hid (Ow.below G.out hb)
  have B5 := Lib.hid (B5.out.trans (hb.mono B5.out.size))
  clear hb H
  go_wp2_with (fail)
  refine (heldIntS_any _ Gl 1 _ G.out.il hGl (by omega)).mono ?_
  rintro e w23 ⟨rfl, hb⟩
  have G := Lib.hid (Ow.below G.out hb)
  have B5 := Lib.hid (B5.out.trans (hb.mono B5.out.size))
  clear hb
  have BW := Lib.hid (BW.out.trans (B5.out.mono BW.out.size))
  go_wp2
  go_ret
  exact ⟨rfl, BW.out⟩
end Go.Proofs.Ytcagpfnlpjfgeaa
