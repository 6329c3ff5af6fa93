/- The law FnExactHeightsOk: its walk. -/
import Derived.Test.YtdggcfpkbmdllaaVWex
import Derived.Test.YtdggcfpkbmdllaaVWhokT
set_option linter.unusedVariables false
namespace Go.Proofs.Ytdggcfpkbmdllaa
open Go.RowKit Domi

set_option maxRecDepth 100000 in
set_option maxHeartbeats 4000000 in
theorem FnExactHeightsOk_walk (v u : Value) (r : Reg) (L : List Int) (w : World) (h : RegV w v r) (hu : Il w u L) :
    Calls Try.prog 8 #[v, u] w (Ret (.bool true) w) := by
  obtain ⟨a0, cap0, rfl, hs, hlc, hcm⟩ := h.opened
  have R := RL.new hs
  have BW := below_alloc w (.cells #[.int .i64 r.wide, .int .i64 r.tall, .slice a0 r.cells.length cap0] 24)
  obtain ⟨ua, uc, rfl, hul, hum, _⟩ := hu.opened
  have U := hu.below (below_alloc w (.cells #[.int .i64 r.wide, .int .i64 r.tall, .slice a0 r.cells.length cap0] 24))
  obtain ⟨W, hW⟩ : ∃ W, W = w.alloc (.cells #[.int .i64 r.wide, .int .i64 r.tall, .slice a0 r.cells.length cap0] 24) := ⟨_, rfl⟩
  rw [← hW] at R BW U
  have R := Lib.hid R
  have BW := Lib.hid BW
  have U := Lib.hid U
  clear h hs hu
  by_cases hlen : (1048576 : Int) < (L.length : Int)
  · go_enter Try.func8, Try.ntmps8
    go_wp2
    go_ret
    rw [hW] at BW
    exact ⟨rfl, BW.out⟩
  have hlen' : L.length ≤ 1048576 := by omega
  go_enter Try.func8, Try.ntmps8
  go_wp2_with (fail)
  rw [← hW]
  clear hW
  by_cases hsz : 1048576 - (r.cells.length : Int) < 0
  · refine (szRegion_no _ r 1048576 _ R.out.v (by omega) hsz).mono ?_
    rintro e w1 ⟨rfl, hb⟩
    have BW := Lib.hid (BW.out.trans (hb.mono BW.out.size))
    have R := Lib.hid (R.out.on hb)
    have U := Lib.hid (Sl.below U.out hb)
    clear hb
    go_wp2
    go_ret
    exact ⟨rfl, BW.out⟩
  refine (szRegion_yes _ r 1048576 _ R.out.v (by omega) hsz).mono ?_
  rintro e w2 ⟨rfl, hb⟩
  have BW := Lib.hid (BW.out.trans (hb.mono BW.out.size))
  have R := Lib.hid (R.out.on hb)
  have U := Lib.hid (Sl.below U.out hb)
  clear hb
  have hrl : r.cells.length ≤ 1048576 := by omega
  obtain ⟨b, hb0⟩ : ∃ b, okH r L = b := ⟨_, rfl⟩
  have HB := Lib.hid hb0
  clear hb0
  have hbb : (b != b) = false := by simp
  obtain ⟨x0, x1, x2⟩ := R.out.c3
  have sX := R.out.lt
  go_wp2_with (fail)
  refine (toRegion_any _ r _ R.out.v hrl).mono ?_
  rintro e w3 ⟨a3, c3, rfl, ho, hb⟩
  have BW := Lib.hid (BW.out.trans (hb.mono BW.out.size))
  have R := Lib.hid (R.out.on hb)
  have U := Lib.hid (Sl.below U.out hb)
  have Q0 := Lib.hid (RetRX.regV ho)
  have Q0o := Lib.hid ho
  clear ho
  clear hb
  clear x0 x1 x2 sX
  have Q0 := Q0
  go_wp2_with (fail)
  refine (toIntS_any _ L _ U.out hlen').mono ?_
  rintro e w4 ⟨v4, rfl, ho, hb⟩
  have BW := Lib.hid (BW.out.trans (hb.mono BW.out.size))
  have R := Lib.hid (R.out.on hb)
  have U := Lib.hid (Sl.below U.out hb)
  have Q0 := Lib.hid (Q0.out.below hb)
  have Q1 := Lib.hid ho.sl
  clear ho
  clear hb
  go_wp2_with (fail)
  refine (sHeightsOk_any _ _ r L _ Q0.out Q1.out b HB.out).mono ?_
  rintro e w5 ⟨rfl, hb⟩
  have BW := Lib.hid (BW.out.trans (hb.mono BW.out.size))
  have R := Lib.hid (R.out.on hb)
  have U := Lib.hid (Sl.below U.out hb)
  clear hb Q0 Q1 Q0o
  obtain ⟨x0, x1, x2⟩ := R.out.c3
  have sX := R.out.lt
  go_wp2_with (fail)
  refine (toRegion_any _ r _ R.out.v hrl).mono ?_
  rintro e w6 ⟨a6, c6, rfl, ho, hb⟩
  have BW := Lib.hid (BW.out.trans (hb.mono BW.out.size))
  have R := Lib.hid (R.out.on hb)
  have U := Lib.hid (Sl.below U.out hb)
  have Q0 := Lib.hid (RetRX.regV ho)
  have Q0o := Lib.hid ho
  clear ho
  clear hb
  clear x0 x1 x2 sX
  have Q0b := Lib.hid Q0o.out.sl
  clear Q0 Q0o
  obtain ⟨x0, x1, x2⟩ := R.out.c3
  have sX := R.out.lt
  have BA := below_alloc w6 (.cells #[.int .i64 r.wide, .int .i64 r.tall, .slice a6 r.cells.length c6] 28)
  have RX := RB.new (W := w6) (r := r) (s := .slice a6 r.cells.length c6) Q0b.out
  have R := R.out.on BA
  have U := Sl.below U.out BA
  have BW := BW.out.trans (BA.mono BW.out.size)
  clear BA
  obtain ⟨W1, hW1⟩ : ∃ W, W = w6.alloc (.cells #[.int .i64 r.wide, .int .i64 r.tall, .slice a6 r.cells.length c6] 28) := ⟨_, rfl⟩
  rw [← hW1] at RX BW R U
  have RX := Lib.hid RX
  have BW := Lib.hid BW
  have R := Lib.hid R
  have U := Lib.hid U
  clear x0 x1 x2 sX
  clear Q0b
  go_wp2_with (fail)
  rw [← hW1]
  clear hW1
  generalize w6.heap.size = X1 at *
  refine (toIntS_any _ L _ U.out hlen').mono ?_
  rintro e w7 ⟨v7, rfl, ho, hb⟩
  have BW := Lib.hid (BW.out.trans (hb.mono BW.out.size))
  have R := Lib.hid (R.out.on hb)
  have RX := Lib.hid (RX.out.on hb)
  have U := Lib.hid (Sl.below U.out hb)
  have UX := Lib.hid ho.sl
  clear ho
  clear hb
  obtain ⟨y0, y1, y2⟩ := RX.out.c3
  have sY := RX.out.lt
  go_wp2_with (fail)
  refine (HeightsOk_any _ _ r L _ RX.out.v UX.out b HB.out).mono ?_
  rintro e w8 ⟨rfl, hb⟩
  have BW := Lib.hid (BW.out.trans (hb.mono BW.out.size))
  have R := Lib.hid (R.out.on hb)
  have RX := Lib.hid (RX.out.on hb)
  have U := Lib.hid (Sl.below U.out hb)
  have UX := Lib.hid (Sl.below UX.out hb)
  clear hb
  clear y0 y1 y2 sY
  obtain ⟨x0, x1, x2⟩ := R.out.c3
  have sX := R.out.lt
  obtain ⟨y0, y1, y2⟩ := RX.out.c3
  have sY := RX.out.lt
  go_wp2_with (fail)
  go_region_held3 (fun w' => w'.cell? ⟨w.heap.size, 0, none⟩ = some (.int .i64 r.wide) ∧ w'.cell? ⟨w.heap.size, 1, none⟩ = some (.int .i64 r.tall) ∧ w'.cell? ⟨w.heap.size, 2, none⟩ = some (.slice a0 r.cells.length cap0) ∧ w'.cell? ⟨X1, 0, none⟩ = some (.int .i64 r.wide) ∧ w'.cell? ⟨X1, 1, none⟩ = some (.int .i64 r.tall) ∧ w'.cell? ⟨X1, 2, none⟩ = some (.slice a6 r.cells.length c6))
    (first | go_keep | assumption | exact ⟨(cell_behind BY sX).trans x0, (cell_behind BY sX).trans x1, (cell_behind BY sX).trans x2, (cell_behind BY sY).trans y0, (cell_behind BY sY).trans y1, (cell_behind BY sY).trans y2⟩ | exact ⟨(cell_behind BZ sX).trans x0, (cell_behind BZ sX).trans x1, (cell_behind BZ sX).trans x2, (cell_behind BZ sY).trans y0, (cell_behind BZ sY).trans y1, (cell_behind BZ sY).trans y2⟩)
    (first | (go_at_call 12; refine (toRegion_any _ r _ (R.out.on (Below.refl _ _).drew).v hrl).mono ?_; rintro e w9 ⟨a9, c9, rfl, ho4, hb4⟩; (have BY : Below w8.heap.size w8 w9 := (Below.refl _ _).drew.trans hb4); have Q4 := Lib.hid (RetRX.regV ho4); clear ho4 hb4) | (go_at_call 15; refine (eqRegion_same _ _ r _ (RX.out.on BY).v Q4.out).mono ?_; rintro e w10 ⟨rfl, hb5⟩; (have BZ : Below w8.heap.size w8 w10 := BY.trans (hb5.mono BY.size)); clear hb5))
  have BW := Lib.hid (BW.out.trans (BZ.mono BW.out.size))
  have R := Lib.hid (R.out.on BZ)
  have RX := Lib.hid (RX.out.on BZ)
  have U := Lib.hid (Sl.below U.out BZ)
  have UX := Lib.hid (Sl.below UX.out BZ)
  clear BY BZ Q4
  clear x0 x1 x2 sX
  clear y0 y1 y2 sY
  go_wp2_with (fail)
  refine (toIntS_any _ L _ U.out hlen').mono ?_
  rintro e w11 ⟨v11, rfl, ho, hb⟩
  have BW := Lib.hid (BW.out.trans (hb.mono BW.out.size))
  have R := Lib.hid (R.out.on hb)
  have RX := Lib.hid (RX.out.on hb)
  have U := Lib.hid (Sl.below U.out hb)
  have UX := Lib.hid (Sl.below UX.out hb)
  have Q1 := Lib.hid ho.sl
  clear ho
  clear hb
  go_wp2_with (fail)
  refine (eqIntS_is _ _ L L _ UX.out Q1.out true (by simp)).mono ?_
  rintro e w12 ⟨rfl, hb⟩
  have BW := Lib.hid (BW.out.trans (hb.mono BW.out.size))
  have R := Lib.hid (R.out.on hb)
  have RX := Lib.hid (RX.out.on hb)
  have U := Lib.hid (Sl.below U.out hb)
  have UX := Lib.hid (Sl.below UX.out hb)
  clear hb
  go_wp2
  go_ret
  exact ⟨rfl, BW.out⟩
end Go.Proofs.Ytdggcfpkbmdllaa
