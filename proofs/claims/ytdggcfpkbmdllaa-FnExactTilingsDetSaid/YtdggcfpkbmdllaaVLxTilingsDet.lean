/- The law FnExactTilingsDet: its walk. -/
import Derived.Test.YtdggcfpkbmdllaaVWex
import Derived.Test.YtdggcfpkbmdllaaVWtd
set_option linter.unusedVariables false
namespace Go.Proofs.Ytdggcfpkbmdllaa
open Go.RowKit Domi

set_option maxRecDepth 100000 in
set_option maxHeartbeats 4000000 in
theorem FnExactTilingsDet_walk (v : Value) (r : Reg) (w : World) (h : RegV w v r) :
    Calls Try.prog 5 #[v] w (Ret (.bool true) w) := by
  obtain ⟨a0, cap0, rfl, hs, hlc, hcm⟩ := h.opened
  have R := RL.new hs
  have BW := below_alloc w (.cells #[.int .i64 r.wide, .int .i64 r.tall, .slice a0 r.cells.length cap0] 24)
  obtain ⟨W, hW⟩ : ∃ W, W = w.alloc (.cells #[.int .i64 r.wide, .int .i64 r.tall, .slice a0 r.cells.length cap0] 24) := ⟨_, rfl⟩
  rw [← hW] at R BW
  have R := Lib.hid R
  have BW := Lib.hid BW
  clear h hs
  go_enter Try.func5, Try.ntmps5
  go_wp2_with (fail)
  rw [← hW]
  clear hW
  by_cases hsz : 1048576 - (r.cells.length : Int) < 0
  · refine (szRegion_no _ r 1048576 _ R.out.v (by omega) hsz).mono ?_
    rintro e w1 ⟨rfl, hb⟩
    have BW := Lib.hid (BW.out.trans (hb.mono BW.out.size))
    have R := Lib.hid (R.out.on hb)
    clear hb
    go_wp2
    go_ret
    exact ⟨rfl, BW.out⟩
  refine (szRegion_yes _ r 1048576 _ R.out.v (by omega) hsz).mono ?_
  rintro e w2 ⟨rfl, hb⟩
  have BW := Lib.hid (BW.out.trans (hb.mono BW.out.size))
  have R := Lib.hid (R.out.on hb)
  clear hb
  have hrl : r.cells.length ≤ 1048576 := by omega
  obtain ⟨b, hb0⟩ : ∃ b, tdR r = b := ⟨_, rfl⟩
  have HB := Lib.hid hb0
  clear hb0
  have hbb : (b != b) = false := by simp
  obtain ⟨x0, x1, x2⟩ := R.out.c3
  have sX := R.out.lt
  go_wp2_with (fail)
  refine (toRegion_any _ r _ R.out.v hrl).mono ?_
  rintro e w3 ⟨a3, c3, rfl, ho, hb⟩
  have BW := Lib.hid (BW.out.trans (hb.mono BW.out.size))
  have R := Lib.hid (R.out.on hb)
  have Q0 := Lib.hid (RetRX.regV ho)
  have Q0o := Lib.hid ho
  clear ho
  clear hb
  clear x0 x1 x2 sX
  have Q0 := Q0
  go_wp2_with (fail)
  refine (sTilingsDet_is _ r _ Q0.out b HB.out).mono ?_
  rintro e w4 ⟨rfl, hb⟩
  have BW := Lib.hid (BW.out.trans (hb.mono BW.out.size))
  have R := Lib.hid (R.out.on hb)
  clear hb Q0 Q0o
  obtain ⟨x0, x1, x2⟩ := R.out.c3
  have sX := R.out.lt
  go_wp2_with (fail)
  refine (toRegion_any _ r _ R.out.v hrl).mono ?_
  rintro e w5 ⟨a5, c5, rfl, ho, hb⟩
  have BW := Lib.hid (BW.out.trans (hb.mono BW.out.size))
  have R := Lib.hid (R.out.on hb)
  have Q0 := Lib.hid (RetRX.regV ho)
  have Q0o := Lib.hid ho
  clear ho
  clear hb
  clear x0 x1 x2 sX
  have Q0b := Lib.hid Q0o.out.sl
  clear Q0 Q0o
  obtain ⟨x0, x1, x2⟩ := R.out.c3
  have sX := R.out.lt
  have BA := below_alloc w5 (.cells #[.int .i64 r.wide, .int .i64 r.tall, .slice a5 r.cells.length c5] 28)
  have RX := RB.new (W := w5) (r := r) (s := .slice a5 r.cells.length c5) Q0b.out
  have R := R.out.on BA
  have BW := BW.out.trans (BA.mono BW.out.size)
  clear BA
  obtain ⟨W1, hW1⟩ : ∃ W, W = w5.alloc (.cells #[.int .i64 r.wide, .int .i64 r.tall, .slice a5 r.cells.length c5] 28) := ⟨_, rfl⟩
  rw [← hW1] at RX BW R
  have RX := Lib.hid RX
  have BW := Lib.hid BW
  have R := Lib.hid R
  clear x0 x1 x2 sX
  clear Q0b
  obtain ⟨y0, y1, y2⟩ := RX.out.c3
  have sY := RX.out.lt
  rw [hW1] at y0 y1 y2 sY
  go_wp2_with (fail)
  rw [← hW1]
  rw [← hW1] at y0 y1 y2 sY
  clear hW1
  generalize w5.heap.size = X1 at *
  refine (TilingsDet_is _ r _ RX.out.v b HB.out).mono ?_
  rintro e w6 ⟨rfl, hb⟩
  have BW := Lib.hid (BW.out.trans (hb.mono BW.out.size))
  have R := Lib.hid (R.out.on hb)
  have RX := Lib.hid (RX.out.on hb)
  clear hb
  clear y0 y1 y2 sY
  obtain ⟨x0, x1, x2⟩ := R.out.c3
  have sX := R.out.lt
  obtain ⟨y0, y1, y2⟩ := RX.out.c3
  have sY := RX.out.lt
  go_wp2_with (fail)
  go_region_held3 (fun w' => w'.cell? ⟨w.heap.size, 0, none⟩ = some (.int .i64 r.wide) ∧ w'.cell? ⟨w.heap.size, 1, none⟩ = some (.int .i64 r.tall) ∧ w'.cell? ⟨w.heap.size, 2, none⟩ = some (.slice a0 r.cells.length cap0) ∧ w'.cell? ⟨X1, 0, none⟩ = some (.int .i64 r.wide) ∧ w'.cell? ⟨X1, 1, none⟩ = some (.int .i64 r.tall) ∧ w'.cell? ⟨X1, 2, none⟩ = some (.slice a5 r.cells.length c5))
    (first | go_keep | assumption | exact ⟨(cell_behind BY sX).trans x0, (cell_behind BY sX).trans x1, (cell_behind BY sX).trans x2, (cell_behind BY sY).trans y0, (cell_behind BY sY).trans y1, (cell_behind BY sY).trans y2⟩ | exact ⟨(cell_behind BZ sX).trans x0, (cell_behind BZ sX).trans x1, (cell_behind BZ sX).trans x2, (cell_behind BZ sY).trans y0, (cell_behind BZ sY).trans y1, (cell_behind BZ sY).trans y2⟩)
    (first | (go_at_call 12; refine (toRegion_any _ r _ (R.out.on (Below.refl _ _).drew).v hrl).mono ?_; rintro e w7 ⟨a7, c7, rfl, ho4, hb4⟩; (have BY : Below w6.heap.size w6 w7 := (Below.refl _ _).drew.trans hb4); have Q4 := Lib.hid (RetRX.regV ho4); clear ho4 hb4) | (go_at_call 15; refine (eqRegion_same _ _ r _ (RX.out.on BY).v Q4.out).mono ?_; rintro e w8 ⟨rfl, hb5⟩; (have BZ : Below w6.heap.size w6 w8 := BY.trans (hb5.mono BY.size)); clear hb5))
  have BW := Lib.hid (BW.out.trans (BZ.mono BW.out.size))
  have R := Lib.hid (R.out.on BZ)
  have RX := Lib.hid (RX.out.on BZ)
  clear BY BZ Q4
  clear x0 x1 x2 sX
  clear y0 y1 y2 sY
  go_wp2
  go_ret
  exact ⟨rfl, BW.out⟩
end Go.Proofs.Ytdggcfpkbmdllaa
