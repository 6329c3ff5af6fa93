/- The law FnExactSignMatrix: its walk. -/
import Derived.Test.YtdggcfpkbmdllaaVWex
import Derived.Test.YtdggcfpkbmdllaaVWexm
import Derived.Test.YtdggcfpkbmdllaaZe
import Derived.Test.YtdggcfpkbmdllaaVWsgnS
set_option linter.unusedVariables false
namespace Go.Proofs.Ytdggcfpkbmdllaa
open Go.RowKit Domi

theorem signM_dims (r : Reg) : (signM r).length ≤ 12 ∧ ∀ i, i < (signM r).length → ((signM r).getD i []).length ≤ 12 := by
  cases h : r.bal
  · rw [signM_no h]; exact ⟨by decide, fun i hi => absurd hi (Nat.not_lt_zero i)⟩
  · rw [signM_yes h, signR_length]
    obtain ⟨h1, _, h3⟩ := lens_bal h
    exact ⟨h3, fun i hi => by rw [signR_row hi, rowTo_len, h1]; exact h3⟩
theorem SignMatrix_mo (v : Value) (r : Reg) (w : World) (h : RegV w v r) (M : List (List Int)) (hM : signM r = M) : Calls Try.prog 13 #[v] w fun e w' => ∃ a c vs, e = .returned (.slice a M.length c) ∧ Mo w w' 39 3 (.slice a M.length c) vs M :=
  (SignMatrix_mx v r w h).mono fun _ _ ⟨u, vs, he, hm⟩ => by
    rw [hM] at hm
    obtain ⟨a, c, rfl, _⟩ := hm.ll.opened
    exact ⟨a, c, vs, he, hm.mo⟩
theorem sSignMatrix_ll (v : Value) (r : Reg) (w : World) (h : RegV w v r) (M : List (List Int)) (hM : signM r = M) : Calls Try.prog 11 #[v] w fun e w' => ∃ a c, e = .returned (.slice a M.length c) ∧ Ll w' (.slice a M.length c) M ∧ Below w.heap.size w w' :=
  (sSignMatrix_mx v r w h).mono fun _ _ ⟨u, vs, he, hm⟩ => by
    rw [hM] at hm
    obtain ⟨a, c, rfl, _⟩ := hm.ll.opened
    exact ⟨a, c, he, hm.ll, hm.bel⟩
set_option maxRecDepth 100000 in
set_option maxHeartbeats 4000000 in
theorem FnExactSignMatrix_walk (v : Value) (r : Reg) (w : World) (h : RegV w v r) :
    Calls Try.prog 3 #[v] w (Ret (.bool true) w) := by
  obtain ⟨a0, cap0, rfl, hs, hlc, hcm⟩ := h.opened
  have R := RL.new hs
  have BW := below_alloc w (.cells #[.int .i64 r.wide, .int .i64 r.tall, .slice a0 r.cells.length cap0] 24)
  obtain ⟨W, hW⟩ : ∃ W, W = w.alloc (.cells #[.int .i64 r.wide, .int .i64 r.tall, .slice a0 r.cells.length cap0] 24) := ⟨_, rfl⟩
  rw [← hW] at R BW
  have R := Lib.hid R
  have BW := Lib.hid BW
  clear h hs
  go_enter Try.func3, Try.ntmps3
  go_wp2_with (fail)
  rw [← hW]
  clear hW
  by_cases hsz : 1048576 - (r.cells.length : Int) < 0
  · refine (szRegion_no _ r 1048576 _ R.out.v (by omega) hsz).mono ?_
    rintro e w1 ⟨rfl, hb⟩
    have BW := Lib.hid (BW.out.trans (hb.mono BW.out.size))
    have R := Lib.hid (R.out.on hb)
    clear hb
    go_wp2
    go_ret
    exact ⟨rfl, BW.out⟩
  refine (szRegion_yes _ r 1048576 _ R.out.v (by omega) hsz).mono ?_
  rintro e w2 ⟨rfl, hb⟩
  have BW := Lib.hid (BW.out.trans (hb.mono BW.out.size))
  have R := Lib.hid (R.out.on hb)
  clear hb
  have hrl : r.cells.length ≤ 1048576 := by omega
  obtain ⟨M, hM⟩ : ∃ M, signM r = M := ⟨_, rfl⟩
  have HM := Lib.hid hM
  have hdim := signM_dims r
  rw [hM] at hdim
  have HDIM := Lib.hid hdim
  obtain ⟨T, hT⟩ : ∃ T : Int, 1 + (offM M M.length : Int) = T := ⟨_, rfl⟩
  have HT := Lib.hid hT
  have hTT : (T != T) = false := by simp
  have hT0 : ¬ T < 0 := by omega
  clear hM hdim hT
  obtain ⟨x0, x1, x2⟩ := R.out.c3
  have sX := R.out.lt
  go_wp2_with (fail)
  refine (toRegion_any _ r _ R.out.v hrl).mono ?_
  rintro e w3 ⟨a3, c3, rfl, ho, hb⟩
  have BW := Lib.hid (BW.out.trans (hb.mono BW.out.size))
  have R := Lib.hid (R.out.on hb)
  have Q0 := Lib.hid (RetRX.regV ho)
  clear ho hb x0 x1 x2 sX
  go_wp2_with (fail)
  refine (sSignMatrix_ll _ r _ Q0.out M HM.out).mono ?_
  rintro e w4 ⟨ua, uc, rfl, hl, hb⟩
  have BW := Lib.hid (BW.out.trans (hb.mono BW.out.size))
  have R := Lib.hid (R.out.on hb)
  have L0 := Lib.hid hl
  clear hb Q0 hl
  obtain ⟨x0, x1, x2⟩ := R.out.c3
  have sX := R.out.lt
  go_wp2_with (fail)
  refine (toRegion_any _ r _ R.out.v hrl).mono ?_
  rintro e w5 ⟨a5, c5, rfl, ho, hb⟩
  have B5 := Lib.hid hb
  have O0 := Lib.hid (Ow.of_owns ho)
  have Q0b := Lib.hid ho.sl
  clear ho hb x0 x1 x2 sX
  obtain ⟨x0, x1, x2⟩ := (R.out.on B5.out).c3
  have sX := (R.out.on B5.out).lt
  have BA := below_alloc w5 (.cells #[.int .i64 r.wide, .int .i64 r.tall, .slice a5 r.cells.length c5] 28)
  have RX := RB.new (W := w5) (r := r) (s := .slice a5 r.cells.length c5) Q0b.out
  have B6 := B5.out.trans (BA.mono B5.out.size)
  have O1 := Ow.below O0.out BA
  clear x0 x1 x2 sX
  obtain ⟨W1, hW1⟩ : ∃ W, W = w5.alloc (.cells #[.int .i64 r.wide, .int .i64 r.tall, .slice a5 r.cells.length c5] 28) := ⟨_, rfl⟩
  have hs5 : w5.heap.size < W1.heap.size := by rw [hW1]; simp
  rw [← hW1] at RX B6 O1
  have HK : Hid (∀ k, (Value.slice a5 r.cells.length c5).ownBlock = some k → w4.heap.size ≤ k ∧ k < W1.heap.size) := Lib.hid (fun k hk => by have := O0.out.base hk; omega)
  have RX := Lib.hid RX
  have B6 := Lib.hid B6
  have O1 := Lib.hid O1
  clear Q0b BA B5 O0
  obtain ⟨y0, y1, y2⟩ := RX.out.c3
  have sY := RX.out.lt
  rw [hW1] at y0 y1 y2 sY
  go_wp2_with (fail)
  rw [← hW1]
  rw [← hW1] at y0 y1 y2 sY
  clear hW1 hs5
  generalize w5.heap.size = X1 at *
  refine (SignMatrix_mo _ r _ RX.out.v M HM.out).mono ?_
  rintro e w6 ⟨ga, gc, vs, rfl, hmo⟩
  have MO := Lib.hid hmo
  have hb := hmo.bel
  have RX := Lib.hid (RX.out.on hb)
  have O1 := Lib.hid (Ow.below O1.out hb)
  have B7 := Lib.hid (B6.out.trans (hb.mono B6.out.size))
  clear hb hmo y0 y1 y2 sY
  go_wp2_with (fail)
  refine (eqIntSS_same _ _ M _ MO.out.ll (L0.out.below B7.out)).mono ?_
  rintro e w7 ⟨rfl, hb⟩
  have MO := Lib.hid (MO.out.below hb)
  have RX := Lib.hid (RX.out.on hb)
  have O1 := Lib.hid (Ow.below O1.out hb)
  have B8 := Lib.hid (B7.out.trans (hb.mono B7.out.size))
  clear hb B7
  obtain ⟨x0, x1, x2⟩ := (R.out.on B8.out).c3
  have sX := (R.out.on B8.out).lt
  obtain ⟨y0, y1, y2⟩ := RX.out.c3
  have sY := RX.out.lt
  go_wp2_with (fail)
  go_region_held3 (fun w' => w'.cell? ⟨w.heap.size, 0, none⟩ = some (.int .i64 r.wide) ∧ w'.cell? ⟨w.heap.size, 1, none⟩ = some (.int .i64 r.tall) ∧ w'.cell? ⟨w.heap.size, 2, none⟩ = some (.slice a0 r.cells.length cap0) ∧ w'.cell? ⟨X1, 0, none⟩ = some (.int .i64 r.wide) ∧ w'.cell? ⟨X1, 1, none⟩ = some (.int .i64 r.tall) ∧ w'.cell? ⟨X1, 2, none⟩ = some (.slice a5 r.cells.length c5))
    (first | go_keep | assumption | exact ⟨(cell_behind BY sX).trans x0, (cell_behind BY sX).trans x1, (cell_behind BY sX).trans x2, (cell_behind BY sY).trans y0, (cell_behind BY sY).trans y1, (cell_behind BY sY).trans y2⟩ | exact ⟨(cell_behind BZ sX).trans x0, (cell_behind BZ sX).trans x1, (cell_behind BZ sX).trans x2, (cell_behind BZ sY).trans y0, (cell_behind BZ sY).trans y1, (cell_behind BZ sY).trans y2⟩)
    (first | (go_at_call 12; refine (toRegion_any _ r _ ((R.out.on B8.out).on (Below.refl _ _).drew).v hrl).mono ?_; rintro e w8 ⟨a7, c7, rfl, ho4, hb4⟩; (have BY : Below w7.heap.size w7 w8 := (Below.refl _ _).drew.trans hb4); have Q4 := Lib.hid (RetRX.regV ho4); clear ho4 hb4) | (go_at_call 15; refine (eqRegion_same _ _ r _ (RX.out.on BY).v Q4.out).mono ?_; rintro e w9 ⟨rfl, hb5⟩; (have BZ : Below w7.heap.size w7 w9 := BY.trans (hb5.mono BY.size)); clear hb5))
  have MO := Lib.hid (MO.out.below BZ)
  have RX := Lib.hid (RX.out.on BZ)
  have O1 := Lib.hid (Ow.below O1.out BZ)
  clear BY BZ Q4 B8 x0 x1 x2 sX y0 y1 y2 sY
  obtain ⟨y0, y1, y2⟩ := RX.out.c3
  go_wp2_with (fail)
  refine (markRegion_any r a5 r.cells.length c5 1 _ w4.heap.size O1.out hrl (by omega)).mono ?_
  rintro e w10 ⟨rfl, hg⟩
  have MO := Lib.hid (MO.out.old hg (grown_below B6.out none) (fun k hk => HK.out k hk))
  have hneg : ¬ 1 + (r.cells.length : Int) < 0 := by omega
  clear hg O1 RX y0 y1 y2 B6 HK
  go_wp2_with (fail)
  refine (eqIntSS_same _ _ M _ MO.out.ll (L0.out.below MO.out.bel)).mono ?_
  rintro e w11 ⟨rfl, hb⟩
  have MO := Lib.hid (MO.out.below hb)
  clear hb
  go_wp2_with (fail)
  refine (markIntSS_any _ vs M 1 _ _ MO.out (by have := HDIM.out.1; omega) (fun i hi => by have := HDIM.out.2 i hi; omega) (by omega)).mono ?_
  rintro e w12 ⟨rfl, hmo⟩
  have MO := Lib.hid hmo
  rw [HT.out]
  clear hmo
  go_wp2_with (fail)
  refine (heldIntSS_any _ M 1 _ MO.out.ll (by have := HDIM.out.1; omega) (fun i hi => by have := HDIM.out.2 i hi; omega) (by omega) T HT.out).mono ?_
  rintro e w13 ⟨rfl, hb⟩
  have MO := Lib.hid (MO.out.below hb)
  clear hb
  obtain ⟨x0, x1, x2⟩ := (R.out.on MO.out.bel).c3
  go_wp2_with (fail)
  refine (toRegion_any _ r _ (R.out.on MO.out.bel).v hrl).mono ?_
  rintro e w14 ⟨a9, c9, rfl, ho, hb⟩
  have MO := Lib.hid (MO.out.below hb)
  have Q0 := Lib.hid (RetRX.regV ho)
  clear ho hb x0 x1 x2
  go_wp2_with (fail)
  refine (SignMatrix_mo _ r _ Q0.out M HM.out).mono ?_
  rintro e w15 ⟨ha, hc, vs2, rfl, hmo⟩
  have MO := Lib.hid (MO.out.below hmo.bel)
  have LH := Lib.hid hmo.ll
  clear hmo Q0
  go_wp2_with (fail)
  refine (eqIntSS_same _ _ M _ LH.out (L0.out.below MO.out.bel)).mono ?_
  rintro e w16 ⟨rfl, hb⟩
  have MO := Lib.hid (MO.out.below hb)
  clear hb LH
  go_wp2_with (fail)
  refine (heldIntSS_any _ M 1 _ MO.out.ll (by have := HDIM.out.1; omega) (fun i hi => by have := HDIM.out.2 i hi; omega) (by omega) T HT.out).mono ?_
  rintro e w17 ⟨rfl, hb⟩
  have BE := Lib.hid (BW.out.trans ((MO.out.below hb).bel.mono BW.out.size))
  clear hb
  go_wp2
  go_ret
  exact ⟨rfl, BE.out⟩
end Go.Proofs.Ytdggcfpkbmdllaa
