/- The law FnSimple: its walk. -/
import Derived.Test.YtcagpfnlpjfgeaaVWe
import Derived.Test.YtcagpfnlpjfgeaaVDrawE
import Derived.Test.YtcagpfnlpjfgeaaVDrawS
import Derived.Test.YtcagpfnlpjfgeaaVWsimT
import Derived.Test.YtcagpfnlpjfgeaaVWpm
import Derived.Test.YtcagpfnlpjfgeaaVWholes
import Derived.Test.YtcagpfnlpjfgeaaVWholesB
set_option linter.unusedVariables false
namespace Go.Proofs.Ytcagpfnlpjfgeaa
open Go.RowKit Domi

theorem pmany4_is (v : Value) (r : Reg) (w : World) (h : RegV w v r) (n : Int) (hn : r.pmany = n) : Calls Try.prog 41 #[v] w (Ret (.int .i64 n) w) := by rw [← hn]; exact PartsMany_any v r w h
theorem holes4_is (v : Value) (r : Reg) (w : World) (h : RegV w v r) (n : Int) (hn : r.holesR = n) : Calls Try.prog 42 #[v] w (Ret (.int .i64 n) w) := by rw [← hn]; exact HolesMany_any v r w h
set_option maxRecDepth 100000 in
set_option maxHeartbeats 4000000 in
theorem FnSimple_walk (v : Value) (ys : List Int) (w : World) (h : Yl w v ys) (hr : ∀ i, i < ys.length → 0 ≤ ys.getD i 0 ∧ ys.getD i 0 ≤ 255) :
    Calls Try.prog 7 #[v] w (Ret (.bool true) w) := by
  have H := Lib.hid h
  have Hr := Lib.hid hr
  obtain ⟨a0, cap0, rfl, hlc0, hcm0, _⟩ := h.opened
  clear h hr
  by_cases hlen : (1048576 : Int) < (ys.length : Int)
  · go_enter Try.func7, Try.ntmps7
    go_wp2
    go_ret
    exact ⟨rfl, Below.refl _ _⟩
  go_enter Try.func7, Try.ntmps7
  go_wp2_with (fail)
  refine (DrawSimple_any _ ys w H.out Hr.out).mono ?_
  rintro e w1 ⟨v1, r, rfl, hv1, hsm, hb1⟩
  obtain ⟨a1, cap1, rfl, hs1, _, _⟩ := hv1.opened
  have R := RB.new hs1
  obtain ⟨W, hW⟩ : ∃ W, W = w1.alloc (.cells #[.int .i64 r.wide, .int .i64 r.tall, .slice a1 r.cells.length cap1] 25) := ⟨_, rfl⟩
  rw [← hW] at R
  have R := Lib.hid R
  have BW := Lib.hid (show Below w.heap.size w W by rw [hW]; exact hb1.alloc hb1.size _)
  have hX : w1.heap.size < W.heap.size := by rw [hW]; simp
  clear hs1 hb1 hv1
  go_wp2_with (fail)
  rw [← hW]
  clear hW
  generalize w1.heap.size = X at *
  clear hX
  obtain ⟨b, hb0⟩ : ∃ b, r.simB = b := ⟨_, rfl⟩
  have HI := Lib.hid (fun (v : Value) (w : World) (h : RegV w v r) => Simple_is v r w h b hb0)
  have HS := Lib.hid (fun (v : Value) (w : World) (h : RegV w v r) => sSimple_is v r w h b hb0)
  have HT := Lib.hid (fun (v : Value) (w : World) (h : RegV w v r.turnR) => Simple_is v r.turnR w h b (sim_turn.trans hb0))
  have HF := Lib.hid (fun (v : Value) (w : World) (h : RegV w v r.flipR) => Simple_is v r.flipR w h b (sim_mir.trans hb0))
  have HB := Lib.hid hb0
  have hnn : (b != b) = false := by simp
  have hee : (b == b) = true := by simp
  clear hb0
  obtain ⟨x0, x1, x2⟩ := R.out.c3
  go_wp2_with (fail)
  refine (HI.out _ _ R.out.v).mono ?_
  rintro e w2 ⟨rfl, hb⟩
  have BW := Lib.hid (BW.out.trans (hb.mono BW.out.size))
  have R := Lib.hid (R.out.on hb)
  clear hb x0 x1 x2
  obtain ⟨x0, x1, x2⟩ := R.out.c3
  go_wp2_with (fail)
  refine (HS.out _ _ R.out.v).mono ?_
  rintro e w3 ⟨rfl, hb⟩
  have BW := Lib.hid (BW.out.trans (hb.mono BW.out.size))
  have R := Lib.hid (R.out.on hb)
  clear hb x0 x1 x2 HI HS
  obtain ⟨x0, x1, x2⟩ := R.out.c3
  have sX := R.out.lt
  go_wp2_with (fail)
  cases b
  · clear HB
    obtain ⟨x0, x1, x2⟩ := R.out.c3
    go_wp2_with (fail)
    refine (RegionTurn_any _ r _ R.out.v).mono ?_
    rintro e w4 ⟨m1, rfl, hm1, hb⟩
    have BW := Lib.hid (BW.out.trans (hb.mono BW.out.size))
    have R := Lib.hid (R.out.on hb)
    have V := Lib.hid hm1
    clear hb hm1 x0 x1 x2
    go_wp2_with (fail)
    refine (HT.out _ _ V.out).mono ?_
    rintro e w5 ⟨rfl, hb⟩
    have BW := Lib.hid (BW.out.trans (hb.mono BW.out.size))
    have R := Lib.hid (R.out.on hb)
    clear hb V
    obtain ⟨x0, x1, x2⟩ := R.out.c3
    go_wp2_with (fail)
    refine (RegionFlip_any _ r _ R.out.v).mono ?_
    rintro e w6 ⟨m1, rfl, hm1, hb⟩
    have BW := Lib.hid (BW.out.trans (hb.mono BW.out.size))
    have R := Lib.hid (R.out.on hb)
    have V := Lib.hid hm1
    clear hb hm1 x0 x1 x2
    go_wp2_with (fail)
    refine (HF.out _ _ V.out).mono ?_
    rintro e w7 ⟨rfl, hb⟩
    have BW := Lib.hid (BW.out.trans (hb.mono BW.out.size))
    have R := Lib.hid (R.out.on hb)
    clear hb V
    go_wp2_with (fail)
    refine (alive_any _).mono ?_
    rintro e w9 ⟨rfl, hb⟩
    have BW := Lib.hid (BW.out.trans (hb.mono BW.out.size))
    clear hb
    go_wp2
    go_ret
    exact ⟨rfl, BW.out⟩
  · obtain ⟨hv, hp, hh⟩ := sim_holes HB.out
    have HP := Lib.hid hp
    have HH := Lib.hid hh
    clear hv hp hh HB
    obtain ⟨x0, x1, x2⟩ := R.out.c3
    go_wp2_with (fail)
    refine (RegionTurn_any _ r _ R.out.v).mono ?_
    rintro e w4 ⟨m1, rfl, hm1, hb⟩
    have BW := Lib.hid (BW.out.trans (hb.mono BW.out.size))
    have R := Lib.hid (R.out.on hb)
    have V := Lib.hid hm1
    clear hb hm1 x0 x1 x2
    go_wp2_with (fail)
    refine (HT.out _ _ V.out).mono ?_
    rintro e w5 ⟨rfl, hb⟩
    have BW := Lib.hid (BW.out.trans (hb.mono BW.out.size))
    have R := Lib.hid (R.out.on hb)
    clear hb V
    obtain ⟨x0, x1, x2⟩ := R.out.c3
    go_wp2_with (fail)
    refine (RegionFlip_any _ r _ R.out.v).mono ?_
    rintro e w6 ⟨m1, rfl, hm1, hb⟩
    have BW := Lib.hid (BW.out.trans (hb.mono BW.out.size))
    have R := Lib.hid (R.out.on hb)
    have V := Lib.hid hm1
    clear hb hm1 x0 x1 x2
    go_wp2_with (fail)
    refine (HF.out _ _ V.out).mono ?_
    rintro e w7 ⟨rfl, hb⟩
    have BW := Lib.hid (BW.out.trans (hb.mono BW.out.size))
    have R := Lib.hid (R.out.on hb)
    clear hb V
    obtain ⟨x0, x1, x2⟩ := R.out.c3
    go_wp2_with (fail)
    refine (pmany4_is _ r _ R.out.v 1 HP.out).mono ?_
    rintro e w8 ⟨rfl, hb⟩
    have BW := Lib.hid (BW.out.trans (hb.mono BW.out.size))
    have R := Lib.hid (R.out.on hb)
    clear hb x0 x1 x2
    obtain ⟨x0, x1, x2⟩ := R.out.c3
    go_wp2_with (fail)
    refine (holes4_is _ r _ R.out.v 0 HH.out).mono ?_
    rintro e w10 ⟨rfl, hb⟩
    have BW := Lib.hid (BW.out.trans (hb.mono BW.out.size))
    clear hb x0 x1 x2
    go_wp2_with (fail)
    refine (alive_any _).mono ?_
    rintro e w9 ⟨rfl, hb⟩
    have BW := Lib.hid (BW.out.trans (hb.mono BW.out.size))
    clear hb
    go_wp2
    go_ret
    exact ⟨rfl, BW.out⟩
end Go.Proofs.Ytcagpfnlpjfgeaa
