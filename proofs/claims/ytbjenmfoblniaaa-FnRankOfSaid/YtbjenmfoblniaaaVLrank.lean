/- The law FnRankOf: its walk. -/
import Derived.Test.YtbjenmfoblniaaaVDrawT
import Derived.Test.YtbjenmfoblniaaaVWrankI
import Derived.Test.YtbjenmfoblniaaaVWcntB
import Derived.Test.YtbjenmfoblniaaaVSame
set_option linter.unusedVariables false
namespace Go.Proofs.Ytbjenmfoblniaaa
open Go.RowKit Domi

theorem tilOf_rank {r : Reg} {L : List Int} (h : tilingOk r L = true) : tilOf r (idxN (tilsR r) L : Nat) = (L, true) ∧ ((idxN (tilsR r) L : Nat) : Int) < manyT r := by
  have hv := (laidOk_iff.1 (tilingOk_iff.1 h).1).1
  have hm := mem_tilsR'.2 h
  have hl := idxN_lt hm
  refine ⟨?_, by rw [manyT_yes hv]; omega⟩
  rw [tilOf_yes hv (inB_iff.2 ⟨by omega, by omega⟩), Int.toNat_natCast, idxN_get hm]
set_option maxRecDepth 100000 in
set_option maxHeartbeats 4000000 in
theorem FnRankOf_walk (v : Value) (ys : List Int) (w : World) (h : Yl w v ys) (hr : ∀ i, i < ys.length → 0 ≤ ys.getD i 0 ∧ ys.getD i 0 ≤ 255) :
    Calls Try.prog 12 #[v] w (Ret (.bool true) w) := by
  have H := Lib.hid h
  have Hr := Lib.hid hr
  obtain ⟨a0, cap0, rfl, hlc0, hcm0, _⟩ := h.opened
  clear h hr
  by_cases hlen : (1048576 : Int) < (ys.length : Int)
  · go_enter Try.func12, Try.ntmps12
    go_wp2
    go_ret
    exact ⟨rfl, Below.refl _ _⟩
  go_enter Try.func12, Try.ntmps12
  go_wp2_with (fail)
  refine (DrawRankOf_any _ ys w H.out Hr.out).mono ?_
  rintro e w1 ⟨v1, u1, r, L, rfl, hv1, hu1, hsm, hl37, hb1⟩
  obtain ⟨a1, cap1, rfl, hs1, _, _⟩ := hv1.opened
  obtain ⟨ua, uc, rfl, hul, hum, _⟩ := hu1.opened
  have R := RB.new hs1
  have U := hu1.below (below_alloc w1 (.cells #[.int .i64 r.wide, .int .i64 r.tall, .slice a1 r.cells.length cap1] 29))
  obtain ⟨W, hW⟩ : ∃ W, W = w1.alloc (.cells #[.int .i64 r.wide, .int .i64 r.tall, .slice a1 r.cells.length cap1] 29) := ⟨_, rfl⟩
  rw [← hW] at R U
  have R := Lib.hid R
  have U := Lib.hid U
  have BW := Lib.hid (show Below w.heap.size w W by rw [hW]; exact hb1.alloc hb1.size _)
  have hX : w1.heap.size < W.heap.size := by rw [hW]; simp
  clear hs1 hb1 hv1 hu1
  go_wp2_with (fail)
  rw [← hW]
  clear hW
  generalize w1.heap.size = X at *
  clear hX
  obtain ⟨b, hb⟩ : ∃ b, rankR r L = b := ⟨_, rfl⟩
  have HB := Lib.hid hb
  have hbb : (b != b) = false := by simp
  clear hb
  obtain ⟨x0, x1, x2⟩ := R.out.c3
  go_wp2_with (fail)
  refine (RankOf_any _ _ r L _ R.out.v U.out b HB.out).mono ?_
  rintro e w2 ⟨rfl, hb⟩
  have BW := Lib.hid (BW.out.trans (hb.mono BW.out.size))
  have R := Lib.hid (R.out.on hb)
  have U := Lib.hid (Sl.below U.out hb)
  clear hb x0 x1 x2
  obtain ⟨x0, x1, x2⟩ := R.out.c3
  go_wp2_with (fail)
  refine (sRankOf_any _ _ r L _ R.out.v U.out b HB.out).mono ?_
  rintro e w3 ⟨rfl, hb⟩
  have BW := Lib.hid (BW.out.trans (hb.mono BW.out.size))
  have R := Lib.hid (R.out.on hb)
  have U := Lib.hid (Sl.below U.out hb)
  clear hb x0 x1 x2
  obtain ⟨x0, x1, x2⟩ := R.out.c3
  cases hk : tilingOk r L
  · have e1 : b = -1 := by rw [← HB.out, rankR_no hk]
    have HK := Lib.hid hk
    clear HB hk
    subst e1
    go_wp2_with (fail)
    refine (tilingOk2_is _ _ r L _ R.out.v U.out false HK.out).mono ?_
    rintro e w4 ⟨rfl, hb⟩
    have BW := Lib.hid (BW.out.trans (hb.mono BW.out.size))
    clear hb
    go_wp2_with (fail)
    refine (alive_any _).mono ?_
    rintro e w5 ⟨rfl, hb⟩
    have BW := Lib.hid (BW.out.trans (hb.mono BW.out.size))
    clear hb
    go_wp2
    go_ret
    exact ⟨rfl, BW.out⟩
  · obtain ⟨n, hn⟩ : ∃ n, idxN (tilsR r) L = n := ⟨_, rfl⟩
    have e1 : b = (n : Int) := by rw [← HB.out, rankR_yes hk, hn]
    have hq := tilOf_rank hk
    rw [hn] at hq
    have HQ := Lib.hid hq.1
    have HM := hq.2
    clear HB hk hn hq
    subst e1
    obtain ⟨M, hM⟩ : ∃ M, manyT r = M := ⟨_, rfl⟩
    rw [hM] at HM
    have HMY : Hid (∀ v w, RegV w v r → Calls Try.prog 19 #[v] w (Ret (.int .i64 M) w)) := Lib.hid fun v w h => by rw [← hM]; exact TilingsMany_any v r w h
    clear hM
    go_wp2_with (fail)
    refine (TilingOf_any _ r n _ R.out.v).mono ?_
    rw [HQ.out]
    rintro e w4 ⟨v4, rfl, hv4, hb⟩
    have BW := Lib.hid (BW.out.trans (hb.mono BW.out.size))
    have R := Lib.hid (R.out.on hb)
    have U := Lib.hid (Sl.below U.out hb)
    have V := Lib.hid hv4
    dsimp only
    clear hb hv4 x0 x1 x2
    obtain ⟨x0, x1, x2⟩ := R.out.c3
    go_wp2_with (fail)
    refine (sameInts_is _ _ L L _ V.out U.out true (by simp)).mono ?_
    rintro e w5 ⟨rfl, hb⟩
    have BW := Lib.hid (BW.out.trans (hb.mono BW.out.size))
    have R := Lib.hid (R.out.on hb)
    clear hb x0 x1 x2
    obtain ⟨x0, x1, x2⟩ := R.out.c3
    go_wp2_with (fail)
    refine (HMY.out _ _ R.out.v).mono ?_
    rintro e w6 ⟨rfl, hb⟩
    have BW := Lib.hid (BW.out.trans (hb.mono BW.out.size))
    clear hb
    go_wp2
    go_ret
    refine ⟨ret_bool ?_, BW.out⟩
    first | rfl | exact decide_eq_true HM | exact (decide_eq_true HM).symm
end Go.Proofs.Ytbjenmfoblniaaa
