/- The law FnTilingsWith: its walk. -/
import Derived.Test.YtbjenmfoblniaaaVDrawWith
import Derived.Test.YtbjenmfoblniaaaVWsto
set_option linter.unusedVariables false
namespace Go.Proofs.Ytbjenmfoblniaaa
open Go.RowKit Domi

set_option maxRecDepth 100000 in
set_option maxHeartbeats 4000000 in
theorem FnTilingsWith_walk (v : Value) (ys : List Int) (w : World) (h : Yl w v ys) (hr : ∀ i, i < ys.length → 0 ≤ ys.getD i 0 ∧ ys.getD i 0 ≤ 255) :
    Calls Try.prog 6 #[v] w (Ret (.bool true) w) := by
  have H := Lib.hid h
  have Hr := Lib.hid hr
  obtain ⟨a0, cap0, rfl, hlc0, hcm0, _⟩ := h.opened
  clear h hr
  by_cases hlen : (1048576 : Int) < (ys.length : Int)
  · go_enter Try.func6, Try.ntmps6
    go_wp2
    go_ret
    exact ⟨rfl, Below.refl _ _⟩
  go_enter Try.func6, Try.ntmps6
  go_wp2_with (fail)
  refine (DrawTilingsWith_any _ ys w H.out Hr.out).mono ?_
  rintro e w1 ⟨s, r, c, way, rfl, hs, hsm, hc, hway, hb1⟩
  obtain ⟨a1, cap1, rfl, _, _, _⟩ := hs.opened
  have R := RB.new hs
  obtain ⟨W, hW⟩ : ∃ W, W = w1.alloc (.cells #[.int .i64 r.wide, .int .i64 r.tall, .slice a1 r.cells.length cap1] 29) := ⟨_, rfl⟩
  rw [← hW] at R
  have R := Lib.hid R
  have BW := Lib.hid (show Below w.heap.size w W by rw [hW]; exact hb1.alloc hb1.size _)
  have hX : w1.heap.size < W.heap.size := by rw [hW]; simp
  clear hs hb1
  go_wp2_with (fail)
  rw [← hW]
  clear hW
  generalize w1.heap.size = X at *
  clear hX
  obtain ⟨n, hn⟩ : ∃ n, withT r c way = n := ⟨_, rfl⟩
  have HI := fun (v : Value) (w : World) (h : RegV w v r) => TilingsWith_any v r c way w h
  have HS := fun (v : Value) (w : World) (h : RegV w v r) => sTilingsWith_any v r c way w h
  rw [hn] at HI HS
  have HI := Lib.hid HI
  have HS := Lib.hid HS
  have HN := Lib.hid hn
  have hnn : (n != n) = false := by simp
  clear hn
  obtain ⟨x0, x1, x2⟩ := R.out.c3
  have sX := R.out.lt
  go_wp2_with (fail)
  refine (HI.out _ _ R.out.v).mono ?_
  rintro e w2 ⟨rfl, hb⟩
  have BW := Lib.hid (BW.out.trans (hb.mono BW.out.size))
  have R := Lib.hid (R.out.on hb)
  clear hb x0 x1 x2 sX
  obtain ⟨x0, x1, x2⟩ := R.out.c3
  have sX := R.out.lt
  go_wp2_with (fail)
  refine (HS.out _ _ R.out.v).mono ?_
  rintro e w3 ⟨rfl, hb⟩
  have BW := Lib.hid (BW.out.trans (hb.mono BW.out.size))
  have R := Lib.hid (R.out.on hb)
  clear hb x0 x1 x2 sX
  cases hv : r.valid
  · have hn1 : n = -1 := by rw [← HN.out]; exact withT_no hv
    clear hv
    subst hn1
    go_wp2_with (fail)
    refine (alive_any _).mono ?_
    rintro e w4 ⟨rfl, hb⟩
    have BW := Lib.hid (BW.out.trans (hb.mono BW.out.size))
    clear hb
    go_wp2
    go_ret
    exact ⟨rfl, BW.out⟩
  · have HV := Lib.hid hv
    clear hv
    have hn0 : 0 ≤ n := by
      rw [← HN.out]; unfold withT; rw [if_pos HV.out]; split <;> omega
    obtain ⟨x0, x1, x2⟩ := R.out.c3
    have sX := R.out.lt
    go_wp2_with (fail)
    refine (iStepTo_any _ r c way _ R.out.v).mono ?_
    rintro e w4 ⟨rfl, hb⟩
    have BW := Lib.hid (BW.out.trans (hb.mono BW.out.size))
    have R := Lib.hid (R.out.on hb)
    clear hb x0 x1 x2 sX
    rcases Int.lt_or_le (stepTo r c way) 0 with hneg | hpos
    · have hn1 : n = 0 := by rw [← HN.out]; exact withT_zero HV.out (stepTo_neg HV.out hneg)
      generalize stepTo r c way = E at *
      subst hn1
      go_wp2
      go_ret
      exact ⟨rfl, BW.out⟩
    · obtain ⟨hc2, hst⟩ := stepTo_pos hpos
      have hw14 := stepI_way (r := r) (c := c) (way := way) (by rw [← hst]; exact hpos)
      have HIB : Hid (∀ (v : Value) (w : World), RegV w v r → Calls Try.prog 27 #[v, .int .i64 (stepTo r c way), .int .i64 (backI way)] w (Ret (.int .i64 n) w)) := Lib.hid fun v w h => by
        have := TilingsWith_any v r (stepTo r c way) (backI way) w h
        rw [hst, with_back HV.out hc2 (by rw [← hst]; exact hpos), HN.out] at this
        rw [hst]; exact this
      have HLE : Hid (n ≤ manyT r) := Lib.hid (by rw [← HN.out]; exact with_le HV.out c way)
      unfold backI at HIB
      clear hst hc2
      generalize stepTo r c way = E at *
      obtain ⟨x0, x1, x2⟩ := R.out.c3
      have sX := R.out.lt
      have hee : (n == n) = true := by simp
      go_wp2_with (fail)
      refine (HIB.out _ _ R.out.v).mono ?_
      rintro e w5 ⟨rfl, hb⟩
      have BW := Lib.hid (BW.out.trans (hb.mono BW.out.size))
      have R := Lib.hid (R.out.on hb)
      clear hb x0 x1 x2 sX
      obtain ⟨x0, x1, x2⟩ := R.out.c3
      have sX := R.out.lt
      go_wp2_with (fail)
      refine (TilingsMany_any _ r _ R.out.v).mono ?_
      rintro e w6 ⟨rfl, hb⟩
      have BW := Lib.hid (BW.out.trans (hb.mono BW.out.size))
      clear hb x0 x1 x2 sX
      have hle := HLE.out
      generalize manyT r = m at *
      go_wp2
      go_ret
      exact ⟨rfl, BW.out⟩
end Go.Proofs.Ytbjenmfoblniaaa
