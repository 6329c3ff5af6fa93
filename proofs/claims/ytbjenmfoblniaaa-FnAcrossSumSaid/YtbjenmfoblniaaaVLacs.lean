/- The law FnAcrossSum: its walk. -/
import Derived.Test.YtbjenmfoblniaaaVDrawAc
import Derived.Test.YtbjenmfoblniaaaVWacmT
import Derived.Test.YtbjenmfoblniaaaVWacmI
set_option linter.unusedVariables false
namespace Go.Proofs.Ytbjenmfoblniaaa
open Go.RowKit Domi

theorem tils9_is (v : Value) (r : Reg) (w : World) (h : RegV w v r) (n : Int) (hn : manyT r = n) : Calls Try.prog 19 #[v] w (Ret (.int .i64 n) w) := by rw [← hn]; exact TilingsMany_any v r w h
set_option maxRecDepth 100000 in
set_option maxHeartbeats 4000000 in
theorem FnAcrossSum_walk (v : Value) (ys : List Int) (w : World) (h : Yl w v ys) (hr : ∀ i, i < ys.length → 0 ≤ ys.getD i 0 ∧ ys.getD i 0 ≤ 255) :
    Calls Try.prog 10 #[v] w (Ret (.bool true) w) := by
  have H := Lib.hid h
  have Hr := Lib.hid hr
  obtain ⟨a0, cap0, rfl, hlc0, hcm0, _⟩ := h.opened
  clear h hr
  by_cases hlen : (1048576 : Int) < (ys.length : Int)
  · go_enter Try.func10, Try.ntmps10
    go_wp2
    go_ret
    exact ⟨rfl, Below.refl _ _⟩
  go_enter Try.func10, Try.ntmps10
  go_wp2_with (fail)
  refine (DrawAcrossSum_any _ ys w H.out Hr.out).mono ?_
  rintro e w1 ⟨s1, r, c, rfl, hs1, hsm, hcb, hb1⟩
  obtain ⟨a1, cap1, rfl, hlc1, hcm1, _⟩ := hs1.opened
  have R := RB.new hs1
  obtain ⟨W, hW⟩ : ∃ W, W = w1.alloc (.cells #[.int .i64 r.wide, .int .i64 r.tall, .slice a1 r.cells.length cap1] 29) := ⟨_, rfl⟩
  rw [← hW] at R
  have R := Lib.hid R
  have BW := Lib.hid (show Below w.heap.size w W by rw [hW]; exact hb1.alloc hb1.size _)
  have hX : w1.heap.size < W.heap.size := by rw [hW]; simp
  clear hs1 hb1
  go_wp2_with (fail)
  rw [← hW]
  clear hW
  generalize w1.heap.size = X at *
  clear hX
  obtain ⟨n, hn⟩ : ∃ n, acSumR r c = n := ⟨_, rfl⟩
  have HI := Lib.hid (fun (v : Value) (w : World) (h : RegV w v r) => AcrossSum_any v r c w h n hn)
  have HS := Lib.hid (fun (v : Value) (w : World) (h : RegV w v r) => sAcrossSum_is v r c w h n hn)
  have HNN : Hid (n < 0 ∧ n = -1 ∨ 0 ≤ n ∧ manyT r = n) := Lib.hid (by
    cases hv : r.valid
    · rw [acSumR_no1 hv] at hn; subst hn; exact .inl ⟨by decide, rfl⟩
    · cases hc : inB c 1 (r.wide - 1)
      · rw [acSumR_no2 hc] at hn; subst hn; exact .inl ⟨by decide, rfl⟩
      · rw [acSumR_yes hv hc] at hn; exact .inr ⟨by rw [← hn]; exact (manyT_bd hv).1, hn⟩)
  have hnn : (n != n) = false := by simp
  have hee : (n == n) = true := by simp
  clear hn
  obtain ⟨x0, x1, x2⟩ := R.out.c3
  go_wp2_with (fail)
  refine (HI.out _ _ R.out.v).mono ?_
  rintro e w2 ⟨rfl, hb⟩
  have BW := Lib.hid (BW.out.trans (hb.mono BW.out.size))
  have R := Lib.hid (R.out.on hb)
  clear hb x0 x1 x2
  obtain ⟨x0, x1, x2⟩ := R.out.c3
  go_wp2_with (fail)
  refine (HS.out _ _ R.out.v).mono ?_
  rintro e w3 ⟨rfl, hb⟩
  have BW := Lib.hid (BW.out.trans (hb.mono BW.out.size))
  have R := Lib.hid (R.out.on hb)
  clear hb x0 x1 x2 HI HS
  rcases HNN.out with ⟨h1, h2⟩ | ⟨h1, h2⟩
  · subst h2
    go_wp2_with (fail)
    refine (alive_any _).mono ?_
    rintro e w5 ⟨rfl, hb⟩
    have BW := Lib.hid (BW.out.trans (hb.mono BW.out.size))
    clear hb
    go_wp2
    go_ret
    exact ⟨rfl, BW.out⟩
  · have HT := Lib.hid h2
    have h3 : ¬ n < 0 := by omega
    clear h2
    obtain ⟨x0, x1, x2⟩ := R.out.c3
    go_wp2_with (fail)
    refine (tils9_is _ r _ R.out.v n HT.out).mono ?_
    rintro e w5 ⟨rfl, hb⟩
    have BW := Lib.hid (BW.out.trans (hb.mono BW.out.size))
    clear hb x0 x1 x2
    go_wp2
    go_ret
    exact ⟨rfl, BW.out⟩
end Go.Proofs.Ytbjenmfoblniaaa
