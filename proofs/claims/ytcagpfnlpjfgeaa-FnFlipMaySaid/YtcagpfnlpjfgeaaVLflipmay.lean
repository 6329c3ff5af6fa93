/- The law FnFlipMay: its walk. -/
import Derived.Test.YtcagpfnlpjfgeaaVDrawFlip
import Derived.Test.YtcagpfnlpjfgeaaVWflipC
import Derived.Test.YtcagpfnlpjfgeaaVWflipS
import Derived.Test.YtcagpfnlpjfgeaaVLaw
import Derived.Test.YtcagpfnlpjfgeaaVWg
set_option linter.unusedVariables false
namespace Go.Proofs.Ytcagpfnlpjfgeaa
open Go.RowKit Domi

theorem flipOne_snd (r : Reg) (L : List Int) (c : Int) : (flipOne r L c).2 = flipMay r L c := by
  unfold flipOne flipMay; cases laidOk r L <;> rfl
theorem flipMay_back {r : Reg} {L : List Int} {c : Int} (h : flipMay r L c = true) : flipMay r (flipOne r L c).1 c = true := by
  unfold flipMay at h
  rw [Bool.and_eq_true] at h
  unfold flipOne flipMay
  rw [if_pos h.1]
  simp only
  rw [flip_ok h.1, flip_may h.1 h.2]; rfl
set_option maxRecDepth 100000 in
set_option maxHeartbeats 4000000 in
theorem FnFlipMay_walk (v : Value) (ys : List Int) (w : World) (h : Yl w v ys) (hr : ∀ i, i < ys.length → 0 ≤ ys.getD i 0 ∧ ys.getD i 0 ≤ 255) :
    Calls Try.prog 14 #[v] w (Ret (.bool true) w) := by
  have H := Lib.hid h
  have Hr := Lib.hid hr
  obtain ⟨a0, cap0, rfl, hlc0, hcm0, _⟩ := h.opened
  clear h hr
  by_cases hlen : (1048576 : Int) < (ys.length : Int)
  · go_enter Try.func14, Try.ntmps14
    go_wp2
    go_ret
    exact ⟨rfl, Below.refl _ _⟩
  go_enter Try.func14, Try.ntmps14
  go_wp2_with (fail)
  refine (DrawFlipMay_any _ ys w H.out Hr.out).mono ?_
  rintro e w1 ⟨v1, u1, r, L, c, rfl, hv1, hu1, hsm, hl37, hcb, hb1⟩
  obtain ⟨a1, cap1, rfl, hs1, _, _⟩ := hv1.opened
  obtain ⟨ua, uc, rfl, hul, hum, _⟩ := hu1.opened
  have R := RB.new hs1
  have U := hu1.below (below_alloc w1 (.cells #[.int .i64 r.wide, .int .i64 r.tall, .slice a1 r.cells.length cap1] 25))
  obtain ⟨W, hW⟩ : ∃ W, W = w1.alloc (.cells #[.int .i64 r.wide, .int .i64 r.tall, .slice a1 r.cells.length cap1] 25) := ⟨_, rfl⟩
  rw [← hW] at R U
  have R := Lib.hid R
  have U := Lib.hid U
  have BW := Lib.hid (show Below w.heap.size w W by rw [hW]; exact hb1.alloc hb1.size _)
  have hX : w1.heap.size < W.heap.size := by rw [hW]; simp
  clear hs1 hb1 hv1 hu1
  go_wp2_with (fail)
  rw [← hW]
  clear hW
  generalize w1.heap.size = X at *
  clear hX
  have hc : -9223372036854775808 ≤ c ∧ c ≤ 9223372036854775807 := by omega
  obtain ⟨b, hb⟩ : ∃ b, flipMay r L c = b := ⟨_, rfl⟩
  have HB := Lib.hid hb
  have H2 := Lib.hid ((flipOne_snd r L c).trans hb)
  have H3 : Hid (b = true → flipMay r (flipOne r L c).1 c = true) := Lib.hid fun e => flipMay_back (hb.trans e)
  obtain ⟨⟨G, b2⟩, hq⟩ : ∃ q, flipOne r L c = q := ⟨_, rfl⟩
  rw [hq] at H2 H3
  have HO := Lib.hid (fun (v u : Value) (w : World) (h : RegV w v r) (g : Il w u L) => FlipOne_any v u r L c w h g hc)
  rw [hq] at HO
  obtain rfl : b2 = b := H2.out
  have hbb : (b2 != b2) = false := by simp
  have hbe : (b2 == b2) = true := by simp
  clear hb hq H2
  obtain ⟨x0, x1, x2⟩ := R.out.c3
  go_wp2_with (fail)
  refine (FlipMay_any _ _ r L c _ R.out.v U.out hc b2 HB.out).mono ?_
  rintro e w2 ⟨rfl, hb⟩
  have BW := Lib.hid (BW.out.trans (hb.mono BW.out.size))
  have R := Lib.hid (R.out.on hb)
  have U := Lib.hid (Sl.below U.out hb)
  clear hb x0 x1 x2
  obtain ⟨x0, x1, x2⟩ := R.out.c3
  go_wp2_with (fail)
  refine (sFlipMay_any _ _ r L c _ R.out.v U.out hc b2 HB.out).mono ?_
  rintro e w3 ⟨rfl, hb⟩
  have BW := Lib.hid (BW.out.trans (hb.mono BW.out.size))
  have R := Lib.hid (R.out.on hb)
  have U := Lib.hid (Sl.below U.out hb)
  clear hb x0 x1 x2
  obtain ⟨x0, x1, x2⟩ := R.out.c3
  go_wp2_with (fail)
  refine (HO.out _ _ _ R.out.v U.out).mono ?_
  rintro e w4 ⟨v4, rfl, ho, hb⟩
  have BW := Lib.hid (BW.out.trans (hb.mono BW.out.size))
  have R := Lib.hid (R.out.on hb)
  have HG := Lib.hid ho.il
  dsimp only
  clear hb ho x0 x1 x2
  cases b2
  · go_wp2_with (fail)
    refine (alive_any _).mono ?_
    rintro e w5 ⟨rfl, hb⟩
    have BW := Lib.hid (BW.out.trans (hb.mono BW.out.size))
    clear hb
    go_wp2
    go_ret
    exact ⟨rfl, BW.out⟩
  · obtain ⟨x0, x1, x2⟩ := R.out.c3
    go_wp2_with (fail)
    refine (FlipMay_any _ _ r G c _ R.out.v HG.out hc true (H3.out (by first | trivial | rfl))).mono ?_
    rintro e w5 ⟨rfl, hb⟩
    have BW := Lib.hid (BW.out.trans (hb.mono BW.out.size))
    clear hb x0 x1 x2
    go_wp2_with (fail)
    refine (alive_any _).mono ?_
    rintro e w6 ⟨rfl, hb⟩
    have BW := Lib.hid (BW.out.trans (hb.mono BW.out.size))
    clear hb
    go_wp2
    go_ret
    exact ⟨rfl, BW.out⟩
end Go.Proofs.Ytcagpfnlpjfgeaa
