/- The law FnTilingsDet: its walk. -/
import Derived.Test.YtklifibiadiinaaZf
import Derived.Test.YtklifibiadiinaaVDrawE
import Derived.Test.YtklifibiadiinaaZd
import Derived.Test.YtklifibiadiinaaVWtd
import Derived.Test.YtklifibiadiinaaVWcntB
import Derived.Test.YtklifibiadiinaaVWholes
import Derived.Test.YtklifibiadiinaaVWholesB
set_option linter.unusedVariables false
namespace Go.Proofs.Ytklifibiadiinaa
open Go.RowKit Domi

theorem many9_is (v : Value) (r : Reg) (w : World) (h : RegV w v r) (n : Int) (hn : manyT r = n) : Calls Try.prog 33 #[v] w (Ret (.int .i64 n) w) := by rw [← hn]; exact TilingsMany_any v r w h
theorem holes9_is (v : Value) (r : Reg) (w : World) (h : RegV w v r) (n : Int) (hn : r.holesR = n) : Calls Try.prog 34 #[v] w (Ret (.int .i64 n) w) := by rw [← hn]; exact HolesMany_any v r w h
theorem td_neg (r : Reg) : tdR r = -1 ∧ r.valid = false ∨ 0 ≤ tdR r ∧ r.valid = true := by
  cases hv : r.valid
  · exact .inl ⟨tdR_no hv, rfl⟩
  · exact .inr ⟨(td_law hv).1, rfl⟩
set_option maxRecDepth 100000 in
set_option maxHeartbeats 4000000 in
theorem FnTilingsDet_walk (v : Value) (ys : List Int) (w : World) (h : Yl w v ys) (hr : ∀ i, i < ys.length → 0 ≤ ys.getD i 0 ∧ ys.getD i 0 ≤ 255) :
    Calls Try.prog 7 #[v] w (Ret (.bool true) w) := by
  have H := Lib.hid h
  have Hr := Lib.hid hr
  obtain ⟨a0, cap0, rfl, hlc0, hcm0, _⟩ := h.opened
  clear h hr
  by_cases hlen : (1048576 : Int) < (ys.length : Int)
  · go_enter Try.func7, Try.ntmps7
    go_wp2
    go_ret
    exact ⟨rfl, Below.refl _ _⟩
  go_enter Try.func7, Try.ntmps7
  go_wp2_with (fail)
  refine (DrawTilingsDet_any _ ys w H.out Hr.out).mono ?_
  rintro e w1 ⟨v1, r, rfl, hv1, hsm, hb1⟩
  obtain ⟨a1, cap1, rfl, hs1, _, _⟩ := hv1.opened
  have R := RB.new hs1
  obtain ⟨W, hW⟩ : ∃ W, W = w1.alloc (.cells #[.int .i64 r.wide, .int .i64 r.tall, .slice a1 r.cells.length cap1] 28) := ⟨_, rfl⟩
  rw [← hW] at R
  have R := Lib.hid R
  have BW := Lib.hid (show Below w.heap.size w W by rw [hW]; exact hb1.alloc hb1.size _)
  have hX : w1.heap.size < W.heap.size := by rw [hW]; simp
  clear hs1 hb1 hv1
  go_wp2_with (fail)
  rw [← hW]
  clear hW
  generalize w1.heap.size = X at *
  clear hX
  have HC := Lib.hid (td_neg r)
  obtain ⟨n, hn⟩ : ∃ n, tdR r = n := ⟨_, rfl⟩
  have HN := Lib.hid hn
  rw [hn] at HC
  have hnn : (n != n) = false := by simp
  clear hn
  obtain ⟨x0, x1, x2⟩ := R.out.c3
  go_wp2_with (fail)
  refine (TilingsDet_is _ r _ R.out.v n HN.out).mono ?_
  rintro e w2 ⟨rfl, hb⟩
  have BW := Lib.hid (BW.out.trans (hb.mono BW.out.size))
  have R := Lib.hid (R.out.on hb)
  clear hb x0 x1 x2
  obtain ⟨x0, x1, x2⟩ := R.out.c3
  go_wp2_with (fail)
  refine (sTilingsDet_is _ r _ R.out.v n HN.out).mono ?_
  rintro e w3 ⟨rfl, hb⟩
  have BW := Lib.hid (BW.out.trans (hb.mono BW.out.size))
  have R := Lib.hid (R.out.on hb)
  clear hb x0 x1 x2
  rcases HC.out with ⟨h1, h2⟩ | ⟨h0, h2⟩
  · clear HN HC
    subst h1
    go_wp2_with (fail)
    refine (alive_any _).mono ?_
    rintro e w5 ⟨rfl, hb⟩
    have BW := Lib.hid (BW.out.trans (hb.mono BW.out.size))
    clear hb
    go_wp2
    go_ret
    exact ⟨rfl, BW.out⟩
  · have h3 : ¬ n < 0 := by omega
    obtain ⟨m, hm⟩ : ∃ m, manyT r = m := ⟨_, rfl⟩
    obtain ⟨q, hq⟩ : ∃ q, r.holesR = q := ⟨_, rfl⟩
    have HM := Lib.hid hm
    have HQ := Lib.hid hq
    obtain ⟨_, l1, l2, l3⟩ := td_law h2
    obtain ⟨m0, m1⟩ := manyT_bd h2
    rw [HN.out, hm] at l1 l2 l3
    rw [hm] at m0 m1
    rw [← holesR_yes h2, hq] at l3
    clear hm hq HC
    have hmod : (m - n).tmod 2 = 0 := by rw [Int.tmod_eq_emod_of_nonneg (by omega)]; exact l2
    have hle : n ≤ m := l1
    have L3 := Lib.hid l3
    clear l1 l2 l3 h2
    obtain ⟨x0, x1, x2⟩ := R.out.c3
    go_wp2_with (fail)
    refine (many9_is _ r _ R.out.v m HM.out).mono ?_
    rintro e w4 ⟨rfl, hb⟩
    have BW := Lib.hid (BW.out.trans (hb.mono BW.out.size))
    have R := Lib.hid (R.out.on hb)
    clear hb x0 x1 x2
    obtain ⟨x0, x1, x2⟩ := R.out.c3
    go_wp2_with (fail)
    refine (holes9_is _ r _ R.out.v q HQ.out).mono ?_
    rintro e w5 ⟨rfl, hb⟩
    have BW := Lib.hid (BW.out.trans (hb.mono BW.out.size))
    clear hb x0 x1 x2 R
    by_cases hq0 : 0 < q
    · clear L3 HN HM HQ
      go_wp2
      go_ret
      exact ⟨rfl, BW.out⟩
    · have e := L3.out (by omega)
      subst e
      clear L3 HN HM HQ
      go_wp2
      go_ret
      exact ⟨rfl, BW.out⟩
end Go.Proofs.Ytklifibiadiinaa
