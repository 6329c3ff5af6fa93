/- The law FnPartsProduct: its walk. -/
import Derived.Test.YtbjenmfoblniaaaVDrawE
import Derived.Test.YtbjenmfoblniaaaVWprod
import Derived.Test.YtbjenmfoblniaaaVWd
import Derived.Test.YtbjenmfoblniaaaVLaw
set_option linter.unusedVariables false
namespace Go.Proofs.Ytbjenmfoblniaaa
open Go.RowKit Domi

theorem prod_cells {r : Reg} (hv : r.valid = true) (h : cnt r.cells = 0) : prodR r = 1 := by
  rw [prodR_is]
  refine manyT_none hv fun k => ?_
  cases e : r.f k
  · rfl
  · have h1 := num_cnt r
    rw [h] at h1
    have := num_lt (n := r.cells.length) (Q := fun _ => False) (R := fun k => r.f k = true) (fun _ _ h => h.elim) (f_lt e) (fun h => h) e
    omega
set_option maxRecDepth 100000 in
set_option maxHeartbeats 4000000 in
theorem FnPartsProduct_walk (v : Value) (ys : List Int) (w : World) (h : Yl w v ys) (hr : ∀ i, i < ys.length → 0 ≤ ys.getD i 0 ∧ ys.getD i 0 ≤ 255) :
    Calls Try.prog 9 #[v] w (Ret (.bool true) w) := by
  have H := Lib.hid h
  have Hr := Lib.hid hr
  obtain ⟨a0, cap0, rfl, hlc0, hcm0, _⟩ := h.opened
  clear h hr
  by_cases hlen : (1048576 : Int) < (ys.length : Int)
  · go_enter Try.func9, Try.ntmps9
    go_wp2
    go_ret
    exact ⟨rfl, Below.refl _ _⟩
  go_enter Try.func9, Try.ntmps9
  go_wp2_with (fail)
  refine (DrawPartsProduct_any _ ys w H.out Hr.out).mono ?_
  rintro e w1 ⟨v1, r, rfl, hv1, hsm, hb1⟩
  obtain ⟨a1, cap1, rfl, hs1, _, _⟩ := hv1.opened
  have R := RB.new hs1
  obtain ⟨W, hW⟩ : ∃ W, W = w1.alloc (.cells #[.int .i64 r.wide, .int .i64 r.tall, .slice a1 r.cells.length cap1] 29) := ⟨_, rfl⟩
  rw [← hW] at R
  have R := Lib.hid R
  have BW := Lib.hid (show Below w.heap.size w W by rw [hW]; exact hb1.alloc hb1.size _)
  have hX : w1.heap.size < W.heap.size := by rw [hW]; simp
  clear hs1 hb1 hv1
  go_wp2_with (fail)
  rw [← hW]
  clear hW
  generalize w1.heap.size = X at *
  clear hX
  obtain ⟨n, hn⟩ : ∃ n, prodR r = n := ⟨_, rfl⟩
  have HI := fun (v : Value) (w : World) (h : RegV w v r) => PartsProduct_any v r w h
  have HS := fun (v : Value) (w : World) (h : RegV w v r) => sPartsProduct_any v r w h
  have HM := fun (v : Value) (w : World) (h : RegV w v r) => TilingsMany_any v r w h
  rw [← prodR_is] at HM
  rw [hn] at HI HS HM
  have HI := Lib.hid HI
  have HS := Lib.hid HS
  have HM := Lib.hid HM
  have HN := Lib.hid hn
  have hnn : (n != n) = false := by simp
  have hee : (n == n) = true := by simp
  clear hn
  obtain ⟨x0, x1, x2⟩ := R.out.c3
  have sX := R.out.lt
  go_wp2_with (fail)
  refine (HI.out _ _ R.out.v).mono ?_
  rintro e w2 ⟨rfl, hb⟩
  have BW := Lib.hid (BW.out.trans (hb.mono BW.out.size))
  have R := Lib.hid (R.out.on hb)
  clear hb
  clear x0 x1 x2 sX
  obtain ⟨x0, x1, x2⟩ := R.out.c3
  have sX := R.out.lt
  go_wp2_with (fail)
  refine (HS.out _ _ R.out.v).mono ?_
  rintro e w3 ⟨rfl, hb⟩
  have BW := Lib.hid (BW.out.trans (hb.mono BW.out.size))
  have R := Lib.hid (R.out.on hb)
  clear hb
  clear x0 x1 x2 sX
  cases hv : r.valid
  · have hn1 : n = -1 := by rw [← HN.out]; exact prodR_no hv
    clear hv HN HI HS HM
    subst hn1
    go_wp2_with (fail)
    refine (alive_any _).mono ?_
    rintro e w4 ⟨rfl, hb⟩
    have BW := Lib.hid (BW.out.trans (hb.mono BW.out.size))
    clear hb
    go_wp2
    go_ret
    exact ⟨rfl, BW.out⟩
  · have hn0 : 0 ≤ n := by rw [← HN.out, prodR_is]; exact (manyT_bd hv).1
    have HC : Hid (r.many = cnt r.cells) := Lib.hid (Reg.many_yes hv)
    have HZ : Hid (cnt r.cells = 0 → n = 1) := Lib.hid fun h => by rw [← HN.out]; exact prod_cells hv h
    have hcl := cnt_le r.cells
    clear hv HN
    obtain ⟨x0, x1, x2⟩ := R.out.c3
    have sX := R.out.lt
    go_wp2_with (fail)
    refine (HM.out _ _ R.out.v).mono ?_
    rintro e w4 ⟨rfl, hb⟩
    have BW := Lib.hid (BW.out.trans (hb.mono BW.out.size))
    have R := Lib.hid (R.out.on hb)
    clear hb
    clear x0 x1 x2 sX
    obtain ⟨x0, x1, x2⟩ := R.out.c3
    have sX := R.out.lt
    go_wp2_with (fail)
    refine (CellsMany_any _ r _ R.out.v).mono ?_
    rintro e w5 ⟨rfl, hb⟩
    have BW := Lib.hid (BW.out.trans (hb.mono BW.out.size))
    have R := Lib.hid (R.out.on hb)
    clear hb
    rw [HC.out]
    clear x0 x1 x2 sX HC
    generalize cnt r.cells = c at *
    by_cases hc : c = 0
    · have h1 := HZ.out hc
      subst hc
      subst h1
      go_wp2
      go_ret
      exact ⟨rfl, BW.out⟩
    · have hc1 : 0 < c := by omega
      clear hc
      go_wp2
      go_ret
      exact ⟨rfl, BW.out⟩
end Go.Proofs.Ytbjenmfoblniaaa
