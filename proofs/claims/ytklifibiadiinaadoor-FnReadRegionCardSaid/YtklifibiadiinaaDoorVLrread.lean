/- The law FnReadRegion: its walk. -/
import Derived.Test.YtklifibiadiinaaDoorVWrdR
import Derived.Test.YtklifibiadiinaaDoorVWrdS
import Derived.Test.YtklifibiadiinaaDoorVDrawRd
import Derived.Test.YtklifibiadiinaaDoorVLmeet
import Derived.Test.YtklifibiadiinaaDoorVWc
set_option linter.unusedVariables false
namespace Go.Proofs.YtklifibiadiinaaDoor
open Go.RowKit Domi

set_option maxRecDepth 100000 in
set_option maxHeartbeats 4000000 in
theorem FnReadRegion_walk (v : Value) (ys : List Int) (w : World) (h : Yl w v ys) (hr : ∀ i, i < ys.length → 0 ≤ ys.getD i 0 ∧ ys.getD i 0 ≤ 255) (m : Int) (hm : w.cell? ⟨0, 0, none⟩ = some (.int .i64 m)) (hw0 : 0 < w.heap.size) :
    Calls Tryd.prog 6 #[v] w (Ret (.bool true) w) := by
  have H := Lib.hid h
  have Hr := Lib.hid hr
  have HM := Lib.hid (And.intro hm hw0)
  obtain ⟨a0, cap0, rfl, hlc0, hcm0, _⟩ := h.opened
  clear h hr hm hw0
  by_cases hlen : (1048576 : Int) < (ys.length : Int)
  · go_enter Tryd.func6, Tryd.ntmps6
    go_wp2
    go_ret
    exact ⟨rfl, Below.refl _ _⟩
  go_enter Tryd.func6, Tryd.ntmps6
  go_wp2_with (fail)
  refine (DrawReadRegion_any _ ys w H.out Hr.out).mono ?_
  rintro e w1 ⟨s, rfl, hs, hb⟩
  have BW := Lib.hid hb
  have hmx : Hid (∀ x : World, Below w.heap.size w x → x.cell? ⟨0, 0, none⟩ = some (.int .i64 m) ∧ 0 < x.heap.size) := Lib.hid fun x hx => ⟨by rw [hx.cell HM.out.2]; exact HM.out.1, Nat.lt_of_lt_of_le HM.out.2 hx.size⟩
  have C1 := Lib.hid (ReadRegion_any s w1 (by omega) m (hmx.out _ hb).1 (hmx.out _ hb).2)
  obtain ⟨d, hd⟩ : ∃ d, s.data.toList = d := ⟨_, rfl⟩
  have HD := Lib.hid hd
  obtain ⟨p, hp⟩ : ∃ p, readR d = p := ⟨_, rfl⟩
  have HP := Lib.hid hp
  rw [hd, hp] at C1
  obtain ⟨q, ok⟩ := p
  clear hb H Hr hd hp
  go_wp2_with (fail)
  refine C1.out.mono ?_
  rintro e w2 ⟨v2, rfl, hv2, hb⟩
  have BW := Lib.hid (BW.out.trans (hb.mono BW.out.size))
  obtain ⟨a2, c2, rfl, hs2, _, _⟩ := hv2.opened
  have R := RB.new hs2
  obtain ⟨W2, hW2⟩ : ∃ W2, W2 = w2.alloc (.cells #[.int .i64 q.wide, .int .i64 q.tall, .slice a2 q.cells.length c2] 25) := ⟨_, rfl⟩
  rw [← hW2] at R
  have R := Lib.hid R
  have BW := Lib.hid (show Below w.heap.size w W2 by rw [hW2]; exact BW.out.alloc BW.out.size _)
  clear hb hv2 hs2 C1
  go_upto_region 5 with (fail)
  rw [← hW2]
  clear hW2
  generalize w2.heap.size = X2 at *
  have C2 := sReadRegion_any s W2 (by omega)
  rw [HD.out, HP.out] at C2
  have C2 := Lib.hid C2
  go_wp2_with (fail)
  refine C2.out.mono ?_
  rintro e w3 ⟨v3, rfl, hv3, hb⟩
  have BW := Lib.hid (BW.out.trans (hb.mono BW.out.size))
  have R := Lib.hid (R.out.on hb)
  obtain ⟨a3, c3, rfl, hs3, _, _⟩ := hv3.opened
  have Q := RB.new hs3
  obtain ⟨W3, hW3⟩ : ∃ W3, W3 = w3.alloc (.cells #[.int .i64 q.wide, .int .i64 q.tall, .slice a3 q.cells.length c3] 25) := ⟨_, rfl⟩
  rw [← hW3] at Q
  have Q := Lib.hid Q
  have B3 := Lib.hid (show Below w3.heap.size w3 W3 by rw [hW3]; exact below_alloc _ _)
  have R := Lib.hid (R.out.on B3.out)
  have BW := Lib.hid (BW.out.trans (B3.out.mono BW.out.size))
  clear hb hv3 hs3 C2 B3
  go_upto_region 6 with (fail)
  rw [← hW3]
  clear hW3
  generalize w3.heap.size = X3 at *
  obtain ⟨x0, x1, x2⟩ := R.out.c3
  obtain ⟨y0, y1, y2⟩ := Q.out.c3
  have hok : (ok != ok) = false := by simp
  go_wp2_with (fail)
  refine (sameRegion_is _ _ q q true _ R.out.v Q.out.v (by simp)).mono ?_
  rintro e w4 ⟨rfl, hb⟩
  have BW := Lib.hid (BW.out.trans (hb.mono BW.out.size))
  have R := Lib.hid (R.out.on hb)
  clear hb x0 x1 x2 y0 y1 y2 Q
  cases ok
  · have hq : q = Reg.zero := by
      rcases readR_cases d with ⟨_, _, h3⟩ | ⟨_, h3⟩
      · rw [HP.out] at h3; cases h3
      · rw [HP.out] at h3; injection h3
    subst hq
    obtain ⟨x0, x1, x2⟩ := R.out.c3
    have x0' : w4.cell? ⟨X2, 0, none⟩ = some (.int .i64 0) := x0
    have x2' : w4.cell? ⟨X2, 2, none⟩ = some (.slice a2 0 c2) := x2
    clear x0 x1 x2 R
    go_wp2_with (fail)
    refine (alive_any _).mono ?_
    rintro e w5 ⟨rfl, hb⟩
    have BW := Lib.hid (BW.out.trans (hb.mono BW.out.size))
    clear hb x0' x2'
    go_wp2
    go_ret
    exact ⟨rfl, BW.out⟩
  · have HRM := Lib.hid (read_more (s := d) (by rw [HP.out]))
    have hsd : s = bs d := by rw [← HD.out]; rfl
    have hs47 : s ++ (⟨#[47]⟩ : ByteArray) = bs (d ++ [47]) := by rw [hsd]; exact bs_app d [47]
    obtain ⟨s7, hs7⟩ : ∃ s7, s ++ (⟨#[47]⟩ : ByteArray) = s7 := ⟨_, rfl⟩
    have C3 := ReadRegion_any s7 w4 (by rw [← hs7, ByteArray.size_append]; have : (⟨#[47]⟩ : ByteArray).size = 1 := rfl; omega) m (hmx.out _ BW.out).1 (hmx.out _ BW.out).2
    rw [show s7.data.toList = d ++ [47] by rw [← hs7, hs47]; rfl, HRM.out.2] at C3
    have C3 := Lib.hid C3
    have HTX := Lib.hid (show bs (rgText q) = s by
      have := HRM.out.1
      rw [HP.out] at this
      rw [this, hsd])
    clear hsd hs47 HRM
    go_wp2_with (fail)
    refine C3.out.mono ?_
    rintro e w5 ⟨v5, rfl, hv5, hb⟩
    have BW := Lib.hid (BW.out.trans (hb.mono BW.out.size))
    have R := Lib.hid (R.out.on hb)
    obtain ⟨a5, c5, rfl, hs5, _, _⟩ := hv5.opened
    have B5 := Lib.hid (below_alloc w5 (.cells #[.int .i64 Reg.zero.wide, .int .i64 Reg.zero.tall, .slice a5 Reg.zero.cells.length c5] 25))
    obtain ⟨W5, hW5⟩ : ∃ W5, W5 = w5.alloc (.cells #[.int .i64 Reg.zero.wide, .int .i64 Reg.zero.tall, .slice a5 Reg.zero.cells.length c5] 25) := ⟨_, rfl⟩
    rw [← hW5] at B5
    have R := Lib.hid (R.out.on B5.out)
    have BW := Lib.hid (BW.out.trans (B5.out.mono BW.out.size))
    clear hb hv5 hs5 C3 B5
    go_upto_region 11 with (fail)
    rw [← hW5]
    clear hW5
    generalize w5.heap.size = X5 at *
    obtain ⟨x0, x1, x2⟩ := R.out.c3
    have C4 := RegionText_any _ q _ R.out.v
    rw [HTX.out] at C4
    have C4 := Lib.hid C4
    go_wp2_with (fail)
    refine C4.out.mono ?_
    rintro e w6 ⟨rfl, hb⟩
    have BW := Lib.hid (BW.out.trans (hb.mono BW.out.size))
    clear hb x0 x1 x2 C4 R
    go_wp2
    go_ret
    exact ⟨rfl, BW.out⟩
end Go.Proofs.YtklifibiadiinaaDoor
