/- The law FnReadLaid: its walk. -/
import Derived.Test.YtklifibiadiinaaDoorVWrlR
import Derived.Test.YtklifibiadiinaaDoorVWrlS
import Derived.Test.YtklifibiadiinaaDoorVDrawRl
import Derived.Test.YtklifibiadiinaaDoorVLmeet
import Derived.Test.YtklifibiadiinaaDoorVSame
import Derived.Test.YtklifibiadiinaaDoorVWc
set_option linter.unusedVariables false
namespace Go.Proofs.YtklifibiadiinaaDoor
open Go.RowKit Domi

set_option maxRecDepth 100000 in
set_option maxHeartbeats 4000000 in
theorem FnReadLaid_walk (v : Value) (ys : List Int) (w : World) (h : Yl w v ys) (hr : ∀ i, i < ys.length → 0 ≤ ys.getD i 0 ∧ ys.getD i 0 ≤ 255) (m : Int) (hm : w.cell? ⟨0, 0, none⟩ = some (.int .i64 m)) (hw0 : 0 < w.heap.size) :
    Calls Tryd.prog 4 #[v] w (Ret (.bool true) w) := by
  have H := Lib.hid h
  have Hr := Lib.hid hr
  have HM := Lib.hid (And.intro hm hw0)
  obtain ⟨a0, cap0, rfl, hlc0, hcm0, _⟩ := h.opened
  clear h hr hm hw0
  by_cases hlen : (1048576 : Int) < (ys.length : Int)
  · go_enter Tryd.func4, Tryd.ntmps4
    go_wp2
    go_ret
    exact ⟨rfl, Below.refl _ _⟩
  go_enter Tryd.func4, Tryd.ntmps4
  go_wp2_with (fail)
  refine (DrawReadLaid_any _ ys w H.out Hr.out).mono ?_
  rintro e w1 ⟨s, rfl, hs, hb⟩
  have BW := Lib.hid hb
  have hmx : Hid (∀ x : World, Below w.heap.size w x → x.cell? ⟨0, 0, none⟩ = some (.int .i64 m) ∧ 0 < x.heap.size) := Lib.hid fun x hx => ⟨by rw [hx.cell HM.out.2]; exact HM.out.1, Nat.lt_of_lt_of_le HM.out.2 hx.size⟩
  have C1 := Lib.hid (ReadLaid_any s w1 (by omega) m (hmx.out _ hb).1 (hmx.out _ hb).2)
  obtain ⟨d, hd⟩ : ∃ d, s.data.toList = d := ⟨_, rfl⟩
  have HD := Lib.hid hd
  obtain ⟨p, hp⟩ : ∃ p, readL d = p := ⟨_, rfl⟩
  have HP := Lib.hid hp
  rw [hd, hp] at C1
  obtain ⟨q, L, ok⟩ := p
  clear hb H Hr hd hp
  go_wp2_with (fail)
  refine C1.out.mono ?_
  rintro e w2 ⟨v2, u2, rfl, hv2, hu2, hb⟩
  have BW := Lib.hid (BW.out.trans (hb.mono BW.out.size))
  obtain ⟨a2, c2, rfl, hs2, _, _⟩ := hv2.opened
  obtain ⟨ua2, uc2, rfl, hul2, hum2, _⟩ := hu2.opened
  have R := RB.new hs2
  have U := hu2.below (below_alloc w2 (.cells #[.int .i64 q.wide, .int .i64 q.tall, .slice a2 q.cells.length c2] 25))
  obtain ⟨W2, hW2⟩ : ∃ W2, W2 = w2.alloc (.cells #[.int .i64 q.wide, .int .i64 q.tall, .slice a2 q.cells.length c2] 25) := ⟨_, rfl⟩
  rw [← hW2] at R U
  have R := Lib.hid R
  have U := Lib.hid U
  have BW := Lib.hid (show Below w.heap.size w W2 by rw [hW2]; exact BW.out.alloc BW.out.size _)
  clear hb hv2 hu2 hs2 C1
  go_upto_region 5 with (fail)
  rw [← hW2]
  clear hW2
  generalize w2.heap.size = X2 at *
  have C2 := sReadLaid_any s W2 (by omega)
  rw [HD.out, HP.out] at C2
  have C2 := Lib.hid C2
  go_wp2_with (fail)
  refine C2.out.mono ?_
  rintro e w3 ⟨v3, u3, rfl, hv3, hu3, hb⟩
  have BW := Lib.hid (BW.out.trans (hb.mono BW.out.size))
  have R := Lib.hid (R.out.on hb)
  have U := Lib.hid (U.out.below hb)
  obtain ⟨a3, c3, rfl, hs3, _, _⟩ := hv3.opened
  obtain ⟨ua3, uc3, rfl, hul3, hum3, _⟩ := hu3.opened
  have Q := RB.new hs3
  have V := hu3.below (below_alloc w3 (.cells #[.int .i64 q.wide, .int .i64 q.tall, .slice a3 q.cells.length c3] 25))
  obtain ⟨W3, hW3⟩ : ∃ W3, W3 = w3.alloc (.cells #[.int .i64 q.wide, .int .i64 q.tall, .slice a3 q.cells.length c3] 25) := ⟨_, rfl⟩
  rw [← hW3] at Q V
  have Q := Lib.hid Q
  have V := Lib.hid V
  have B3 := Lib.hid (show Below w3.heap.size w3 W3 by rw [hW3]; exact below_alloc _ _)
  have R := Lib.hid (R.out.on B3.out)
  have U := Lib.hid (U.out.below B3.out)
  have BW := Lib.hid (BW.out.trans (B3.out.mono BW.out.size))
  clear hb hv3 hu3 hs3 C2 B3
  go_upto_region 6 with (fail)
  rw [← hW3]
  clear hW3
  generalize w3.heap.size = X3 at *
  obtain ⟨x0, x1, x2⟩ := R.out.c3
  obtain ⟨y0, y1, y2⟩ := Q.out.c3
  have hok : (ok != ok) = false := by simp
  go_wp2_with (fail)
  refine (sameRegion_is _ _ q q true _ R.out.v Q.out.v (by simp)).mono ?_
  rintro e w4 ⟨rfl, hb⟩
  have BW := Lib.hid (BW.out.trans (hb.mono BW.out.size))
  have R := Lib.hid (R.out.on hb)
  have U := Lib.hid (U.out.below hb)
  have V := Lib.hid (V.out.below hb)
  clear hb x0 x1 x2 y0 y1 y2 Q
  go_wp2_with (fail)
  refine (sameInts_is _ _ L L _ U.out V.out true (by simp)).mono ?_
  rintro e w5 ⟨rfl, hb⟩
  have BW := Lib.hid (BW.out.trans (hb.mono BW.out.size))
  have R := Lib.hid (R.out.on hb)
  have U := Lib.hid (U.out.below hb)
  clear hb V
  cases ok
  · have hq : q = Reg.zero ∧ L = [] := by
      rcases readL_cases d with ⟨_, _, h3⟩ | ⟨_, h3⟩
      · rw [HP.out] at h3; cases h3
      · rw [HP.out] at h3; injection h3 with h3 h4; injection h4 with h4 h5; exact ⟨h3, h4⟩
    obtain ⟨hq1, hq2⟩ := hq
    subst hq1
    subst hq2
    obtain ⟨x0, x1, x2⟩ := R.out.c3
    have x0' : w5.cell? ⟨X2, 0, none⟩ = some (.int .i64 0) := x0
    have x2' : w5.cell? ⟨X2, 2, none⟩ = some (.slice a2 0 c2) := x2
    clear x0 x1 x2 R U
    go_wp2_with (fail)
    refine (alive_any _).mono ?_
    rintro e w6 ⟨rfl, hb⟩
    have BW := Lib.hid (BW.out.trans (hb.mono BW.out.size))
    clear hb x0' x2'
    go_wp2
    go_ret
    exact ⟨rfl, BW.out⟩
  · have HRM := Lib.hid (readL_more (s := d) (by rw [HP.out]))
    have hsd : s = bs d := by rw [← HD.out]; rfl
    have hs47 : s ++ (⟨#[47]⟩ : ByteArray) = bs (d ++ [47]) := by rw [hsd]; exact bs_app d [47]
    obtain ⟨s7, hs7⟩ : ∃ s7, s ++ (⟨#[47]⟩ : ByteArray) = s7 := ⟨_, rfl⟩
    have C3 := ReadLaid_any s7 w5 (by rw [← hs7, ByteArray.size_append]; have : (⟨#[47]⟩ : ByteArray).size = 1 := rfl; omega) m (hmx.out _ BW.out).1 (hmx.out _ BW.out).2
    rw [show s7.data.toList = d ++ [47] by rw [← hs7, hs47]; rfl, HRM.out.2] at C3
    have C3 := Lib.hid C3
    have HTX := Lib.hid (show bs (laidText q L) = s by
      have := HRM.out.1
      rw [HP.out] at this
      rw [this, hsd])
    clear hsd hs47 HRM
    go_wp2_with (fail)
    refine C3.out.mono ?_
    rintro e w6 ⟨v6, u6, rfl, hv6, hu6, hb⟩
    have BW := Lib.hid (BW.out.trans (hb.mono BW.out.size))
    have R := Lib.hid (R.out.on hb)
    have U := Lib.hid (U.out.below hb)
    obtain ⟨a6, c6, rfl, hs6, _, _⟩ := hv6.opened
    have B6 := Lib.hid (below_alloc w6 (.cells #[.int .i64 Reg.zero.wide, .int .i64 Reg.zero.tall, .slice a6 Reg.zero.cells.length c6] 25))
    obtain ⟨W6, hW6⟩ : ∃ W6, W6 = w6.alloc (.cells #[.int .i64 Reg.zero.wide, .int .i64 Reg.zero.tall, .slice a6 Reg.zero.cells.length c6] 25) := ⟨_, rfl⟩
    rw [← hW6] at B6
    have R := Lib.hid (R.out.on B6.out)
    have U := Lib.hid (U.out.below B6.out)
    have BW := Lib.hid (BW.out.trans (B6.out.mono BW.out.size))
    clear hb hv6 hu6 hs6 C3 B6
    go_upto_region 11 with (fail)
    rw [← hW6]
    clear hW6
    generalize w6.heap.size = X6 at *
    obtain ⟨x0, x1, x2⟩ := R.out.c3
    have C4 := LaidText_any _ _ q L _ R.out.v U.out
    rw [HTX.out] at C4
    have C4 := Lib.hid C4
    go_wp2_with (fail)
    refine C4.out.mono ?_
    rintro e w7 ⟨rfl, hb⟩
    have BW := Lib.hid (BW.out.trans (hb.mono BW.out.size))
    clear hb x0 x1 x2 C4 R U
    go_wp2
    go_ret
    exact ⟨rfl, BW.out⟩
end Go.Proofs.YtklifibiadiinaaDoor
