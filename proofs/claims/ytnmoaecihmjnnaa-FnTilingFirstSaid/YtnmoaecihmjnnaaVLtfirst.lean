/- The law FnTilingFirst: its walk. -/
import Derived.Test.YtnmoaecihmjnnaaVDrawE
import Derived.Test.YtnmoaecihmjnnaaVWtilsC
import Derived.Test.YtnmoaecihmjnnaaVWcompB
import Derived.Test.YtnmoaecihmjnnaaZb
import Derived.Test.YtnmoaecihmjnnaaVSame
import Derived.Test.YtnmoaecihmjnnaaVLaw
namespace Go.Proofs.Ytnmoaecihmjnnaa
open Go.RowKit Domi

theorem firstR_false {r : Reg} {l : List Int} (h : firstR r = (l, false)) : l = [] ∧ tilsR r = [] := by
  cases hv : r.valid
  · rw [firstR_no hv] at h; cases h; exact ⟨rfl, tilsR_no hv⟩
  · rw [firstR_head hv] at h
    cases ht : tilsR r with
    | nil => rw [ht] at h; cases h; exact ⟨rfl, rfl⟩
    | cons x t => rw [ht] at h; cases h
theorem firstR_true {r : Reg} {l : List Int} (h : firstR r = (l, true)) : 0 < (tilsR r).length ∧ (tilsR r).getD 0 [] = l := by
  cases hv : r.valid
  · rw [firstR_no hv] at h; cases h
  · rw [firstR_head hv] at h
    cases ht : tilsR r with
    | nil => rw [ht] at h; cases h
    | cons x t => rw [ht] at h; cases h; exact ⟨by simp, rfl⟩
set_option maxRecDepth 100000 in
set_option maxHeartbeats 4000000 in
theorem FnTilingFirst_walk (v : Value) (ys : List Int) (w : World) (h : Yl w v ys) (hr : ∀ i, i < ys.length → 0 ≤ ys.getD i 0 ∧ ys.getD i 0 ≤ 255) :
    Calls Try.prog 4 #[v] w (Ret (.bool true) w) := by
  have H := Lib.hid h
  have Hr := Lib.hid hr
  obtain ⟨a0, cap0, rfl, hlc0, hcm0, _⟩ := h.opened
  clear h hr
  by_cases hlen : (1048576 : Int) < (ys.length : Int)
  · go_enter Try.func4, Try.ntmps4
    go_wp2
    go_ret
    exact ⟨rfl, Below.refl _ _⟩
  go_enter Try.func4, Try.ntmps4
  go_wp2_with (fail)
  refine (DrawTilingFirst_any _ ys w H.out Hr.out).mono ?_
  rintro e w1 ⟨v1, r, rfl, hv1, hsm, hb1⟩
  obtain ⟨a1, cap1, rfl, hs1, _, _⟩ := hv1.opened
  have R := RB.new hs1
  obtain ⟨W, hW⟩ : ∃ W, W = w1.alloc (.cells #[.int .i64 r.wide, .int .i64 r.tall, .slice a1 r.cells.length cap1] 25) := ⟨_, rfl⟩
  rw [← hW] at R
  have R := Lib.hid R
  have BW := Lib.hid (show Below w.heap.size w W by rw [hW]; exact hb1.alloc hb1.size _)
  have hX : w1.heap.size < W.heap.size := by rw [hW]; simp
  clear hs1 hb1 hv1
  go_wp2_with (fail)
  rw [← hW]
  clear hW
  generalize w1.heap.size = X at *
  clear hX
  obtain ⟨l, b, hq⟩ : ∃ l b, firstR r = (l, b) := ⟨_, _, rfl⟩
  have HI : Hid (∀ (v : Value) (w : World), RegV w v r → Calls Try.prog 23 #[v] w fun e w' => ∃ u, e = .returned (.tuple #[u, .bool b]) ∧ Il w' u l ∧ Below w.heap.size w w') := Lib.hid fun v w h => by have := TilingFirst_any v r w h; rw [hq] at this; exact this
  have HS : Hid (∀ (v : Value) (w : World), RegV w v r → Calls Try.prog 24 #[v] w fun e w' => ∃ u, e = .returned (.tuple #[u, .bool b]) ∧ Il w' u l ∧ Below w.heap.size w w') := Lib.hid fun v w h => (sTilingFirst_any v r w h).mono fun e w' => by rw [hq]; rintro ⟨u, he, ho, hb⟩; exact ⟨u, he, own_il ho, hb⟩
  have HT := Lib.hid (fun (v : Value) (w : World) (h : RegV w v r) => TilingsAll_any v r w h)
  have HQ := Lib.hid hq
  clear hq
  refine (HI.out _ _ R.out.v).mono ?_
  rintro e w2 ⟨x, rfl, hx, hb⟩
  have BW := Lib.hid (BW.out.trans (hb.mono BW.out.size))
  have R := Lib.hid (R.out.on hb)
  have V := Lib.hid hx
  clear hx
  clear hb
  obtain ⟨va, vc, hvf⟩ : ∃ a c, x = .slice a l.length c := by obtain ⟨a, c, e, _⟩ := V.out.opened; exact ⟨a, c, e⟩
  subst hvf
  obtain ⟨x0, x1, x2⟩ := R.out.c3
  have sX := R.out.lt
  go_wp2_with (fail)
  refine (HS.out _ _ R.out.v).mono ?_
  rintro e w3 ⟨y, rfl, hy, hb⟩
  have BW := Lib.hid (BW.out.trans (hb.mono BW.out.size))
  have R := Lib.hid (R.out.on hb)
  have V := Lib.hid (Sl.below V.out hb)
  have V3 := Lib.hid hy
  clear hy
  clear hb
  clear x0 x1 x2 sX
  cases b
  · go_wp2_with (fail)
    refine (sameInts_is _ _ l l _ V.out V3.out true (by simp)).mono ?_
    rintro e w4 ⟨rfl, hb⟩
    have BW := Lib.hid (BW.out.trans (hb.mono BW.out.size))
    have R := Lib.hid (R.out.on hb)
    have V := Lib.hid (Sl.below V.out hb)
    clear hb
    clear V3
    obtain ⟨x0, x1, x2⟩ := R.out.c3
    have sX := R.out.lt
    go_wp2_with (fail)
    refine (HT.out _ _ R.out.v).mono ?_
    rintro e w5 ⟨z, rfl, hz, hb⟩
    have BW := Lib.hid (BW.out.trans (hb.mono BW.out.size))
    have R := Lib.hid (R.out.on hb)
    have V := Lib.hid (Sl.below V.out hb)
    have A := Lib.hid hz
    clear hz
    clear hb
    clear x0 x1 x2 sX
    obtain ⟨za, zc, rfl, hz1, hz2, hz3⟩ := A.out.opened
    obtain ⟨hl, ht⟩ := firstR_false HQ.out
    have hl0 : l.length = 0 := by rw [hl]; rfl
    have ht0 : (tilsR r).length = 0 := by rw [ht]; rfl
    clear hz3 hl ht
    generalize (tilsR r).length = n at *
    obtain rfl := ht0
    generalize l.length = k at *
    obtain rfl := hl0
    go_wp2_with (fail)
    refine (alive_any _).mono ?_
    rintro e w6 ⟨rfl, hb⟩
    have BW := Lib.hid (BW.out.trans (hb.mono BW.out.size))
    clear hb
    go_wp2
    go_ret
    exact ⟨rfl, BW.out⟩
  · go_wp2_with (fail)
    refine (sameInts_is _ _ l l _ V.out V3.out true (by simp)).mono ?_
    rintro e w4 ⟨rfl, hb⟩
    have BW := Lib.hid (BW.out.trans (hb.mono BW.out.size))
    have R := Lib.hid (R.out.on hb)
    have V := Lib.hid (Sl.below V.out hb)
    clear hb
    clear V3
    obtain ⟨x0, x1, x2⟩ := R.out.c3
    have sX := R.out.lt
    go_wp2_with (fail)
    refine (HT.out _ _ R.out.v).mono ?_
    rintro e w5 ⟨z, rfl, hz, hb⟩
    have BW := Lib.hid (BW.out.trans (hb.mono BW.out.size))
    have R := Lib.hid (R.out.on hb)
    have V := Lib.hid (Sl.below V.out hb)
    have A := Lib.hid hz
    clear hz
    clear hb
    clear x0 x1 x2 sX
    obtain ⟨za, zc, rfl, hz1, hz2, hz3⟩ := A.out.opened
    obtain ⟨ht1, htl⟩ := firstR_true HQ.out
    have HTL := Lib.hid htl
    clear htl
    obtain ⟨zb, zo, rfl, hzb, hzc⟩ : ∃ b off, za = some ⟨b, off, none⟩ ∧ b < w5.heap.size ∧ ∀ i, i < (tilsR r).length → ∃ u, w5.cell? ⟨b, off + i, none⟩ = some u ∧ Il w5 u ((tilsR r).getD i []) := by
      rcases hz3 with e | h
      · rw [e] at ht1; simp at ht1
      · exact h
    obtain ⟨f, hf, hfi⟩ := hzc 0 ht1
    rw [HTL.out] at hfi
    rw [Nat.add_zero] at hf
    have F := Lib.hid hfi
    clear hzc hfi hz3 A
    generalize (tilsR r).length = n at *
    have hn : 0 < (n : Int) := by omega
    go_wp2_with (fail)
    refine (sameInts_is _ _ l l _ V.out F.out true (by simp)).mono ?_
    rintro e w6 ⟨rfl, hb⟩
    have BW := Lib.hid (BW.out.trans (hb.mono BW.out.size))
    clear hb
    go_wp2_with (fail)
    refine (alive_any _).mono ?_
    rintro e w7 ⟨rfl, hb⟩
    have BW := Lib.hid (BW.out.trans (hb.mono BW.out.size))
    clear hb
    go_wp2
    go_ret
    exact ⟨rfl, BW.out⟩

end Go.Proofs.Ytnmoaecihmjnnaa
