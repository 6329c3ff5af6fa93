/- Walks: texts of dominoes, the program's. -/
import Derived.Test.YtklifibiadiinaaDoorZc
import Derived.Test.YtklifibiadiinaaDoorVWtxt
import Derived.Test.YtklifibiadiinaaDoorVWlaid
import Derived.Test.YtklifibiadiinaaDoorVLil
set_option linter.unusedVariables false
namespace Go.Proofs.YtklifibiadiinaaDoor
open Go.RowKit Domi

theorem il_at10 {w : World} {a : Option Addr} {n c : Nat} {L : List Int} (h : Il w (.slice a n c) L) {j : Nat} (hj : j < L.length) : ∃ b o, a = some ⟨b, o, none⟩ ∧ b < w.heap.size ∧ w.cell? ⟨b, o + j, none⟩ = some (.int .i64 (L.getD j 0)) := by
  obtain ⟨_, _, e, _, _, h3⟩ := h.opened
  simp only [Value.slice.injEq] at e
  obtain ⟨rfl, _, rfl⟩ := e
  rcases h3 with e | ⟨b, o, rfl, hb, hc⟩
  · rw [e] at hj; simp at hj
  · exact ⟨b, o, rfl, hb, hc j hj⟩
set_option maxHeartbeats 1000000 in
theorem signL_any (X Y k : Nat) (r : Reg) (s lv : Value) (L : List Int) (w : World) (R : RB w X r s) (hY : w.cell? ⟨Y, 0, none⟩ = some lv) (hl : Il w lv L) (hk : k < r.cells.length) (hL : L.length = r.cells.length) (hb : 0 ≤ L.getD k 0 ∧ L.getD k 0 ≤ 4) :
    Calls Tryd.prog 27 #[.int .i64 k, .pointer (some ⟨X, 0, none⟩), .pointer (some ⟨Y, 0, none⟩)] w (Ret (.int .u8 ((sgnL r L k).toNat : Int)) w) := by
  obtain ⟨a, c, rfl, _⟩ := R.bl.opened
  obtain ⟨x0, x1, x2⟩ := R.c3
  obtain ⟨_, _, _, b, o, rfl, hbb, hc⟩ := bl_cell R.bl hk
  obtain ⟨la, lc, rfl, _⟩ := hl.opened
  obtain ⟨lb, lo, rfl, hlb, hlc⟩ := il_at10 hl (j := k) (by omega)
  have hk' : (k : Int) < (r.cells.length : Int) := by omega
  have hkL : (k : Int) < (L.length : Int) := by omega
  have HS : Hid (sgnL r L k = if r.cells.getD k false then waySg (L.getD k 0) else 46) := Lib.hid rfl
  obtain ⟨x, hx⟩ : ∃ x, L.getD k 0 = x := ⟨_, rfl⟩
  rw [hx] at hlc hb HS
  clear hx hL R hl
  cases hh : r.cells.getD k false
  · rw [hh] at hc HS
    have HS2 : Hid ((46 : Int) = ((sgnL r L k).toNat : Int)) := Lib.hid (by rw [HS.out]; rfl)
    go_enter Tryd.func27, Tryd.ntmps27
    clear HS hh
    go_wp2
    go_ret
    exact ⟨by rw [← HS2.out]; rfl, Below.refl _ _⟩
  · rw [hh] at hc HS
    have hx5 : x = 0 ∨ x = 1 ∨ x = 2 ∨ x = 3 ∨ x = 4 := by omega
    go_enter Tryd.func27, Tryd.ntmps27
    clear hh hb
    rcases hx5 with rfl | rfl | rfl | rfl | rfl
    · have HS2 : Hid ((35 : Int) = ((sgnL r L k).toNat : Int)) := Lib.hid (by rw [HS.out]; rfl)
      clear HS
      go_wp2
      go_ret
      exact ⟨by rw [← HS2.out]; rfl, Below.refl _ _⟩
    · have HS2 : Hid ((101 : Int) = ((sgnL r L k).toNat : Int)) := Lib.hid (by rw [HS.out]; rfl)
      clear HS
      go_wp2
      go_ret
      exact ⟨by rw [← HS2.out]; rfl, Below.refl _ _⟩
    · have HS2 : Hid ((110 : Int) = ((sgnL r L k).toNat : Int)) := Lib.hid (by rw [HS.out]; rfl)
      clear HS
      go_wp2
      go_ret
      exact ⟨by rw [← HS2.out]; rfl, Below.refl _ _⟩
    · have HS2 : Hid ((119 : Int) = ((sgnL r L k).toNat : Int)) := Lib.hid (by rw [HS.out]; rfl)
      clear HS
      go_wp2
      go_ret
      exact ⟨by rw [← HS2.out]; rfl, Below.refl _ _⟩
    · have HS2 : Hid ((115 : Int) = ((sgnL r L k).toNat : Int)) := Lib.hid (by rw [HS.out]; rfl)
      clear HS
      go_wp2
      go_ret
      exact ⟨by rw [← HS2.out]; rfl, Below.refl _ _⟩
set_option maxRecDepth 100000 in
set_option maxHeartbeats 4000000 in
theorem rows27_n (p q : Value) (sg : Nat → UInt8) (v : Value) (r : Reg) (w : World) (h : RegV w v r) (hv : r.valid = true) (w0 t : Nat) (hw0 : r.wide = w0) (ht : r.tall = t)
    (hF : ∀ (k : Nat) (x : World), k < r.cells.length → Below w.heap.size w x → Calls Tryd.prog 27 #[.int .i64 k, p, q] x (Ret (.int .u8 ((sg k).toNat : Int)) x)) :
    Calls Tryd.prog 26 #[v, .func (.func 27) #[] #[p, q]] w (Ret (.string (bs (textU sg w0 t))) w) := by
  obtain ⟨v1, v2, v3, _⟩ := Reg.valid_iff.1 hv
  have HF := Lib.hid hF
  obtain ⟨a, c, rfl, hs, hlc, hcm⟩ := h.opened
  have R := RB.new hs
  rw [hw0, ht] at R
  have B0 := Lib.hid (below_alloc w (.cells #[.int .i64 w0, .int .i64 t, .slice a r.cells.length c] 25))
  obtain ⟨W, hW⟩ : ∃ W, W = w.alloc (.cells #[.int .i64 w0, .int .i64 t, .slice a r.cells.length c] 25) := ⟨_, rfl⟩
  have HLen : Hid (r.cells.length = t * w0) := Lib.hid (by
    have e := v3
    rw [hw0, ht, ← Int.natCast_mul] at e
    rw [Nat.mul_comm]; omega)
  have hw6 : 1 ≤ w0 ∧ w0 ≤ 6 := by omega
  have ht6 : 1 ≤ t ∧ t ≤ 6 := by omega
  have HW0 := Lib.hid hw0
  have HT := Lib.hid ht
  rw [hw0, ht]
  clear h hs hF v1 v2 v3 hw0 ht
  go_enter Tryd.func26, Tryd.ntmps26
  go_wp2_with (fail)
  rw [← hW] at R B0 ⊢
  clear hW
  have R := Lib.hid R
  obtain ⟨x0, x1, x2⟩ := R.out.c3
  rw [HW0.out] at x0
  rw [HT.out] at x1
  clear x0 x1 x2
  go_loopw [5, 6] (fun o i wr => ∃ (n m c : Nat) (iv : Int) (a : Option Addr), n ≤ t ∧ i = .int .i64 iv ∧ Hid (iv = (t : Int) - 1 - n) ∧ o = .slice a m c ∧ Hid (m = n) ∧ Own wr W.heap.size 9 (.slice a m c) ((rowsU sg w0 t n).map fun l => Value.string (bs l)) ∧ Below W.heap.size W wr) (fun _ i _ => (intOf i + 1).toNat)
  case atStart => exact ⟨0, 0, 0, (t : Int) - 1, none, Nat.zero_le _, by go_num, Lib.hid (by omega), rfl, Lib.hid rfl, Own.nil _ _ _, Below.refl _ _⟩
  case round =>
    obtain ⟨n, m, c, iv, a, hn, rfl, HI, rfl, HM, hown, hbel⟩ := hrel
    have OW := Lib.hid hown
    have BW := Lib.hid hbel
    have R1 := Lib.hid (R.out.on hbel)
    have hm6 : m ≤ 6 := by have := HM.out; omega
    have hiv : -1 ≤ iv ∧ iv ≤ 5 := by have := HI.out; omega
    clear hown hbel
    by_cases hlt : 0 ≤ iv
    · obtain ⟨y, rfl⟩ := Int.eq_ofNat_of_zero_le hlt
      have HY : Hid (t - 1 - n = y ∧ y < t) := Lib.hid (by have := HI.out; omega)
      obtain ⟨x0, x1, x2⟩ := R1.out.c3
      rw [HW0.out] at x0
      go_wp2_with (at_make; refine list_make elem_u8 (.int .u8 0) zero_u8 rfl w0 (.tmp 17) (.tmp 17) rfl rfl (w0 : Int) ?_ ?_ rfl ?_ ?_ ?_; rfl; rfl; omega; omega; intro cs hcs; (have O0 := Lib.hid (Own.made (w := wr) (e := 5) hcs (Nat.le_refl _) (by omega))); (have B1 := Lib.hid (below_alloc wr (.cells cs 5))))
      clear x0 x1 x2
      obtain ⟨SZ, hSZ⟩ : ∃ SZ, wr.heap.size = SZ := ⟨_, rfl⟩
      have HSZ := Lib.hid hSZ
      rw [hSZ] at O0 B1 ⊢
      clear hSZ
      obtain ⟨wb, hwb⟩ : ∃ wb, wb = wr := ⟨_, rfl⟩
      rw [← hwb] at OW BW R1 B1 HSZ
      obtain ⟨wq, hwq⟩ : ∃ wq, wq = wr.alloc (.cells cs 5) := ⟨_, rfl⟩
      rw [← hwq] at O0 ⊢
      have B1 : Hid (Below SZ wb wq) := Lib.hid (by rw [hwq, ← hwb]; exact B1.out)
      clear hwb hwq
      go_loopw [21] (fun i wx => ∃ x : Nat, x ≤ w0 ∧ i = .int .i64 x ∧ Own wx SZ 5 (.slice (some ⟨SZ, 0, none⟩) w0 w0) (((rowU sg w0 y x).map fun c : UInt8 => Value.int .u8 (c.toNat : Int)) ++ List.replicate (w0 - x) (.int .u8 0)) ∧ Below SZ wb wx) (fun i _ => w0 - (intOf i).toNat)
      case atStart => exact ⟨0, Nat.zero_le _, rfl, by simpa [rowU] using O0.out, B1.out⟩
      case round =>
        clear O0 B1
        obtain ⟨x, hx, rfl, hown, hbel⟩ := hrel
        have O1 := Lib.hid hown
        have B1 := Lib.hid hbel
        have BB := Lib.hid (show Below wb.heap.size wb wr by rw [HSZ.out]; exact hbel)
        have R2 := Lib.hid (R1.out.on BB.out)
        clear hown hbel
        by_cases hxw : x < w0
        · have hxw' : (x : Int) < (w0 : Int) := by omega
          obtain ⟨k, hk⟩ : ∃ k, y * w0 + x = k := ⟨_, rfl⟩
          have hkI : (y : Int) * (w0 : Int) + (x : Int) = (k : Int) := by rw [← hk]; push_cast; rfl
          have hkl : k < r.cells.length := by
            have := HY.out.2
            have h2 : (y + 1) * w0 ≤ t * w0 := Nat.mul_le_mul_right _ (by omega)
            rw [Nat.add_mul, Nat.one_mul] at h2
            rw [HLen.out]; omega
          have hk36 : k < 36 := by
            have : t * w0 ≤ 36 := Nat.mul_le_mul ht6.2 hw6.2
            rw [HLen.out] at hkl; omega
          have hyw : 0 ≤ (y : Int) * (w0 : Int) ∧ (y : Int) * (w0 : Int) ≤ 36 := by
            have : 0 ≤ (y : Int) * (w0 : Int) := Int.mul_nonneg (by omega) (by omega)
            omega
          have HK := Lib.hid hk
          have CF := Lib.hid (HF.out k wr hkl ((B0.out.trans (BW.out.mono B0.out.size)).trans (BB.out.mono (Nat.le_trans B0.out.size BW.out.size))))
          obtain ⟨x0, x1, x2⟩ := R2.out.c3
          rw [HW0.out] at x0
          clear hk hkl
          go_wp2_with (fail)
          refine CF.out.mono ?_
          rintro e wy ⟨rfl, hb⟩
          have O2 := O1.out.below hb
          have s1 := (O2.cell x hxw).2.1
          obtain ⟨t1, s2, _, s3⟩ := O2.there x hxw
          have O3 := Lib.hid (show Own (wy.setCell ⟨SZ, x, none⟩ (.int .u8 ((sg k).toNat : Int))) SZ 5 (.slice (some ⟨SZ, 0, none⟩) w0 w0) (((rowU sg w0 y (x + 1)).map fun c : UInt8 => Value.int .u8 (c.toNat : Int)) ++ List.replicate (w0 - (x + 1)) (.int .u8 0)) by
            rw [← row_set sg w0 y x hxw k HK.out.symm]; exact O2.stored x _)
          have B3 := Lib.hid (show Below SZ wb (wy.setCell ⟨SZ, x, none⟩ (.int .u8 ((sg k).toNat : Int))) from
            (B1.out.trans (hb.mono (by rw [← HSZ.out]; exact BB.out.size))).trans (below_grown (grown_setCell wy SZ x none _) (by have h1 := BB.out.size; have h2 := hb.size; rw [HSZ.out] at h1; omega) (fun i hi => by cases hi; exact Nat.le_refl _)))
          generalize (sg k).toNat = cv at *
          clear O2 hb x0 x1 x2 O1 B1 BB R2 CF
          go_wp2_with (fail)
          go_roundw
          case rel => exact ⟨x + 1, by omega, by go_num, O3.out, B3.out⟩
          case measure => simp [intOf]; omega
        · have e : x = w0 := by omega
          subst e
          have O2 : Hid (Own wr SZ 5 (.slice (some ⟨SZ, 0, none⟩) x x) ((rowU sg x y x).map fun c : UInt8 => Value.int .u8 (c.toNat : Int))) := Lib.hid (by simpa using O1.out)
          have hcv := str_conv O2.out (rowU_len sg x y x)
          obtain ⟨S, hS⟩ : ∃ S, bs (rowU sg x y x) = S := ⟨_, rfl⟩
          rw [hS] at hcv
          have OWB := Lib.hid (OW.out.below BB.out)
          have BWB := Lib.hid (BW.out.trans (BB.out.mono BW.out.size))
          have NR : Hid (((rowsU sg x t n).map fun l => Value.string (bs l)) ++ [.string S] = (rowsU sg x t (n + 1)).map fun l => Value.string (bs l)) := Lib.hid (by
            rw [rowsU_succ, List.map_append, HY.out.1, ← hS]; rfl)
          have hlen : ((rowsU sg x t n).map fun l => Value.string (bs l)).length = n := by rw [List.length_map, rowsU_len]
          have HLn := Lib.hid hlen
          clear hS O1 O2 hlen HY
          go_wp2_with (at_builtin; refine list_app elem_str W.heap.size (.slice a m c) ((rowsU sg x t n).map fun l => Value.string (bs l)) ?_ wr.heap.size (.string S) (.tmp 36) (.tmp 39) rfl rfl rfl rfl (heap_alloc_new _ _) rfl ?_ ?_ ?_; exact Own.alloc OWB.out _; (rw [HLn.out]; omega); (have := BWB.out.size; simp; omega); intro g2 c2 w5 A5; (have O5 := Lib.hid A5.own); (have B5 := Lib.hid (txt_bel BWB.out BWB.out.size A5 (Own.alloc OWB.out _))); clear A5; rw [HLn.out])
          have O6 : Hid (Own w5 W.heap.size 9 (.slice (some ⟨g2, 0, none⟩) (n + 1) c2) ((rowsU sg x t (n + 1)).map fun l => Value.string (bs l))) := Lib.hid (by
            have := O5.out; rw [NR.out, HLn.out] at this; exact this)
          go_roundw
          case rel => exact ⟨n + 1, n + 1, c2, (y : Int) - 1, some ⟨g2, 0, none⟩, by have := HI.out; omega, by go_num, Lib.hid (by have := HI.out; push_cast; omega), rfl, Lib.hid rfl, O6.out, B5.out⟩
          case measure => simp [intOf]; try omega
    · have e : n = t := by have := HI.out; omega
      subst e
      obtain ⟨bk, c2, e0, h1, h2, h3, h4⟩ := OW.out.formN (by rw [List.length_map, rowsU_len]; omega)
      rw [List.length_map, rowsU_len, Value.slice.injEq] at e0
      obtain ⟨rfl, rfl, rfl⟩ := e0
      rw [List.length_map, rowsU_len] at h3
      have JN := Lib.hid (Tryd.strings_Join bk 0 c ((rowsU sg w0 m m).map bs) (bs [47]) wr (fun j x hj => by
        have hjm : j < m := by
          have := (List.getElem?_eq_some_iff.1 hj).1
          rwa [List.length_map, rowsU_len] at this
        rw [Nat.zero_add, (OW.out.cell j hjm).1]
        rw [List.getElem?_map] at hj ⊢
        cases hq : (rowsU sg w0 m m)[j]? with
        | none => rw [hq] at hj; cases hj
        | some l => rw [hq] at hj; cases hj; rfl) h2 (by rw [List.length_map, rowsU_len]; omega) (by rw [List.length_map, rowsU_len]; exact h3) (by
        rw [List.map_map]
        have : ((fun x : ByteArray => x.data.toList) ∘ bs) = id := rfl
        rw [this, List.map_id]
        have := text_len sg w0 m ht6.1
        have h5 : m * (w0 + 1) ≤ 6 * 7 := Nat.mul_le_mul ht6.2 (by omega)
        unfold textU at this
        exact Nat.le_trans this (by omega)))
      have HBF := Lib.hid (B0.out.trans (BW.out.mono B0.out.size))
      have HML : Hid (((rowsU sg w0 m m).map bs).length = m) := Lib.hid (by rw [List.length_map, rowsU_len])
      clear h1 h2 h3 h4
      go_wp2_with (fail)
      have JN := JN.out
      rw [HML.out, List.map_map, show ((fun x : ByteArray => x.data.toList) ∘ bs) = id from rfl, List.map_id, show Lib.join (rowsU sg w0 m m) (bs [47]).data.toList = textU sg w0 m from rfl] at JN
      generalize textU sg w0 m = T at *
      refine JN.mono ?_
      rintro e w5 ⟨rfl, hb⟩
      have HBE := Lib.hid (HBF.out.trans (hb.mono HBF.out.size))
      clear hb JN
      go_wp2_with (fail)
      go_ret
      exact ⟨rfl, HBE.out⟩
set_option maxHeartbeats 1000000 in
theorem LaidText_any (v u : Value) (r : Reg) (L : List Int) (w : World) (h : RegV w v r) (hu : Il w u L) :
    Calls Tryd.prog 8 #[v, u] w (Ret (.string (bs (laidText r L))) w) := by
  obtain ⟨a, c, rfl, hs, hlc, hcm⟩ := h.opened
  obtain ⟨la, lc, rfl, hul, hum, _⟩ := hu.opened
  have S0 := Lib.hid (((Sep.start w none).box #[.int .i64 r.wide, .int .i64 r.tall, .slice a r.cells.length c] 25).box #[.slice la L.length lc] 26)
  obtain ⟨W, hW⟩ : ∃ W, W = (w.alloc (.cells #[.int .i64 r.wide, .int .i64 r.tall, .slice a r.cells.length c] 25)).alloc (.cells #[.slice la L.length lc] 26) := ⟨_, rfl⟩
  have hsz : (w.alloc (.cells #[.int .i64 r.wide, .int .i64 r.tall, .slice a r.cells.length c] 25)).heap.size = w.heap.size + 1 := by simp
  rw [← hW, hsz] at S0
  have HB := Lib.hid (show Bl W (.slice a r.cells.length c) r.cells from hs.below S0.out.bel)
  have HI := Lib.hid (hu.below S0.out.bel)
  clear h hs hu
  go_enter Tryd.func8, Tryd.ntmps8
  go_wp2_with (fail)
  rw [← hW]
  clear hW hsz
  have RX := Lib.hid (show ∀ T : World, Below W.heap.size W T → RB T w.heap.size r (.slice a r.cells.length c) from fun T hT => ⟨(S0.out.below hT).blk 0 rfl, HB.out.below hT⟩)
  have YX := Lib.hid (show ∀ T : World, Below W.heap.size W T → T.cell? ⟨w.heap.size + 1, 0, none⟩ = some (.slice la L.length lc) from fun T hT => by
    rw [cell_of_row T _ 0 _ _ _ ((S0.out.below hT).blk 1 rfl)]; rfl)
  cases hv : laidOk r L
  · refine (LaidOk_is _ _ r L _ (RX.out _ (Below.refl _ _)).v HI.out false hv).mono ?_
    rintro e w1 ⟨rfl, hb⟩
    have BE := Lib.hid (S0.out.bel.trans (hb.mono S0.out.bel.size))
    have HT := Lib.hid (laidText_no hv)
    clear hb hv
    go_wp2
    go_ret
    exact ⟨by rw [HT.out]; rfl, BE.out⟩
  · refine (LaidOk_is _ _ r L _ (RX.out _ (Below.refl _ _)).v HI.out true hv).mono ?_
    rintro e w1 ⟨rfl, hb⟩
    have BE := Lib.hid (S0.out.bel.trans (hb.mono S0.out.bel.size))
    have HT := Lib.hid (laidText_yes hv)
    obtain ⟨hrv, hlen, _⟩ := laidOk_iff.1 hv
    obtain ⟨v1, v2, v3, v4⟩ := Reg.valid_iff.1 hrv
    have HC := Lib.hid (rows27_n (.pointer (some ⟨w.heap.size, 0, none⟩)) (.pointer (some ⟨w.heap.size + 1, 0, none⟩)) (sgnL r L) (.agg #[.int .i64 r.wide, .int .i64 r.tall, .slice a r.cells.length c]) r w1 (RX.out _ hb).v hrv r.wide.toNat r.tall.toNat (by omega) (by omega)
      (fun k x hk hx => signL_any w.heap.size (w.heap.size + 1) k r _ _ L x (RX.out _ (hb.trans (hx.mono hb.size))) (YX.out _ (hb.trans (hx.mono hb.size))) (HI.out.below (hb.trans (hx.mono hb.size))) hk hlen (laidOk_bd hv k)))
    obtain ⟨x0, x1, x2⟩ := (RX.out _ hb).c3
    have y0 := YX.out _ hb
    generalize textU (sgnL r L) r.wide.toNat r.tall.toNat = T at *
    clear hb hv v1 v2 v3 v4 hrv hlen
    go_wp2_with (fail)
    refine HC.out.mono ?_
    rintro e w2 ⟨rfl, hb⟩
    have BF := Lib.hid (BE.out.trans (hb.mono BE.out.size))
    clear hb
    go_wp2
    go_ret
    exact ⟨by rw [HT.out]; rfl, BF.out⟩
end Go.Proofs.YtklifibiadiinaaDoor
