/- Walks: the program's SignMatrix. -/
import Derived.Test.YtklifibiadiinaaVIdx
import Derived.Test.YtklifibiadiinaaZe
import Derived.Test.YtklifibiadiinaaVLaw
import Derived.Test.YtklifibiadiinaaVWg
import Derived.Test.YtklifibiadiinaaVWk
import Derived.Test.YtklifibiadiinaaVWf
set_option linter.unusedVariables false
namespace Go.Proofs.Ytklifibiadiinaa
open Go.RowKit Domi

theorem elem_rows : ElemOk Try.prog 26 39 24 := ⟨Try.underlying26, by kernel_rfl⟩
theorem zero_row : (Try.prog.info? 39).bind (·.zero) = some (.slice none 0 0) := by kernel_rfl
theorem dark_is (v : Value) (r : Reg) (c : Int) (w : World) (h : RegV w v r) (hw : 1 ≤ r.wide ∧ r.wide ≤ 6) (hc : 0 ≤ c ∧ c ≤ 100) (b : Bool) (hb : darkB r.wide c = b) :
    Calls Try.prog 82 #[v, .int .i64 c] w (Ret (.bool b) w) := by rw [← hb]; exact dark_any v r c w h hw hc
theorem step7_is (v : Value) (r : Reg) (c way : Int) (w : World) (h : RegV w v r) (hv : r.valid = true) (h0 : 0 ≤ c) (hl : c < r.wide * r.tall) (s : Int) (hs : stepI r c way = s) :
    Calls Try.prog 62 #[v, .int .i64 c, .int .i64 way] w (Ret (.int .i64 s) w) := by rw [← hs]; exact step_any v r c way w h hv h0 hl
theorem il_get {w : World} {a : Option Addr} {n c : Nat} {L : List Int} (h : Il w (.slice a n c) L) {j : Nat} (hj : j < L.length) : ∃ b o, a = some ⟨b, o, none⟩ ∧ b < w.heap.size ∧ w.cell? ⟨b, o + j, none⟩ = some (.int .i64 (L.getD j 0)) := by
  obtain ⟨_, _, e, _, _, h3⟩ := h.opened
  simp only [Value.slice.injEq] at e
  obtain ⟨rfl, _, rfl⟩ := e
  rcases h3 with e | ⟨b, o, rfl, hb, hc⟩
  · rw [e] at hj; simp at hj
  · exact ⟨b, o, rfl, hb, hc j hj⟩
/-- The box, and both lists. -/
def SgB (w : World) (r : Reg) (s vd vl : Value) (D L : List Int) : List It :=
  [.box w.heap.size #[.int .i64 r.wide, .int .i64 r.tall, s] 28, .row 3 vd (D.map (Value.int .i64)), .row 3 vl (L.map (Value.int .i64))]
theorem sgB_d {w wr w5 : World} {r : Reg} {s vl : Value} {a : Option Addr} {n c : Nat} {D L : List Int} {x : Int} {g c2 : Nat} (h : Sep w none wr (SgB w r s (.slice a n c) vl D L))
    (A : App wr 0 3 (.slice a n c) (D.map (Value.int .i64)) (.int .i64 x) g c2 w5) (hn : n = D.length) : Sep w none w5 (SgB w r s (.slice (some ⟨g, 0, none⟩) (n + 1) c2) vl (D ++ [x]) L) := by
  have := h.app 1 rfl A
  rw [List.length_map, ← hn] at this
  unfold SgB
  rw [List.map_append]
  exact this
theorem sgB_l {w wr w5 : World} {r : Reg} {s vd : Value} {a : Option Addr} {n c : Nat} {D L : List Int} {x : Int} {g c2 : Nat} (h : Sep w none wr (SgB w r s vd (.slice a n c) D L))
    (A : App wr 0 3 (.slice a n c) (L.map (Value.int .i64)) (.int .i64 x) g c2 w5) (hn : n = L.length) : Sep w none w5 (SgB w r s vd (.slice (some ⟨g, 0, none⟩) (n + 1) c2) D (L ++ [x])) := by
  have := h.app 2 rfl A
  rw [List.length_map, ← hn] at this
  unfold SgB
  rw [List.map_append]
  exact this
set_option maxRecDepth 100000 in
set_option maxHeartbeats 4000000 in
theorem signs_mx (v : Value) (r : Reg) (w : World) (h : RegV w v r) (hv : r.valid = true) :
    Calls Try.prog 47 #[v] w fun e w' => ∃ u vs, e = .returned u ∧ Mx w w' 39 3 u vs (signR r) := by
  obtain ⟨ra, rc, rfl, hs, hlc, hcm⟩ := h.opened
  have S0 := Lib.hid ((((Sep.start w none).box #[.int .i64 r.wide, .int .i64 r.tall, .slice ra r.cells.length rc] 28).nil 3).nil 3)
  have HS := Lib.hid hs
  have RV : Hid (∀ w', Below w.heap.size w w' → RegV w' (.agg #[.int .i64 r.wide, .int .i64 r.tall, .slice ra r.cells.length rc]) r) := Lib.hid fun w' hb => ⟨_, rfl, HS.out.below hb⟩
  obtain ⟨v1, v2, v3, _⟩ := Reg.valid_iff.1 hv
  have hl36 : r.cells.length ≤ 36 := by have := area_in v1 v2; omega
  have HV3 := Lib.hid v3
  have HV := Lib.hid hv
  clear h hs v3 hv
  go_enter Try.func47, Try.ntmps47
  obtain ⟨x0, x1, x2⟩ := S0.out.c3 0 rfl
  go_wp2_with (fail)
  clear x0 x1 x2
  go_loopw [3, 4, 17] (fun d l i wr => ∃ (k m p : Nat) (a b : Option Addr) (c q : Nat) (D L : List Int), k ≤ r.cells.length ∧ i = .int .i64 k ∧ d = .slice a m c ∧ l = .slice b p q ∧ Hid (D = darkTo' r k) ∧ Hid (m = D.length) ∧ Hid (L = lightTo' r k) ∧ Hid (p = L.length) ∧ Sep w none wr (SgB w r (.slice ra r.cells.length rc) (.slice a m c) (.slice b p q) D L)) (fun _ _ i _ => r.cells.length - (intOf i).toNat)
  case atStart => exact ⟨0, 0, 0, none, none, 0, 0, [], [], Nat.zero_le _, rfl, rfl, rfl, Lib.hid rfl, Lib.hid rfl, Lib.hid rfl, Lib.hid rfl, S0.out⟩
  case round =>
    clear S0
    obtain ⟨k, m, p, a, b, c, q, D, L, hk, rfl, rfl, rfl, HD, HM, HL, HP, S⟩ := hrel
    have HS2 := Lib.hid S
    clear S
    by_cases hlt : k < r.cells.length
    · have hlt' : (k : Int) < (r.cells.length : Int) := by omega
      obtain ⟨_, _, _, rb, ro, rfl, hrb, hbc⟩ := bl_cell (HS.out.below HS2.out.bel) hlt
      have hm36 : m ≤ 36 := by rw [HM.out, HD.out]; have := darkTo_len r k; omega
      have hp36 : p ≤ 36 := by rw [HP.out, HL.out]; have := lightTo_len r k; omega
      obtain ⟨has, hhas⟩ : ∃ b, r.cells.getD k false = b := ⟨_, rfl⟩
      rw [hhas] at hbc
      have HF : Hid (r.f k = has) := Lib.hid hhas
      clear hhas
      obtain ⟨dk, hdk⟩ : ∃ b, darkB r.wide k = b := ⟨_, rfl⟩
      have HDK := Lib.hid hdk
      clear hdk
      obtain ⟨x0, x1, x2⟩ := HS2.out.c3 0 rfl
      cases has
      · have N1 : Hid (D = darkTo' r (k + 1)) := Lib.hid (by rw [darkTo_no (.inl HF.out)]; exact HD.out)
        have N2 : Hid (L = lightTo' r (k + 1)) := Lib.hid (by rw [lightTo_no (.inl HF.out)]; exact HL.out)
        go_wp2_with (fail)
        go_roundw
        case rel => exact ⟨k + 1, m, p, a, b, c, q, D, L, by omega, by go_num, rfl, rfl, N1, HM, N2, HP, HS2.out⟩
        case measure => simp [intOf]; omega
      · go_wp2_with (fail)
        refine (dark_is _ r k _ (RV.out _ HS2.out.bel) v1 (by omega) dk HDK.out).mono ?_
        rintro e w4 ⟨rfl, hb⟩
        have S4 := Lib.hid (HS2.out.below hb)
        clear hb HS2 x0 x1 x2 hbc hrb
        cases dk
        · have N1 : Hid (D = darkTo' r (k + 1)) := Lib.hid (by rw [darkTo_no (.inr HDK.out)]; exact HD.out)
          have N2 : Hid (L ++ [(k : Int)] = lightTo' r (k + 1)) := Lib.hid (by rw [lightTo_yes HF.out HDK.out, HL.out])
          go_wp2_with (at_builtin; refine list_app elem_ints 0 (.slice b p q) (L.map (Value.int .i64)) ?_ w4.heap.size (.int .i64 k) (.tmp 35) (.tmp 37) rfl rfl rfl rfl (heap_alloc_new _ _) rfl ?_ (Nat.zero_le _) ?_; exact Own.alloc (S4.out.own 2 rfl) _; (rw [List.length_map, ← HP.out]; omega); intro g2 c2 w5 A5; (have S5 := Lib.hid (sgB_l (S4.out.alloc _) A5 HP.out)); clear A5 S4; rw [List.length_map, ← HP.out])
          go_roundw
          case rel => exact ⟨k + 1, m, p + 1, a, some ⟨g2, 0, none⟩, c, c2, D, L ++ [(k : Int)], by omega, by go_num, rfl, rfl, N1, HM, N2, Lib.hid (by rw [List.length_append, ← HP.out]; rfl), S5.out⟩
          case measure => simp [intOf]; omega
        · have N1 : Hid (D ++ [(k : Int)] = darkTo' r (k + 1)) := Lib.hid (by rw [darkTo_yes HF.out HDK.out, HD.out])
          have N2 : Hid (L = lightTo' r (k + 1)) := Lib.hid (by rw [lightTo_no (.inr HDK.out)]; exact HL.out)
          go_wp2_with (at_builtin; refine list_app elem_ints 0 (.slice a m c) (D.map (Value.int .i64)) ?_ w4.heap.size (.int .i64 k) (.tmp 29) (.tmp 31) rfl rfl rfl rfl (heap_alloc_new _ _) rfl ?_ (Nat.zero_le _) ?_; exact Own.alloc (S4.out.own 1 rfl) _; (rw [List.length_map, ← HM.out]; omega); intro g2 c2 w5 A5; (have S5 := Lib.hid (sgB_d (S4.out.alloc _) A5 HM.out)); clear A5 S4; rw [List.length_map, ← HM.out])
          go_roundw
          case rel => exact ⟨k + 1, m + 1, p, some ⟨g2, 0, none⟩, b, c2, q, D ++ [(k : Int)], L, by omega, by go_num, rfl, rfl, N1, Lib.hid (by rw [List.length_append, ← HM.out]; rfl), N2, HP, S5.out⟩
          case measure => simp [intOf]; omega
    · have e : k = r.cells.length := by omega
      subst e
      have ED : Hid (darkL r = D) := Lib.hid HD.out.symm
      have EL : Hid (lightL r = L) := Lib.hid HL.out.symm
      have hm36 : m ≤ 36 := by rw [HM.out, HD.out]; exact Nat.le_trans (darkTo_len r _) hl36
      have hp36 : p ≤ 36 := by rw [HP.out, HL.out]; exact Nat.le_trans (lightTo_len r _) hl36
      clear HD HL hk hlt
      go_wp2_with (at_make; refine list_make elem_rows (.slice none 0 0) zero_row rfl m (.tmp 41) (.tmp 41) rfl rfl (m : Int) ?_ ?_ rfl ?_ ?_ ?_; rfl; rfl; omega; omega; intro cs hcs; have M0 := Lib.hid (Mx.start (w := wr) (tO := 39) (tR := 3) hcs (by omega)))
      have HB := HS2
      obtain ⟨wB, hwB⟩ : ∃ wB, wB = wr := ⟨_, rfl⟩
      rw [← hwB] at M0 HB ⊢
      clear hwB HS2
      have M1 : Hid (Mx wB _ 39 3 _ (List.replicate m nilV) (signTo r 0)) := Lib.hid (by
        rw [signTo_zero, ED.out, ← HM.out]; exact M0.out)
      clear M0
      obtain ⟨g, hg⟩ : ∃ g, wB.heap.size = g := ⟨_, rfl⟩
      rw [hg] at M1 ⊢
      clear hg
      go_wp2_with (fail)
      go_loopw [45] (fun i wq => ∃ (k : Nat) (vs : List Value), k ≤ m ∧ i = .int .i64 k ∧ Mx wB wq 39 3 (.slice (some ⟨g, 0, none⟩) m m) vs (signTo r k)) (fun i _ => m - (intOf i).toNat)
      case atStart => exact ⟨0, _, Nat.zero_le _, rfl, M1.out⟩
      case round =>
        clear M1
        obtain ⟨k, vs, hk, rfl, hmx⟩ := hrel
        have MX := Lib.hid hmx
        clear hmx
        have SX := Lib.hid (HB.out.below MX.out.bel)
        by_cases hlt : k < m
        · have hlt' : (k : Int) < (m : Int) := by omega
          obtain ⟨x, hx⟩ : ∃ x, D.getD k 0 = x := ⟨_, rfl⟩
          obtain ⟨ab, ao, rfl, hab, hac⟩ := il_get (SX.out.own 1 rfl).sl (L := D) (j := k) (by rw [← HM.out]; exact hlt)
          rw [hx] at hac
          have hxb : 0 ≤ x ∧ x < r.wide * r.tall := by
            have hmem : x ∈ darkL r := by rw [ED.out, ← hx, ← Domi.get_at D 0 k (by rw [← HM.out]; exact hlt)]; exact List.getElem_mem _
            obtain ⟨kk, h1, _, h2⟩ := mem_dark.1 hmem
            have := HV3.out
            omega
          have HX : Hid ((darkL r).getD k 0 = x) := Lib.hid (by rw [ED.out]; exact hx)
          have HXB := Lib.hid hxb
          have hx36 : 0 ≤ x ∧ x ≤ 100 := by have := area_in v1 v2; omega
          obtain ⟨y0, y1, y2⟩ := MX.out.outAt (i := k) (by rw [signTo_len, ED.out, ← HM.out]; exact hlt)
          clear hx hxb
          go_wp2_with (at_make; refine list_make elem_ints (.int .i64 0) zero_int rfl p (.tmp 53) (.tmp 53) rfl rfl (p : Int) ?_ ?_ rfl ?_ ?_ ?_; rfl; rfl; omega; omega; intro cs hcs; (have O0 := Lib.hid (Own.made (w := wr) (e := 3) hcs (Nat.le_refl _) (by omega))); (have z0 := (MX.out.kept (World.grownBy_alloc wr (.cells cs 3) none)).outAt (i := k) (by rw [signTo_len, ED.out, ← HM.out]; exact hlt)); obtain ⟨z0, z1, z2⟩ := z0)
          have MK := Lib.hid (MX.out.setRow (World.grownBy_alloc wr (.cells cs 3) none) (rv := .slice (some ⟨wr.heap.size, 0, none⟩) p p) (row := rowTo r x 0) (i := k)
            (by rw [rowTo_zero, EL.out, ← HP.out, List.map_replicate]; exact O0.out) (by rw [signTo_len, ED.out, ← HM.out]; exact hlt))
          rw [World.setCell_alloc_past _ _ _ _ y2] at MK
          clear O0 MX SX y0 y1 y2 z0 z1 z2 hac
          obtain ⟨vs1, hvs1⟩ : ∃ vs1, vs1 = vs.set k (.slice (some ⟨wr.heap.size, 0, none⟩) p p) := ⟨_, rfl⟩
          rw [← hvs1] at MK
          clear hvs1
          go_loopw [10] (fun i wr => ∃ (j : Nat) (wy : Int) (vs : List Value), Hid (wy = (j : Int) + 1) ∧ wy ≤ 5 ∧ i = .int .i64 wy ∧ Mx wB wr 39 3 (.slice (some ⟨g, 0, none⟩) m m) vs ((signTo r k).set k (rowTo r x j))) (fun i _ => (6 - intOf i).toNat)
          case atStart => exact ⟨0, 1, _, Lib.hid rfl, by omega, rfl, MK.out⟩
          case round =>
            clear MK
            obtain ⟨j, wy, vs2, HJ, hw5, rfl, hmx⟩ := hrel
            have MX := Lib.hid hmx
            clear hmx
            have hj1 : 1 ≤ wy := by have := HJ.out; omega
            have HKL : Hid (k < (signTo r k).length) := Lib.hid (by rw [signTo_len, ED.out, ← HM.out]; exact hlt)
            by_cases hj4 : wy ≤ 4
            · obtain ⟨s, hs⟩ : ∃ s, stepI r x wy = s := ⟨_, rfl⟩
              have HSt := Lib.hid hs
              clear hs
              obtain ⟨x0, x1, x2⟩ := (HB.out.below MX.out.bel).c3 0 rfl
              go_wp2_with (fail)
              refine (step7_is _ r x wy _ (RV.out _ (HB.out.below MX.out.bel).bel) HV.out HXB.out.1 HXB.out.2 s HSt.out).mono ?_
              rintro e w4 ⟨rfl, hb⟩
              have MX4 := Lib.hid (MX.out.below hb)
              clear hb MX x0 x1 x2
              have SX := Lib.hid (HB.out.below MX4.out.bel)
              go_wp2_with (fail)
              refine (Index_ix _ L s _ (by have := (SX.out.own 2 rfl).sl; exact this)).mono ?_
              rintro e w5 ⟨n, rfl, hix, rfl⟩
              rcases hix with ⟨kk, rfl, hkk, hlk⟩ | ⟨rfl, hno⟩
              · have hkp : kk < p := by rw [HP.out]; exact hkk
                have HW1 := Lib.hid (show (rowTo r x j).set kk (sgnV r x (j + 1)) = rowTo r x (j + 1) from rowTo_hit (by rw [EL.out]; exact hkk) (by rw [EL.out, hlk, ← HSt.out, HJ.out]))
                have hlen : (rowTo r x j).length = p := by rw [rowTo_len, EL.out, HP.out]
                obtain ⟨rb, rc2, hrv, hrb, _, hrc1, hrc2, hrcell⟩ := MX4.out.rowAt (i := k) (by rw [List.length_set]; exact HKL.out) (by rw [getD_set _ _ _ _ _ HKL.out, if_pos rfl, hlen]; omega)
                rw [getD_set _ _ _ _ _ HKL.out, if_pos rfl, hlen] at hrv hrc1 hrcell
                obtain ⟨o1, o2, o3⟩ := MX4.out.outAt (i := k) (by rw [List.length_set]; exact HKL.out)
                rw [hrv] at o1
                obtain ⟨r1, r2⟩ := hrcell kk hkp
                have HRV := Lib.hid hrv
                have MX5 := Lib.hid (MX4.out.put2 HKL.out hrv kk 1)
                clear hlk hrcell hrv hkk MX4 SX
                have hn0 : ¬ (kk : Int) < 0 := by omega
                have hkp' : (kk : Int) < (p : Int) := by omega
                obtain ⟨x0, x1, x2⟩ := (HB.out.below MX5.out.bel).c3 0 rfl
                have hm1 := Int.emod_nonneg x (b := r.wide) (by omega)
                have hm2 := Int.emod_lt_of_pos x (b := r.wide) (by omega)
                obtain ⟨o1', o2', o3'⟩ := MX5.out.outAt (i := k) (by rw [List.length_set]; exact HKL.out)
                rw [HRV.out] at o1'
                go_wp2_with (fail)
                refine (xy_any _ r x _ (RV.out _ (HB.out.below MX5.out.bel).bel) (by omega) (by omega)).mono ?_
                rintro e w6 ⟨rfl, hb⟩
                have MX6 := Lib.hid (MX5.out.below hb)
                obtain ⟨p1, p2, p3⟩ := MX6.out.outAt (i := k) (by rw [List.length_set]; exact HKL.out)
                rw [HRV.out] at p1
                have hlen2 : ((rowTo r x j).set kk 1).length = p := by rw [List.length_set, rowTo_len, EL.out, HP.out]
                obtain ⟨rb', rc', hrv', hrb', _, hc1', hc2', hcell'⟩ := MX6.out.rowAt (i := k) (by rw [List.length_set]; exact HKL.out) (by rw [getD_set _ _ _ _ _ HKL.out, if_pos rfl, hlen2]; omega)
                rw [getD_set _ _ _ _ _ HKL.out, if_pos rfl, hlen2] at hcell'
                rw [HRV.out] at hrv'
                simp only [Value.slice.injEq, Option.some.injEq, Addr.mk.injEq, and_true] at hrv'
                obtain ⟨rfl, -, rfl⟩ := hrv'
                obtain ⟨q1, q2⟩ := hcell' kk hkp
                have MXY := Lib.hid (MX6.out.put2 HKL.out HRV.out kk (-1))
                rw [List.set_set] at MXY
                clear hb x0 x1 x2 MX5 o1 o2 o3 o1' o2' o3' r1 r2 hcell' hlen2 hlen
                obtain ⟨xm, hxm⟩ : ∃ xm, x % r.wide = xm := ⟨_, rfl⟩
                rw [hxm] at hm1 hm2 ⊢
                have HXM := Lib.hid hxm
                clear hxm
                have K1 : Hid (sgnV r x (j + 1) = 1 → Mx wB w6 39 3 (.slice (some ⟨g, 0, none⟩) m m) vs2 ((signTo r k).set k (rowTo r x (j + 1)))) := Lib.hid (fun e => by rw [← HW1.out, e]; exact MX6.out)
                have K2 : Hid (sgnV r x (j + 1) = -1 → Mx wB (w6.setCell ⟨rb, kk, none⟩ (.int .i64 (-1))) 39 3 (.slice (some ⟨g, 0, none⟩) m m) vs2 ((signTo r k).set k (rowTo r x (j + 1)))) := Lib.hid (fun e => by rw [← HW1.out, e]; exact MXY.out)
                clear MX6 MXY HW1 HRV
                generalize x / r.wide = xq at *
                have hwy : wy = 1 ∨ wy = 2 ∨ wy = 3 ∨ wy = 4 := by omega
                have htm : xm.tmod 2 = xm % 2 := Int.tmod_eq_emod_of_nonneg hm1
                have hpar : xm % 2 = 0 ∨ xm % 2 = 1 := by omega
                clear hw5 hj1 hj4
                rcases hwy with rfl | rfl | rfl | rfl <;> rcases hpar with hpar | hpar <;> rw [hpar] at htm
                · go_wp2_with (fail)
                  go_roundw
                  case rel => exact ⟨j + 1, 2, vs2, Lib.hid (by have := HJ.out; omega), by omega, by go_num, K1.out (by unfold sgnV; rw [HXM.out]; have := HJ.out; rw [if_neg (by omega)])⟩
                  case measure => simp [intOf]; try omega
                · go_wp2_with (fail)
                  go_roundw
                  case rel => exact ⟨j + 1, 2, vs2, Lib.hid (by have := HJ.out; omega), by omega, by go_num, K1.out (by unfold sgnV; rw [HXM.out]; have := HJ.out; rw [if_neg (by omega)])⟩
                  case measure => simp [intOf]; try omega
                · go_wp2_with (fail)
                  go_roundw
                  case rel => exact ⟨j + 1, 3, vs2, Lib.hid (by have := HJ.out; omega), by omega, by go_num, K1.out (by unfold sgnV; rw [HXM.out]; have := HJ.out; rw [if_neg (by omega)])⟩
                  case measure => simp [intOf]; try omega
                · go_wp2_with (fail)
                  go_roundw
                  case rel => exact ⟨j + 1, 3, vs2, Lib.hid (by have := HJ.out; omega), by omega, by go_num, K2.out (by unfold sgnV; rw [HXM.out]; have := HJ.out; rw [if_pos (by omega)])⟩
                  case measure => simp [intOf]; try omega
                · go_wp2_with (fail)
                  go_roundw
                  case rel => exact ⟨j + 1, 4, vs2, Lib.hid (by have := HJ.out; omega), by omega, by go_num, K1.out (by unfold sgnV; rw [HXM.out]; have := HJ.out; rw [if_neg (by omega)])⟩
                  case measure => simp [intOf]; try omega
                · go_wp2_with (fail)
                  go_roundw
                  case rel => exact ⟨j + 1, 4, vs2, Lib.hid (by have := HJ.out; omega), by omega, by go_num, K1.out (by unfold sgnV; rw [HXM.out]; have := HJ.out; rw [if_neg (by omega)])⟩
                  case measure => simp [intOf]; try omega
                · go_wp2_with (fail)
                  go_roundw
                  case rel => exact ⟨j + 1, 5, vs2, Lib.hid (by have := HJ.out; omega), by omega, by go_num, K1.out (by unfold sgnV; rw [HXM.out]; have := HJ.out; rw [if_neg (by omega)])⟩
                  case measure => simp [intOf]; try omega
                · go_wp2_with (fail)
                  go_roundw
                  case rel => exact ⟨j + 1, 5, vs2, Lib.hid (by have := HJ.out; omega), by omega, by go_num, K2.out (by unfold sgnV; rw [HXM.out]; have := HJ.out; rw [if_pos (by omega)])⟩
                  case measure => simp [intOf]; try omega
              · have NR : Hid (rowTo r x (j + 1) = rowTo r x j) := Lib.hid (rowTo_miss (by rw [EL.out]; intro i hi; have := hno i hi; rw [← HSt.out, HJ.out] at this; exact this))
                clear hno
                go_wp2_with (fail)
                go_roundw
                case rel => exact ⟨j + 1, wy + 1, vs2, Lib.hid (by rw [HJ.out]; push_cast; rfl), by omega, by go_num, by rw [NR.out]; exact MX4.out⟩
                case measure => simp [intOf]; omega
            · have e5 : wy = 5 := by omega
              subst e5
              have NX : Hid (Mx wB wr 39 3 (.slice (some ⟨g, 0, none⟩) m m) vs2 (signTo r (k + 1))) := Lib.hid (by
                have e4 : j = 4 := by have := HJ.out; omega
                subst e4
                have := signTo_set (r := r) (i := k) (by rw [ED.out, ← HM.out]; exact hlt)
                rw [HX.out] at this
                rw [← this]; exact MX.out)
              clear MX HJ hj1 hj4 hw5
              go_wp2
              go_roundw
              case rel => exact ⟨k + 1, vs2, by omega, by go_num, NX.out⟩
              case measure => simp [intOf]; omega
        · have e : k = m := by omega
          subst e
          have RX : Hid (Mx w wr 39 3 (.slice (some ⟨g, 0, none⟩) k k) vs (signR r)) := Lib.hid (by
            rw [← signTo_all, ED.out, ← HM.out]
            exact MX.out.base HB.out.g)
          clear MX SX HB hlt hk
          go_wp2
          go_ret
          exact ⟨_, _, rfl, RX.out⟩
set_option maxRecDepth 100000 in
set_option maxHeartbeats 1000000 in
theorem SignMatrix_mx (v : Value) (r : Reg) (w : World) (h : RegV w v r) :
    Calls Try.prog 13 #[v] w fun e w' => ∃ u vs, e = .returned u ∧ Mx w w' 39 3 u vs (signM r) := by
  obtain ⟨ra, rc, rfl, hs, hlc, hcm⟩ := h.opened
  have R := Lib.hid (RB.new hs)
  have B0 := Lib.hid (below_alloc w (.cells #[.int .i64 r.wide, .int .i64 r.tall, .slice ra r.cells.length rc] 28))
  clear h hs
  go_enter Try.func13, Try.ntmps13
  go_wp2_with (fail)
  cases hb0 : r.bal
  · refine (Balanced_is _ r _ R.out.v false hb0).mono ?_
    rintro e w1 ⟨rfl, hb⟩
    have M := Lib.hid (show Mx w w1 39 3 nilV [] (signM r) by rw [signM_no hb0]; exact (Mx.empty w 39 3).below (B0.out.trans (hb.mono B0.out.size)))
    clear hb
    go_wp2
    go_ret
    exact ⟨_, _, rfl, M.out⟩
  · refine (Balanced_is _ r _ R.out.v true hb0).mono ?_
    rintro e w1 ⟨rfl, hb⟩
    have B1 := Lib.hid (B0.out.trans (hb.mono B0.out.size))
    have R1 := Lib.hid (R.out.on hb)
    have HV : Hid (r.valid = true) := Lib.hid (by cases hv : r.valid; rw [bal_no hv] at hb0; cases hb0; rfl)
    have HE := Lib.hid (signM_yes hb0)
    clear hb hb0
    obtain ⟨x0, x1, x2⟩ := R1.out.c3
    go_wp2_with (fail)
    refine (signs_mx _ r _ R1.out.v HV.out).mono ?_
    rintro e w2 ⟨u, vs, rfl, hm⟩
    have M := Lib.hid (show Mx w w2 39 3 u vs (signM r) by rw [HE.out]; exact hm.base (grown_below B1.out none))
    clear hm x0 x1 x2
    go_wp2
    go_ret
    exact ⟨_, _, rfl, M.out⟩
end Go.Proofs.Ytklifibiadiinaa
