/- Walks: texts of dominoes, the reference's. -/
import Derived.Test.YtklifibiadiinaaDoorZc
import Derived.Test.YtklifibiadiinaaDoorVWltx
import Derived.Test.YtklifibiadiinaaDoorVWtxtS
set_option linter.unusedVariables false
namespace Go.Proofs.YtklifibiadiinaaDoor
open Go.RowKit Domi

set_option maxRecDepth 100000 in
set_option maxHeartbeats 4000000 in
theorem sLaidText_any (v u : Value) (r : Reg) (L : List Int) (w : World) (h : RegV w v r) (hu : Il w u L) (hb1 : -1000 ≤ r.wide ∧ r.wide ≤ 1000) (hb2 : -1000 ≤ r.tall ∧ r.tall ≤ 1000) :
    Calls Tryd.prog 9 #[v, u] w (Ret (.string (bs (laidText r L))) w) := by
  obtain ⟨a, c, rfl, hs, hlc, hcm⟩ := h.opened
  obtain ⟨la, lc, rfl, hul, hum, _⟩ := hu.opened
  have R := RB.new hs
  have B0 := Lib.hid (below_alloc w (.cells #[.int .i64 r.wide, .int .i64 r.tall, .slice a r.cells.length c] 25))
  obtain ⟨W, hW⟩ : ∃ W, W = w.alloc (.cells #[.int .i64 r.wide, .int .i64 r.tall, .slice a r.cells.length c] 25) := ⟨_, rfl⟩
  have HU := Lib.hid hu
  clear h hs hu
  go_enter Tryd.func9, Tryd.ntmps9
  go_wp2_with (fail)
  rw [← hW] at R B0 ⊢
  clear hW
  have R := Lib.hid R
  have HI := Lib.hid (HU.out.below B0.out)
  cases hv : laidOk r L
  · have HV := Lib.hid hv
    have HT := Lib.hid (laidText_no hv)
    clear hv
    go_loopw [5, 6] (fun o i wr => o = .string (bs []) ∧ i = .int .i64 (r.tall - 1) ∧ Below W.heap.size W wr) (fun _ _ _ => 0)
    case atStart => exact ⟨rfl, by go_num, Below.refl _ _⟩
    case round =>
      obtain ⟨rfl, rfl, hbel⟩ := hrel
      have R1 := Lib.hid (R.out.on hbel)
      have I1 := Lib.hid (HI.out.below hbel)
      have BE := Lib.hid (B0.out.trans (hbel.mono B0.out.size))
      clear hbel
      obtain ⟨x0, x1, x2⟩ := R1.out.c3
      by_cases h0 : 0 ≤ r.tall - 1
      · go_wp2_with (fail)
        refine (sLaidOk_is _ _ r L _ R1.out.v I1.out false HV.out).mono ?_
        rintro e w1 ⟨rfl, hb⟩
        have BF := Lib.hid (BE.out.trans (hb.mono BE.out.size))
        clear hb x0 x1 x2
        go_wp2
        go_ret
        exact ⟨by rw [HT.out]; rfl, BF.out⟩
      · go_wp2
        go_ret
        exact ⟨by rw [HT.out]; rfl, BE.out⟩
  · obtain ⟨hrv, hlen, _⟩ := laidOk_iff.1 hv
    obtain ⟨v1, v2, v3, v4⟩ := Reg.valid_iff.1 hrv
    have HV := Lib.hid hv
    have HBD := Lib.hid (laidOk_bd hv)
    have HT := Lib.hid (laidText_yes hv)
    obtain ⟨w0, hw0⟩ : ∃ w0, r.wide.toNat = w0 := ⟨_, rfl⟩
    obtain ⟨t, ht⟩ : ∃ t, r.tall.toNat = t := ⟨_, rfl⟩
    rw [hw0, ht] at HT
    have hWI : r.wide = (w0 : Int) := by omega
    have hTI : r.tall = (t : Int) := by omega
    have HWI := Lib.hid hWI
    have HTI := Lib.hid hTI
    have hw6 : 1 ≤ w0 ∧ w0 ≤ 6 := by omega
    have ht6 : 1 ≤ t ∧ t ≤ 6 := by omega
    have HLen : Hid (r.cells.length = t * w0) := Lib.hid (by
      have e := v3
      rw [hWI, hTI, ← Int.natCast_mul] at e
      rw [Nat.mul_comm]; omega)
    have HLL := Lib.hid hlen
    rw [hTI]
    clear hw0 ht hWI hTI v1 v2 v3 v4 hv hb1 hb2 hlen hrv
    go_loopw [5, 6] (fun o i wr => ∃ (n : Nat) (iv : Int) (S : ByteArray), n ≤ t ∧ o = .string S ∧ Hid (S = bs (accU (sgnL r L) w0 t n)) ∧ i = .int .i64 iv ∧ Hid (iv = (t : Int) - 1 - n) ∧ Below W.heap.size W wr) (fun _ i _ => (intOf i + 1).toNat)
    case atStart => exact ⟨0, (t : Int) - 1, bs [], Nat.zero_le _, rfl, Lib.hid rfl, by go_num, Lib.hid (by omega), Below.refl _ _⟩
    case round =>
      obtain ⟨n, iv, S, hn, rfl, HS, rfl, HI2, hbel⟩ := hrel
      have R1 := Lib.hid (R.out.on hbel)
      have I1 := Lib.hid (HI.out.below hbel)
      have BE := Lib.hid (B0.out.trans (hbel.mono B0.out.size))
      have BW := Lib.hid hbel
      have hiv : -1 ≤ iv ∧ iv ≤ 5 := by have := HI2.out; omega
      clear hbel
      by_cases h0 : 0 ≤ iv
      · obtain ⟨y, rfl⟩ := Int.eq_ofNat_of_zero_le h0
        have HY : Hid (t - 1 - n = y ∧ y < t) := Lib.hid (by have := HI2.out; omega)
        obtain ⟨x0, x1, x2⟩ := R1.out.c3
        go_wp2_with (fail)
        refine (sLaidOk_is _ _ r L _ R1.out.v I1.out true HV.out).mono ?_
        rintro e w1 ⟨rfl, hb⟩
        have BW := Lib.hid (BW.out.trans (hb.mono BW.out.size))
        clear hb x0 x1 x2 R1 BE I1
        go_wp2_with (fail)
        go_loopw [5, 7] (fun o i wr => ∃ (x : Nat) (S : ByteArray), x ≤ w0 ∧ o = .string S ∧ Hid (S = bs (accU (sgnL r L) w0 t n ++ rowU (sgnL r L) w0 y x)) ∧ i = .int .i64 x ∧ Below W.heap.size W wr) (fun _ i _ => w0 - (intOf i).toNat)
        case atStart => exact ⟨0, S, Nat.zero_le _, rfl, Lib.hid (by rw [HS.out]; simp [rowU]), rfl, BW.out⟩
        case round =>
          obtain ⟨x, S2, hx, rfl, HS2, rfl, hbel⟩ := hrel
          have R1 := Lib.hid (R.out.on hbel)
          have I1 := Lib.hid (HI.out.below hbel)
          have BW := Lib.hid hbel
          clear hbel
          have hsz : S2.size ≤ 60 := by
            rw [HS2.out, bs_size, List.length_append, rowU_len]
            have h1 := acc_len (sgnL r L) w0 t n
            have h2 : n * (w0 + 1) ≤ 6 * 7 := Nat.mul_le_mul (by omega) (by omega)
            omega
          obtain ⟨x0, x1, x2⟩ := R1.out.c3
          by_cases hxw : x < w0
          · have hxw' : (x : Int) < r.wide := by have := HWI.out; omega
            obtain ⟨k, hk⟩ : ∃ k, y * w0 + x = k := ⟨_, rfl⟩
            have HK := Lib.hid hk
            have hkl : k < r.cells.length := by
              have := HY.out.2
              have h2 : (y + 1) * w0 ≤ t * w0 := Nat.mul_le_mul_right _ (by omega)
              rw [Nat.add_mul, Nat.one_mul] at h2
              rw [HLen.out]; omega
            have hk36 : k < 36 := by
              have : t * w0 ≤ 36 := Nat.mul_le_mul ht6.2 hw6.2
              rw [HLen.out] at hkl; omega
            have hkI : (y : Int) * r.wide + (x : Int) = (k : Int) := by rw [HWI.out, ← hk]; push_cast; rfl
            have hyw : 0 ≤ (y : Int) * r.wide ∧ (y : Int) * r.wide ≤ 36 := by
              have : 0 ≤ (y : Int) * r.wide := Int.mul_nonneg (by omega) (by omega)
              omega
            obtain ⟨_, _, _, cb, co, e, hcb, hcc⟩ := bl_cell R1.out.bl hkl
            subst e
            have hkl' : (k : Int) < (r.cells.length : Int) := by omega
            obtain ⟨lb, lo, e, hlb, hlcell⟩ := il_at10 I1.out (j := k) (by rw [HLL.out]; exact hkl)
            subst e
            have hkL' : (k : Int) < (L.length : Int) := by rw [HLL.out]; exact hkl'
            have HFK : Hid (sgnL r L k = if r.cells.getD k false then waySg (L.getD k 0) else 46) := Lib.hid rfl
            have hbk := HBD.out k
            obtain ⟨z, hz⟩ : ∃ z, L.getD k 0 = z := ⟨_, rfl⟩
            rw [hz] at hlcell HFK hbk
            clear hz hk
            cases hh : r.cells.getD k false
            · rw [hh] at hcc HFK
              have NS : Hid (S2 ++ (⟨#[46]⟩ : ByteArray) = bs (accU (sgnL r L) w0 t n ++ rowU (sgnL r L) w0 y (x + 1))) := Lib.hid (by
                rw [HS2.out, bs_add, rowU_succ, List.append_assoc, HK.out, HFK.out]; rfl)
              clear hh HFK hbk
              go_wp2_with (fail)
              go_roundw
              case rel => exact ⟨x + 1, _, by omega, rfl, NS, by go_num, BW.out⟩
              case measure => simp [intOf]; omega
            · rw [hh] at hcc HFK
              have NS : ∀ ch : UInt8, waySg z = ch → Hid (S2 ++ (⟨#[ch]⟩ : ByteArray) = bs (accU (sgnL r L) w0 t n ++ rowU (sgnL r L) w0 y (x + 1))) := fun ch hch => Lib.hid (by
                rw [HS2.out, bs_add, rowU_succ, List.append_assoc, HK.out, HFK.out, ← hch]; rfl)
              have hz5 : z = 0 ∨ z = 1 ∨ z = 2 ∨ z = 3 ∨ z = 4 := by omega
              have BA : Hid (∀ o : Obj, Below W.heap.size W (wr.alloc o)) := Lib.hid fun o => BW.out.trans ((below_alloc wr o).mono BW.out.size)
              clear hh hbk HFK
              rcases hz5 with rfl | rfl | rfl | rfl | rfl
              · have NS := NS 35 rfl
                go_wp2_with (fail)
                go_roundw
                case rel => exact ⟨x + 1, _, by omega, rfl, NS, by go_num, BA.out _⟩
                case measure => simp [intOf]; omega
              · have NS := NS 101 rfl
                go_wp2_with (fail)
                go_roundw
                case rel => exact ⟨x + 1, _, by omega, rfl, NS, by go_num, BA.out _⟩
                case measure => simp [intOf]; omega
              · have NS := NS 110 rfl
                go_wp2_with (fail)
                go_roundw
                case rel => exact ⟨x + 1, _, by omega, rfl, NS, by go_num, BA.out _⟩
                case measure => simp [intOf]; omega
              · have NS := NS 119 rfl
                go_wp2_with (fail)
                go_roundw
                case rel => exact ⟨x + 1, _, by omega, rfl, NS, by go_num, BA.out _⟩
                case measure => simp [intOf]; omega
              · have NS := NS 115 rfl
                go_wp2_with (fail)
                go_roundw
                case rel => exact ⟨x + 1, _, by omega, rfl, NS, by go_num, BA.out _⟩
                case measure => simp [intOf]; omega
          · have e : x = w0 := by omega
            have hxw' : ¬ (x : Int) < r.wide := by have := HWI.out; omega
            subst e
            have HN : Hid (accU (sgnL r L) x t (n + 1) = accU (sgnL r L) x t n ++ rowU (sgnL r L) x y x ++ if n + 1 < t then [47] else []) := Lib.hid (by rw [accU, HY.out.1])
            clear x1 x2 R1
            by_cases hy0 : 0 < (y : Int)
            · have NS : Hid (S2 ++ (⟨#[47]⟩ : ByteArray) = bs (accU (sgnL r L) x t (n + 1))) := Lib.hid (by
                rw [HS2.out, bs_add, HN.out, if_pos (by have := HY.out; omega)])
              go_wp2_with (fail)
              go_roundw
              case rel => exact ⟨n + 1, (y : Int) - 1, _, by have := HI2.out; omega, rfl, NS, by go_num, Lib.hid (by have := HI2.out; push_cast; omega), BW.out⟩
              case measure => simp [intOf]; try omega
            · have NS : Hid (S2 = bs (accU (sgnL r L) x t (n + 1))) := Lib.hid (by
                rw [HS2.out, HN.out, if_neg (by have := HY.out; omega), List.append_nil])
              go_wp2_with (fail)
              go_roundw
              case rel => exact ⟨n + 1, (y : Int) - 1, _, by have := HI2.out; omega, rfl, NS, by go_num, Lib.hid (by have := HI2.out; push_cast; omega), BW.out⟩
              case measure => simp [intOf]; try omega
      · have e : n = t := by have := HI2.out; omega
        subst e
        have HSS : Hid (S = bs (laidText r L)) := Lib.hid (by rw [HS.out, HT.out, acc_all _ _ _ ht6.1])
        clear HS HT
        go_wp2
        go_ret
        exact ⟨by rw [← HSS.out]; rfl, BE.out⟩
end Go.Proofs.YtklifibiadiinaaDoor
