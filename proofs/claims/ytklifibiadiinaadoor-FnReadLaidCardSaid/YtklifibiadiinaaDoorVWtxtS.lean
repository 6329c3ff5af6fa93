/- Walks: texts of regions, the reference's. -/
import Derived.Test.YtklifibiadiinaaDoorVWtxt
import Derived.Test.YtklifibiadiinaaDoorVWk
set_option linter.unusedVariables false
namespace Go.Proofs.YtklifibiadiinaaDoor
open Go.RowKit Domi

theorem tl1At_is (v : Value) (r : Reg) (x y : Int) (w : World) (h : RegV w v r) (hv : r.valid = true) (hx : -100 ≤ x ∧ x ≤ 100) (hy : -100 ≤ y ∧ y ≤ 100) (b : Bool) (hb : r.at_ x y = b) :
    Calls Tryd.prog 41 #[v, .int .i64 x, .int .i64 y] w (Ret (.bool b) w) := by
  rw [← hb]; exact l1At_any v r x y w h hv hx hy
theorem bs_add (l : List UInt8) (c : UInt8) : bs l ++ (⟨#[c]⟩ : ByteArray) = bs (l ++ [c]) := bs_app l [c]
set_option maxRecDepth 100000 in
set_option maxHeartbeats 4000000 in
theorem sRegionText_any (v : Value) (r : Reg) (w : World) (h : RegV w v r) (hb1 : -1000 ≤ r.wide ∧ r.wide ≤ 1000) (hb2 : -1000 ≤ r.tall ∧ r.tall ≤ 1000) :
    Calls Tryd.prog 19 #[v] w (Ret (.string (bs (rgText r))) w) := by
  obtain ⟨a, c, rfl, hs, hlc, hcm⟩ := h.opened
  have R := RB.new hs
  have B0 := Lib.hid (below_alloc w (.cells #[.int .i64 r.wide, .int .i64 r.tall, .slice a r.cells.length c] 25))
  obtain ⟨W, hW⟩ : ∃ W, W = w.alloc (.cells #[.int .i64 r.wide, .int .i64 r.tall, .slice a r.cells.length c] 25) := ⟨_, rfl⟩
  clear h hs
  go_enter Tryd.func19, Tryd.ntmps19
  go_wp2_with (fail)
  rw [← hW] at R B0 ⊢
  clear hW
  have R := Lib.hid R
  cases hv : r.valid
  · have HV := Lib.hid hv
    have HT := Lib.hid (rgText_no hv)
    clear hv
    go_loopw [3, 4] (fun o i wr => o = .string (bs []) ∧ i = .int .i64 (r.tall - 1) ∧ Below W.heap.size W wr) (fun _ _ _ => 0)
    case atStart => exact ⟨rfl, by go_num, Below.refl _ _⟩
    case round =>
      obtain ⟨rfl, rfl, hbel⟩ := hrel
      have R1 := Lib.hid (R.out.on hbel)
      have BE := Lib.hid (B0.out.trans (hbel.mono B0.out.size))
      clear hbel
      obtain ⟨x0, x1, x2⟩ := R1.out.c3
      by_cases h0 : 0 ≤ r.tall - 1
      · go_wp2_with (fail)
        refine (sRegionValid_is _ r _ R1.out.v false HV.out).mono ?_
        rintro e w1 ⟨rfl, hb⟩
        have BF := Lib.hid (BE.out.trans (hb.mono BE.out.size))
        clear hb x0 x1 x2
        go_wp2
        go_ret
        exact ⟨by rw [HT.out]; rfl, BF.out⟩
      · go_wp2
        go_ret
        exact ⟨by rw [HT.out]; rfl, BE.out⟩
  · obtain ⟨v1, v2, v3, _⟩ := Reg.valid_iff.1 hv
    have HV := Lib.hid hv
    have HT := Lib.hid (rgText_yes hv)
    obtain ⟨w0, hw0⟩ : ∃ w0, r.wide.toNat = w0 := ⟨_, rfl⟩
    obtain ⟨t, ht⟩ : ∃ t, r.tall.toNat = t := ⟨_, rfl⟩
    rw [hw0, ht] at HT
    have hWI : r.wide = (w0 : Int) := by omega
    have hTI : r.tall = (t : Int) := by omega
    have HWI := Lib.hid hWI
    have HTI := Lib.hid hTI
    have hw6 : 1 ≤ w0 ∧ w0 ≤ 6 := by omega
    have ht6 : 1 ≤ t ∧ t ≤ 6 := by omega
    have hat : ∀ y x : Nat, y < t → x < w0 → r.at_ x y = r.f (y * w0 + x) := fun y x hy hx => by
      rw [at_cell (inB_iff.2 (by omega)) (inB_iff.2 (by omega)), hWI]
      unfold Reg.f
      congr 1
    have HAT := Lib.hid hat
    rw [hTI]
    clear hw0 ht hWI hTI v1 v2 v3 hat hv hb1 hb2
    go_loopw [3, 4] (fun o i wr => ∃ (n : Nat) (iv : Int) (S : ByteArray), n ≤ t ∧ o = .string S ∧ Hid (S = bs (accU (sgnR r) w0 t n)) ∧ i = .int .i64 iv ∧ Hid (iv = (t : Int) - 1 - n) ∧ Below W.heap.size W wr) (fun _ i _ => (intOf i + 1).toNat)
    case atStart => exact ⟨0, (t : Int) - 1, bs [], Nat.zero_le _, rfl, Lib.hid rfl, by go_num, Lib.hid (by omega), Below.refl _ _⟩
    case round =>
      obtain ⟨n, iv, S, hn, rfl, HS, rfl, HI, hbel⟩ := hrel
      have R1 := Lib.hid (R.out.on hbel)
      have BE := Lib.hid (B0.out.trans (hbel.mono B0.out.size))
      have BW := Lib.hid hbel
      have hiv : -1 ≤ iv ∧ iv ≤ 5 := by have := HI.out; omega
      clear hbel
      by_cases h0 : 0 ≤ iv
      · obtain ⟨y, rfl⟩ := Int.eq_ofNat_of_zero_le h0
        have HY : Hid (t - 1 - n = y ∧ y < t) := Lib.hid (by have := HI.out; omega)
        obtain ⟨x0, x1, x2⟩ := R1.out.c3
        go_wp2_with (fail)
        refine (sRegionValid_is _ r _ R1.out.v true HV.out).mono ?_
        rintro e w1 ⟨rfl, hb⟩
        have BW := Lib.hid (BW.out.trans (hb.mono BW.out.size))
        clear hb x0 x1 x2 R1 BE
        go_wp2_with (fail)
        go_loopw [3, 5] (fun o i wr => ∃ (x : Nat) (S : ByteArray), x ≤ w0 ∧ o = .string S ∧ Hid (S = bs (accU (sgnR r) w0 t n ++ rowU (sgnR r) w0 y x)) ∧ i = .int .i64 x ∧ Below W.heap.size W wr) (fun _ i _ => w0 - (intOf i).toNat)
        case atStart => exact ⟨0, S, Nat.zero_le _, rfl, Lib.hid (by rw [HS.out]; simp [rowU]), rfl, BW.out⟩
        case round =>
          obtain ⟨x, S2, hx, rfl, HS2, rfl, hbel⟩ := hrel
          have R1 := Lib.hid (R.out.on hbel)
          have BW := Lib.hid hbel
          clear hbel
          have hsz : S2.size ≤ 60 := by
            rw [HS2.out, bs_size, List.length_append, rowU_len]
            have h1 := acc_len (sgnR r) w0 t n
            have h2 : n * (w0 + 1) ≤ 6 * 7 := Nat.mul_le_mul (by omega) (by omega)
            omega
          obtain ⟨x0, x1, x2⟩ := R1.out.c3
          by_cases hxw : x < w0
          · have hxw' : (x : Int) < r.wide := by have := HWI.out; omega
            cases hf : r.f (y * w0 + x)
            · have NS : Hid (S2 ++ (⟨#[46]⟩ : ByteArray) = bs (accU (sgnR r) w0 t n ++ rowU (sgnR r) w0 y (x + 1))) := Lib.hid (by
                rw [HS2.out, bs_add, rowU_succ, List.append_assoc]
                have : sgnR r (y * w0 + x) = 46 := by unfold sgnR; rw [hf]; rfl
                rw [this])
              have hAT := HAT.out y x HY.out.2 hxw
              rw [hf] at hAT
              have HA := Lib.hid hAT
              clear hf hAT
              go_wp2_with (fail)
              refine (tl1At_is _ r x y _ R1.out.v HV.out (by omega) (by have := HY.out; omega) false HA.out).mono ?_
              rintro e w2 ⟨rfl, hb⟩
              have BW := Lib.hid (BW.out.trans (hb.mono BW.out.size))
              clear hb x0 x1 x2 R1
              go_wp2_with (fail)
              go_roundw
              case rel => exact ⟨x + 1, _, by omega, rfl, NS, by go_num, BW.out⟩
              case measure => simp [intOf]; omega
            · have NS : Hid (S2 ++ (⟨#[35]⟩ : ByteArray) = bs (accU (sgnR r) w0 t n ++ rowU (sgnR r) w0 y (x + 1))) := Lib.hid (by
                rw [HS2.out, bs_add, rowU_succ, List.append_assoc]
                have : sgnR r (y * w0 + x) = 35 := by unfold sgnR; rw [hf]; rfl
                rw [this])
              have hAT := HAT.out y x HY.out.2 hxw
              rw [hf] at hAT
              have HA := Lib.hid hAT
              clear hf hAT
              go_wp2_with (fail)
              refine (tl1At_is _ r x y _ R1.out.v HV.out (by omega) (by have := HY.out; omega) true HA.out).mono ?_
              rintro e w2 ⟨rfl, hb⟩
              have BW := Lib.hid (BW.out.trans (hb.mono BW.out.size))
              clear hb x0 x1 x2 R1
              go_wp2_with (fail)
              go_roundw
              case rel => exact ⟨x + 1, _, by omega, rfl, NS, by go_num, BW.out⟩
              case measure => simp [intOf]; omega
          · have e : x = w0 := by omega
            have hxw' : ¬ (x : Int) < r.wide := by have := HWI.out; omega
            subst e
            have HN : Hid (accU (sgnR r) x t (n + 1) = accU (sgnR r) x t n ++ rowU (sgnR r) x y x ++ if n + 1 < t then [47] else []) := Lib.hid (by rw [accU, HY.out.1])
            clear x1 x2 R1
            by_cases hy0 : 0 < (y : Int)
            · have NS : Hid (S2 ++ (⟨#[47]⟩ : ByteArray) = bs (accU (sgnR r) x t (n + 1))) := Lib.hid (by
                rw [HS2.out, bs_add, HN.out, if_pos (by have := HY.out; omega)])
              go_wp2_with (fail)
              go_roundw
              case rel => exact ⟨n + 1, (y : Int) - 1, _, by have := HI.out; omega, rfl, NS, by go_num, Lib.hid (by have := HI.out; push_cast; omega), BW.out⟩
              case measure => simp [intOf]; try omega
            · have NS : Hid (S2 = bs (accU (sgnR r) x t (n + 1))) := Lib.hid (by
                rw [HS2.out, HN.out, if_neg (by have := HY.out; omega), List.append_nil])
              go_wp2_with (fail)
              go_roundw
              case rel => exact ⟨n + 1, (y : Int) - 1, _, by have := HI.out; omega, rfl, NS, by go_num, Lib.hid (by have := HI.out; push_cast; omega), BW.out⟩
              case measure => simp [intOf]; try omega
      · have e : n = t := by have := HI.out; omega
        subst e
        have HSS : Hid (S = bs (rgText r)) := Lib.hid (by rw [HS.out, HT.out, acc_all _ _ _ ht6.1])
        clear HS HT
        go_wp2
        go_ret
        exact ⟨by rw [← HSS.out]; rfl, BE.out⟩
end Go.Proofs.YtklifibiadiinaaDoor
