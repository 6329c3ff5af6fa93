/- The law FnBorder: its walk. -/
import Derived.Test.YtedccoimdkehgaaWbord
import Derived.Test.YtedccoimdkehgaaWbordS
import Derived.Test.YtedccoimdkehgaaDrawD
set_option linter.unusedVariables false
set_option linter.unusedSimpArgs false
namespace Go.Proofs.Ytedccoimdkehgaa
open Go.RowKit Domi

set_option maxHeartbeats 400000 in
theorem Border_no (v : Value) (r : Reg) (w : World) (h : RegV w v r) (hv : r.valid = false) : Calls Try.prog 33 #[v] w (Ret (.int .i64 (-1)) w) := by
  obtain ⟨a, cap, rfl, hs, hlc, hcm⟩ := h.opened
  have Hs := Lib.hid hs
  clear hs h
  go_enter Try.func33, Try.ntmps33
  go_wp2_with (fail)
  refine (RegionValid_any _ r _ ?_).mono ?_
  · refine RegV.below ⟨_, rfl, Hs.out⟩ ?_; go_grown
  rintro e w1 ⟨rfl, hb⟩
  rw [hv]
  have Hb := Lib.hid (show Below w.heap.size w w1 from Below.trans (by go_grown) (hb.mono (by simp)))
  clear hb
  go_wp2
  go_ret
  exact ⟨rfl, Hb.out⟩
theorem Border_is (v : Value) (r : Reg) (w : World) (h : RegV w v r) (n : Int) (hn : r.bord = n) : Calls Try.prog 33 #[v] w (Ret (.int .i64 n) w) := by
  rw [← hn]
  unfold Reg.bord
  cases hv : r.valid
  · exact Border_no v r w h hv
  · exact Border_yes v r w h hv

set_option maxHeartbeats 400000 in
theorem sBorder_no (v : Value) (r : Reg) (w : World) (h : RegV w v r) (hv : r.valid = false) : Calls Try.prog 34 #[v] w (Ret (.int .i64 (-1)) w) := by
  obtain ⟨a, cap, rfl, hs, hlc, hcm⟩ := h.opened
  have Hs := Lib.hid hs
  clear hs h
  go_enter Try.func34, Try.ntmps34
  go_wp2_with (fail)
  refine (sRegionValid_any _ r _ ?_).mono ?_
  · refine RegV.below ⟨_, rfl, Hs.out⟩ ?_; go_grown
  rintro e w1 ⟨rfl, hb⟩
  rw [hv]
  have Hb := Lib.hid (show Below w.heap.size w w1 from Below.trans (by go_grown) (hb.mono (by simp)))
  clear hb
  go_wp2
  go_ret
  exact ⟨rfl, Hb.out⟩
theorem sBorder_is (v : Value) (r : Reg) (w : World) (h : RegV w v r) (n : Int) (hn : r.bord = n) : Calls Try.prog 34 #[v] w (Ret (.int .i64 n) w) := by
  rw [← hn]
  unfold Reg.bord
  cases hv : r.valid
  · exact sBorder_no v r w h hv
  · exact sBorder_yes v r w h hv

theorem RegionAt_is (v : Value) (r : Reg) (x y : Int) (w : World) (h : RegV w v r) (hx : -100 ≤ x ∧ x ≤ 100) (hy : -100 ≤ y ∧ y ≤ 100) (c : Bool) (hc : Reg.atV r x y = c) :
    Calls Try.prog 35 #[v, .int .i64 x, .int .i64 y] w (Ret (.bool c) w) := by rw [← hc]; exact RegionAt_any v r x y w h hx hy
theorem CellsMany_cnt (v : Value) (r : Reg) (w : World) (h : RegV w v r) (n : Int) (hn : r.many = n) : Calls Try.prog 23 #[v] w (Ret (.int .i64 n) w) := by rw [← hn]; exact CellsMany_any v r w h
/-- What the law asks of the cell in column x, row y. -/
theorem at_three {r : Reg} (hv : r.valid = true) {x y W T : Nat} (hW : (W : Int) = r.wide) (hT : (T : Int) = r.tall) (hx : x < W) (hy : y < T) :
    y * W + x < r.cells.length ∧ Reg.atV r x y = r.f (y * W + x) ∧ Reg.atV r ((x : Int) + 1) y = nbr r (y * W + x) 1 ∧ Reg.atV r x ((y : Int) + 1) = nbr r (y * W + x) 2 := by
  obtain ⟨v1, v2, v3, _⟩ := Reg.valid_iff.1 hv
  have hl := xy_lt (w := r.wide) (t := r.tall) (x := (x : Int)) (y := (y : Int)) (by omega) (by omega) (by omega) (by omega)
  have hxy := xy_of (w := r.wide) (x := (x : Int)) (y := (y : Int)) (by omega) (by omega)
  have e : ((y * W + x : Nat) : Int) = (y : Int) * r.wide + x := by rw [Int.natCast_add, Int.natCast_mul, hW]
  have hk : y * W + x < r.cells.length := by omega
  have h0 := at_here hv hk
  have h1 := nbr_at hv hk (way := 1) (by omega) (by omega)
  have h2 := nbr_at hv hk (way := 2) (by omega) (by omega)
  rw [e, hxy.1, hxy.2] at h0 h1 h2
  simp [dX, dY] at h1 h2
  refine ⟨hk, ?_, ?_, ?_⟩
  · rw [← h0]; simp [Reg.atV, hv]
  · rw [h1]; simp [Reg.atV, hv]
  · rw [h2]; simp [Reg.atV, hv]

set_option maxRecDepth 100000 in
set_option maxHeartbeats 2000000 in
theorem FnBorder_walk (v : Value) (ys : List Int) (w : World) (h : Yl w v ys) (hr : ∀ i, i < ys.length → 0 ≤ ys.getD i 0 ∧ ys.getD i 0 ≤ 255) :
    Calls Try.prog 7 #[v] w (Ret (.bool true) w) := by
  have H := Lib.hid h
  have Hr := Lib.hid hr
  obtain ⟨a0, cap0, rfl, hlc0, hcm0, _⟩ := h.opened
  clear h hr
  by_cases hlen : (1048576 : Int) < (ys.length : Int)
  · go_enter Try.func7, Try.ntmps7
    go_wp2
    go_ret
    exact ⟨rfl, Below.refl _ _⟩
  · go_enter Try.func7, Try.ntmps7
    go_wp2_with (fail)
    refine (DrawBorder_any _ ys w H.out Hr.out).mono ?_
    rintro e w1 ⟨v1, r, rfl, hv1, hsm, hb1⟩
    obtain ⟨p1, n1, rfl, hs, _, _⟩ := hv1.opened
    have BW := Lib.hid hb1
    obtain ⟨n, hn⟩ : ∃ n, r.bord = n := ⟨_, rfl⟩
    have HN := Lib.hid hn
    clear hb1 hn hv1
    go_wp2_with (fail)
    obtain ⟨W1, hW1⟩ : ∃ W, W = w1.alloc (.cells #[.int .i64 r.wide, .int .i64 r.tall, .slice p1 r.cells.length n1] 25) := ⟨_, rfl⟩
    have RA := RB.new hs
    have hbW1 := below_alloc w1 (.cells #[.int .i64 r.wide, .int .i64 r.tall, .slice p1 r.cells.length n1] 25)
    rw [← hW1] at RA hbW1 ⊢
    have RA := Lib.hid RA
    have BW := Lib.hid (BW.out.trans (hbW1.mono BW.out.size))
    clear hbW1
    clear hs hW1
    have sA := RA.out.lt
    refine (Border_is _ r _ RA.out.v n HN.out).mono ?_
    rintro e w2 ⟨rfl, hb⟩
    have RA := Lib.hid (RA.out.on hb)
    have BW := Lib.hid (BW.out.trans (hb.mono BW.out.size))
    clear hb
    obtain ⟨ra0, ra1, ra2⟩ := RA.out.c3
    have ra3 := RA.out.lt
    go_wp2_with (fail)
    clear ra0 ra1 ra2 ra3
    refine (sBorder_is _ r _ RA.out.v n HN.out).mono ?_
    rintro e w3 ⟨rfl, hb⟩
    have RA := Lib.hid (RA.out.on hb)
    have BW := Lib.hid (BW.out.trans (hb.mono BW.out.size))
    clear hb
    cases hv : r.valid
    · have h1 : n = -1 := by rw [← HN.out]; simp [Reg.bord, hv]
      subst h1
      go_wp2_with (fail)
      refine (alive_any _).mono ?_
      rintro e w7 ⟨rfl, hb⟩
      have BW := Lib.hid (BW.out.trans (hb.mono BW.out.size))
      clear hb
      go_wp2
      go_ret
      exact ⟨rfl, BW.out⟩
    obtain ⟨v1, v2, v3, v4⟩ := Reg.valid_iff.1 hv
    have hn2 : bordTo r r.cells.length = n := by rw [← HN.out]; simp [Reg.bord, hv]
    have law := Lib.hid (border_law hv)
    have hm : r.many = cnt r.cells := Reg.many_yes hv
    have hn0 := bordTo_bd r r.cells.length
    have hp0 := pairTo_bd r r.cells.length
    have ha := area_in v1 v2
    rw [hn2] at law hn0
    obtain ⟨W, hW⟩ : ∃ W : Nat, (W : Int) = r.wide := ⟨r.wide.toNat, by omega⟩
    obtain ⟨T, hT⟩ : ∃ T : Nat, (T : Int) = r.tall := ⟨r.tall.toNat, by omega⟩
    have hWT : T * W = r.cells.length := by
      have : ((T * W : Nat) : Int) = r.cells.length := by rw [Int.natCast_mul, hW, hT, v3, Int.mul_comm]
      omega
    have HWT := Lib.hid hWT
    have HM := Lib.hid hm
    have hc0 : 0 ≤ cnt r.cells ∧ cnt r.cells ≤ 36 := by have := cnt_le r.cells; omega
    have hl36 : r.cells.length ≤ 36 := by omega
    have HW := Lib.hid hW
    have HT := Lib.hid hT
    have hW6 : W ≤ 6 := by omega
    have hT6 : T ≤ 6 := by omega
    have three := fun x y (hx : x < W) (hy : y < T) => at_three hv hW hT hx hy
    have H3 := Lib.hid three
    have n36 : n ≤ 144 := by omega
    have n0 : 0 ≤ n := by omega
    clear hm hWT hW hT three hn2 v3 v4 hn0 ha
    obtain ⟨ra0, ra1, ra2⟩ := RA.out.c3
    have ra3 := RA.out.lt
    go_wp2_with (fail)
    clear ra0 ra1 ra2 ra3
    go_loopw [5, 6] (fun p i wr => ∃ y : Nat, y ≤ T ∧ i = .int .i64 y ∧ p = .int .i64 (pairTo r (y * W)) ∧ Below w3.heap.size w3 wr) (fun _ i _ => T - (intOf i).toNat)
    case atStart => exact ⟨0, Nat.zero_le _, rfl, by simp [pairTo, sumI], Below.refl _ _⟩
    case round =>
      obtain ⟨y, hy, rfl, rfl, hb⟩ := hrel
      have RK := Lib.hid (RA.out.on hb)
      have HB := Lib.hid hb
      clear hb
      obtain ⟨c0, c1, c2⟩ := RK.out.c3
      by_cases hlt : y < T
      · have hyt : (y : Int) < r.tall := by have := HT.out; omega
        have hyW : y * W + W ≤ 36 := by
          have h1 : (y + 1) * W ≤ T * W := Nat.mul_le_mul_right W hlt
          rw [Nat.add_mul, Nat.one_mul] at h1
          have := HWT.out
          omega
        go_wp2_with (fail)
        clear c0 c1 c2
        obtain ⟨wo, hwo⟩ : ∃ wo : World, wo = wr := ⟨_, rfl⟩
        go_loopw [5, 7] (fun p i w2 => ∃ x : Nat, x ≤ W ∧ i = .int .i64 x ∧ p = .int .i64 (pairTo r (y * W + x)) ∧ Below wo.heap.size wo w2) (fun _ i _ => W - (intOf i).toNat)
        case atStart => exact ⟨0, Nat.zero_le _, rfl, by simp, by rw [hwo]; exact Below.refl _ _⟩
        case round =>
          obtain ⟨x, hx, rfl, rfl, hb⟩ := hrel
          subst hwo
          have RM := Lib.hid (RK.out.on hb)
          have HB2 := Lib.hid hb
          clear hb
          obtain ⟨c0, c1, c2⟩ := RM.out.c3
          by_cases hxl : x < W
          · obtain ⟨k1, k2, k3, k4⟩ := H3.out x y hxl hlt
            have K2 := Lib.hid k2
            have K3 := Lib.hid k3
            have K4 := Lib.hid k4
            have hsucc := Lib.hid (pairTo_succ r (y * W + x))
            have pb := pairTo_bd r (y * W + x)
            clear k2 k3 k4
            generalize r.f (y * W + x) = A at *
            generalize nbr r (y * W + x) 1 = B at *
            generalize nbr r (y * W + x) 2 = C at *
            have hxw : (x : Int) < r.wide := by have := HW.out; omega
            cases A
            · go_wp2_with (fail)
              refine (RegionAt_is _ r _ _ _ RM.out.v (by omega) (by omega) false K2.out).mono ?_
              rintro e wa ⟨rfl, hb⟩
              have RM := Lib.hid (RM.out.on hb)
              have HB2 := Lib.hid (HB2.out.trans (hb.mono HB2.out.size))
              clear hb c0 c1 c2
              obtain ⟨c0, c1, c2⟩ := RM.out.c3
              go_wp2_with (fail)
              refine (RegionAt_is _ r _ _ _ RM.out.v (by omega) (by omega) false K2.out).mono ?_
              rintro e wb ⟨rfl, hb⟩
              have RM := Lib.hid (RM.out.on hb)
              have HB2 := Lib.hid (HB2.out.trans (hb.mono HB2.out.size))
              clear hb c0 c1 c2
              obtain ⟨c0, c1, c2⟩ := RM.out.c3
              go_wp2_with (fail)
              go_roundw
              case rel => exact ⟨x + 1, by omega, by go_num, by rw [show y * W + (x + 1) = y * W + x + 1 by omega, hsucc.out]; simp <;> omega, HB2.out⟩
              case measure => simp [intOf]; omega
            · cases B <;> cases C
              · go_wp2_with (fail)
                refine (RegionAt_is _ r _ _ _ RM.out.v (by omega) (by omega) true K2.out).mono ?_
                rintro e wa ⟨rfl, hb⟩
                have RM := Lib.hid (RM.out.on hb)
                have HB2 := Lib.hid (HB2.out.trans (hb.mono HB2.out.size))
                clear hb c0 c1 c2
                obtain ⟨c0, c1, c2⟩ := RM.out.c3
                go_wp2_with (fail)
                refine (RegionAt_is _ r _ _ _ RM.out.v (by omega) (by omega) false K3.out).mono ?_
                rintro e wb ⟨rfl, hb⟩
                have RM := Lib.hid (RM.out.on hb)
                have HB2 := Lib.hid (HB2.out.trans (hb.mono HB2.out.size))
                clear hb c0 c1 c2
                obtain ⟨c0, c1, c2⟩ := RM.out.c3
                go_wp2_with (fail)
                refine (RegionAt_is _ r _ _ _ RM.out.v (by omega) (by omega) true K2.out).mono ?_
                rintro e wc ⟨rfl, hb⟩
                have RM := Lib.hid (RM.out.on hb)
                have HB2 := Lib.hid (HB2.out.trans (hb.mono HB2.out.size))
                clear hb c0 c1 c2
                obtain ⟨c0, c1, c2⟩ := RM.out.c3
                go_wp2_with (fail)
                refine (RegionAt_is _ r _ _ _ RM.out.v (by omega) (by omega) false K4.out).mono ?_
                rintro e wd ⟨rfl, hb⟩
                have RM := Lib.hid (RM.out.on hb)
                have HB2 := Lib.hid (HB2.out.trans (hb.mono HB2.out.size))
                clear hb c0 c1 c2
                obtain ⟨c0, c1, c2⟩ := RM.out.c3
                go_wp2_with (fail)
                go_roundw
                case rel => exact ⟨x + 1, by omega, by go_num, by rw [show y * W + (x + 1) = y * W + x + 1 by omega, hsucc.out]; simp <;> omega, HB2.out⟩
                case measure => simp [intOf]; omega
              · go_wp2_with (fail)
                refine (RegionAt_is _ r _ _ _ RM.out.v (by omega) (by omega) true K2.out).mono ?_
                rintro e wa ⟨rfl, hb⟩
                have RM := Lib.hid (RM.out.on hb)
                have HB2 := Lib.hid (HB2.out.trans (hb.mono HB2.out.size))
                clear hb c0 c1 c2
                obtain ⟨c0, c1, c2⟩ := RM.out.c3
                go_wp2_with (fail)
                refine (RegionAt_is _ r _ _ _ RM.out.v (by omega) (by omega) false K3.out).mono ?_
                rintro e wb ⟨rfl, hb⟩
                have RM := Lib.hid (RM.out.on hb)
                have HB2 := Lib.hid (HB2.out.trans (hb.mono HB2.out.size))
                clear hb c0 c1 c2
                obtain ⟨c0, c1, c2⟩ := RM.out.c3
                go_wp2_with (fail)
                refine (RegionAt_is _ r _ _ _ RM.out.v (by omega) (by omega) true K2.out).mono ?_
                rintro e wc ⟨rfl, hb⟩
                have RM := Lib.hid (RM.out.on hb)
                have HB2 := Lib.hid (HB2.out.trans (hb.mono HB2.out.size))
                clear hb c0 c1 c2
                obtain ⟨c0, c1, c2⟩ := RM.out.c3
                go_wp2_with (fail)
                refine (RegionAt_is _ r _ _ _ RM.out.v (by omega) (by omega) true K4.out).mono ?_
                rintro e wd ⟨rfl, hb⟩
                have RM := Lib.hid (RM.out.on hb)
                have HB2 := Lib.hid (HB2.out.trans (hb.mono HB2.out.size))
                clear hb c0 c1 c2
                obtain ⟨c0, c1, c2⟩ := RM.out.c3
                go_wp2_with (fail)
                go_roundw
                case rel => exact ⟨x + 1, by omega, by go_num, by rw [show y * W + (x + 1) = y * W + x + 1 by omega, hsucc.out]; simp <;> omega, HB2.out⟩
                case measure => simp [intOf]; omega
              · go_wp2_with (fail)
                refine (RegionAt_is _ r _ _ _ RM.out.v (by omega) (by omega) true K2.out).mono ?_
                rintro e wa ⟨rfl, hb⟩
                have RM := Lib.hid (RM.out.on hb)
                have HB2 := Lib.hid (HB2.out.trans (hb.mono HB2.out.size))
                clear hb c0 c1 c2
                obtain ⟨c0, c1, c2⟩ := RM.out.c3
                go_wp2_with (fail)
                refine (RegionAt_is _ r _ _ _ RM.out.v (by omega) (by omega) true K3.out).mono ?_
                rintro e wb ⟨rfl, hb⟩
                have RM := Lib.hid (RM.out.on hb)
                have HB2 := Lib.hid (HB2.out.trans (hb.mono HB2.out.size))
                clear hb c0 c1 c2
                obtain ⟨c0, c1, c2⟩ := RM.out.c3
                go_wp2_with (fail)
                refine (RegionAt_is _ r _ _ _ RM.out.v (by omega) (by omega) true K2.out).mono ?_
                rintro e wc ⟨rfl, hb⟩
                have RM := Lib.hid (RM.out.on hb)
                have HB2 := Lib.hid (HB2.out.trans (hb.mono HB2.out.size))
                clear hb c0 c1 c2
                obtain ⟨c0, c1, c2⟩ := RM.out.c3
                go_wp2_with (fail)
                refine (RegionAt_is _ r _ _ _ RM.out.v (by omega) (by omega) false K4.out).mono ?_
                rintro e wd ⟨rfl, hb⟩
                have RM := Lib.hid (RM.out.on hb)
                have HB2 := Lib.hid (HB2.out.trans (hb.mono HB2.out.size))
                clear hb c0 c1 c2
                obtain ⟨c0, c1, c2⟩ := RM.out.c3
                go_wp2_with (fail)
                go_roundw
                case rel => exact ⟨x + 1, by omega, by go_num, by rw [show y * W + (x + 1) = y * W + x + 1 by omega, hsucc.out]; simp <;> omega, HB2.out⟩
                case measure => simp [intOf]; omega
              · go_wp2_with (fail)
                refine (RegionAt_is _ r _ _ _ RM.out.v (by omega) (by omega) true K2.out).mono ?_
                rintro e wa ⟨rfl, hb⟩
                have RM := Lib.hid (RM.out.on hb)
                have HB2 := Lib.hid (HB2.out.trans (hb.mono HB2.out.size))
                clear hb c0 c1 c2
                obtain ⟨c0, c1, c2⟩ := RM.out.c3
                go_wp2_with (fail)
                refine (RegionAt_is _ r _ _ _ RM.out.v (by omega) (by omega) true K3.out).mono ?_
                rintro e wb ⟨rfl, hb⟩
                have RM := Lib.hid (RM.out.on hb)
                have HB2 := Lib.hid (HB2.out.trans (hb.mono HB2.out.size))
                clear hb c0 c1 c2
                obtain ⟨c0, c1, c2⟩ := RM.out.c3
                go_wp2_with (fail)
                refine (RegionAt_is _ r _ _ _ RM.out.v (by omega) (by omega) true K2.out).mono ?_
                rintro e wc ⟨rfl, hb⟩
                have RM := Lib.hid (RM.out.on hb)
                have HB2 := Lib.hid (HB2.out.trans (hb.mono HB2.out.size))
                clear hb c0 c1 c2
                obtain ⟨c0, c1, c2⟩ := RM.out.c3
                go_wp2_with (fail)
                refine (RegionAt_is _ r _ _ _ RM.out.v (by omega) (by omega) true K4.out).mono ?_
                rintro e wd ⟨rfl, hb⟩
                have RM := Lib.hid (RM.out.on hb)
                have HB2 := Lib.hid (HB2.out.trans (hb.mono HB2.out.size))
                clear hb c0 c1 c2
                obtain ⟨c0, c1, c2⟩ := RM.out.c3
                go_wp2_with (fail)
                go_roundw
                case rel => exact ⟨x + 1, by omega, by go_num, by rw [show y * W + (x + 1) = y * W + x + 1 by omega, hsucc.out]; simp <;> omega, HB2.out⟩
                case measure => simp [intOf]; omega
          · have e : x = W := by omega
            subst e
            have hxw : r.wide ≤ (x : Int) := by have := HW.out; omega
            go_wp2
            go_roundw
            case rel => exact ⟨y + 1, by omega, by go_num, by rw [show (y + 1) * x = y * x + x by rw [Nat.add_mul]; simp], HB.out.trans (HB2.out.mono HB.out.size)⟩
            case measure => simp [intOf]; omega
      · have e : y = T := by omega
        subst e
        rw [HWT.out]
        have hyt : r.tall ≤ (y : Int) := by have := HT.out; omega
        have BW := Lib.hid (BW.out.trans (HB.out.mono BW.out.size))
        have hd := Lib.hid (show (n + 2 * pairTo r r.cells.length == 4 * cnt r.cells) = true by rw [law.out]; simp)
        generalize pairTo r r.cells.length = P at *
        generalize cnt r.cells = Q at *
        go_wp2_with (fail)
        refine (CellsMany_cnt _ r _ RK.out.v Q HM.out).mono ?_
        rintro e w7 ⟨rfl, hb⟩
        have BW := Lib.hid (BW.out.trans (hb.mono BW.out.size))
        clear hb
        have hd := hd.out
        go_wp2
        go_ret
        exact ⟨rfl, BW.out⟩

end Go.Proofs.Ytedccoimdkehgaa
