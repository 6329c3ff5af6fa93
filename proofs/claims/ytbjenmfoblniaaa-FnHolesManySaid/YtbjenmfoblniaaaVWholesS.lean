/- Walks: the reference's HolesMany. -/
import Derived.Test.YtbjenmfoblniaaaVWpartsS
import Derived.Test.YtbjenmfoblniaaaVWholes
import Derived.Test.YtbjenmfoblniaaaZe
import Derived.Test.YtbjenmfoblniaaaVWholesB
set_option linter.unusedVariables false
namespace Go.Proofs.Ytbjenmfoblniaaa
open Go.RowKit Domi

theorem l1In_ret (n lo hi : Int) (w : World) (b : Bool) (h : inB n lo hi = b) : Calls Try.prog 68 #[.int .i64 n, .int .i64 lo, .int .i64 hi] w (Ret (.bool b) w) := by
  rw [← h]; refine (l1In_any n lo hi w).mono ?_; rintro e w' ⟨rfl, rfl⟩; exact ⟨rfl, Below.refl _ _⟩
theorem l1At_is (v : Value) (r : Reg) (x y : Int) (w : World) (h : RegV w v r) (hv : r.valid = true) (hx : -100 ≤ x ∧ x ≤ 100) (hy : -100 ≤ y ∧ y ≤ 100) (b : Bool) (hb : r.at_ x y = b) :
    Calls Try.prog 103 #[v, .int .i64 x, .int .i64 y] w (Ret (.bool b) w) := by rw [← hb]; exact l1At_any v r x y w h hv hx hy
theorem self8_snoc {r : Reg} {L : List Int} (h : L = (List.range L.length).map (self8 r)) : L ++ [self8 r L.length] = (List.range (L.length + 1)).map (self8 r) := by rw [List.range_succ, List.map_append, ← h]; rfl

theorem psS_sum {w wr : World} {r : Reg} {s : Value} {g n c : Nat} {L : List Int} (h : Sep w none wr (PsS w r s (.slice (some ⟨g, 0, none⟩) n c) L)) {m : Nat} (hl : L.length = m) : sumW g wr m = sumN m L :=
  sumW_is m fun k hk => (own_int (h.own 1 rfl) (by omega)).1

set_option maxRecDepth 100000 in
set_option maxHeartbeats 4000000 in
theorem sHoles_yes (v : Value) (r : Reg) (w : World) (h : RegV w v r) (hv : r.valid = true) :
    Calls Try.prog 62 #[v] w (Ret (.int .i64 r.holes) w) := by
  obtain ⟨b1, b2, b3, b4⟩ := Reg.valid_iff.1 hv
  obtain ⟨a, cap, rfl, hs, hlc, hcm⟩ := h.opened
  have RV : ∀ w', Below w.heap.size w w' → RegV w' (.agg #[.int .i64 r.wide, .int .i64 r.tall, .slice a r.cells.length cap]) r := fun w' hb => ⟨_, rfl, hs.below hb⟩
  have S0 := Lib.hid ((Sep.start w none).box #[.int .i64 r.wide, .int .i64 r.tall, .slice a r.cells.length cap] 29)
  have hA := area_in' b1 b2
  have hN := n2_int (r := r) (by omega) (by omega)
  have hA0 : 0 ≤ (r.wide + 2) * (r.tall + 2) := by omega
  have HNN := Lib.hid hN
  have hN64 : r.n2 ≤ 64 := by omega
  have HN64 := Lib.hid hN64
  clear hs h b4
  go_enter Try.func62, Try.ntmps62
  go_wp2_with (fail)
  refine (sRegionValid_is _ r _ (RV _ S0.out.bel) true hv).mono ?_
  rintro e w1 ⟨rfl, hb⟩
  have S1 := Lib.hid (S0.out.below hb)
  clear hb S0
  obtain ⟨x0, x1, x2⟩ := S1.out.c3 0 rfl
  have S2 : Hid (Sep w none (w1.alloc (.cells #[] 3)) (PsS w r (.slice a r.cells.length cap) (.slice (some ⟨w1.heap.size, 0, none⟩) 0 0) [])) := Lib.hid (by
    have := S1.out.empty 3
    simpa [PsS] using this)
  go_wp2_with (fail)
  clear x0 x1 x2 S1
  go_loopw [4, 5] (fun v3 i wr => ∃ (a' : Option Addr) (c : Nat) (L : List Int), L.length ≤ r.n2 ∧ i = .int .i64 L.length ∧ L = (List.range L.length).map (self8 r) ∧ v3 = .slice a' L.length c ∧ Sep w none wr (PsS w r (.slice a r.cells.length cap) (.slice a' L.length c) L)) (fun _ i _ => r.n2 - (intOf i).toNat)
  case atStart => exact ⟨_, 0, [], Nat.zero_le _, rfl, rfl, rfl, S2.out⟩
  case round =>
    clear S2
    obtain ⟨a', c3, L, hk, rfl, hLs, rfl, S⟩ := hrel
    have hsn := Lib.hid (self8_snoc hLs)
    have HS := Lib.hid S
    obtain ⟨x0, x1, x2⟩ := HS.out.c3 0 rfl
    by_cases hlt : L.length < r.n2
    · have hlz : (L.length : Int) < (r.wide + 2) * (r.tall + 2) := by omega
      have hp := plc_at (r := r) (k := L.length) (by omega) (by omega) hlt
      have sz := HS.out.lt 0 rfl rfl
      obtain ⟨p1, p2, p3, p4, p5⟩ := hp
      have HF := Lib.hid (plc.fr (r := r) (by omega) (by omega) ⟨p1, p2, p3, p4, p5⟩)
      clear p5 S hLs
      go_wp2_with (at_builtin; refine list_app elem_ints 0 (.slice a' L.length c3) (L.map (Value.int .i64)) ?_ wr.heap.size (.int .i64 L.length) (.tmp 28) (.tmp 30) rfl rfl rfl rfl (heap_alloc_new _ _) rfl ?_ ?_ ?_; exact Own.alloc (HS.out.own 1 rfl) _; (rw [List.length_map]; omega); (exact Nat.zero_le _); intro g c2 w5 A5; (have S5 := psS_app (HS.out.alloc _) A5); (have S5' := Lib.hid S5); clear A5 S5)
      clear x0 x1 x2 HS
      obtain ⟨y0, y1, y2⟩ := S5'.out.c3 0 rfl
      have sz := S5'.out.lt 0 rfl rfl
      have hLc : ∀ (T : Later w5) (b o : Nat), b < w5.heap.size → T.x.cell? ⟨b, o, none⟩ = w5.cell? ⟨b, o, none⟩ := Later.cell
      have hR : Hid (∀ T : Later w5, RegV T.x (.agg #[.int .i64 r.wide, .int .i64 r.tall, .slice a r.cells.length cap]) r) := Lib.hid fun T => RV _ (S5'.out.later T).bel
      cases hat : r.at_ ((L.length : Int) % (r.wide + 2) - 1) ((L.length : Int) / (r.wide + 2) - 1)
      · have hs8 : self8 r L.length = (L.length : Int) := by unfold self8; rw [HF.out, hat]; rfl
        rw [hs8] at hsn
        have HA := Lib.hid hat
        clear hat hs8
        refine wp_region_later_all (by kernel_rfl) (by kernel_rfl) ?_
        repeat (go_big_quiet_step (exact calls_later _ (l1At_is _ r _ _ _ (hR.out _) hv (by omega) (by omega) false HA.out)))
        refine wpQuiet_nil ?_
        intro T
        have HS6 := Lib.hid (S5'.out.later T)
        clear hLc y0 y1 y2 sz S5'
        go_wp2
        go_roundw
        case rel => exact ⟨some ⟨g, 0, none⟩, c2, L ++ [(L.length : Int)], by simp; omega, by simp, by simpa using hsn.out, by simp, by simpa using HS6.out⟩
        case measure => simp [intOf]; omega
      · have hs8 : self8 r L.length = -1 := by unfold self8; rw [HF.out, hat]; rfl
        rw [hs8] at hsn
        have HA := Lib.hid hat
        clear hat hs8
        refine wp_region_later_all (by kernel_rfl) (by kernel_rfl) ?_
        repeat (go_big_quiet_step (exact calls_later _ (l1At_is _ r _ _ _ (hR.out _) hv (by omega) (by omega) true HA.out)))
        refine wpQuiet_nil ?_
        intro T
        have HS6 := Lib.hid (S5'.out.later T)
        clear hLc y0 y1 y2 sz S5'
        obtain ⟨u1, u2, u3⟩ := own_int (HS6.out.own 1 rfl) (j := L.length) (by simp)
        have HS7 := Lib.hid (psS_set HS6.out L.length (-1))
        rw [set_append_last] at HS7
        go_wp2
        go_roundw
        case rel => exact ⟨some ⟨g, 0, none⟩, c2, L ++ [-1], by simp; omega, by simp, by simpa using hsn.out, by simp, by simpa using HS7.out⟩
        case measure => simp [intOf]; omega
    · have e : L.length = r.n2 := by omega
      obtain ⟨g, c4, hv3, _, hg3, hc1, hc2⟩ := (S.own 1 rfl).formN (by simp; have := n2_int (r := r) (by omega) (by omega); have := Int.mul_pos (show 0 < r.wide + 2 by omega) (show 0 < r.tall + 2 by omega); omega)
      simp only [List.length_map, Value.slice.injEq] at hv3 hc1
      obtain ⟨rfl, -, rfl⟩ := hv3
      rw [e] at hLs
      have hL : L = self8L r := hLs
      subst hL
      rw [e] at S hc1 ⊢
      have S2 := Lib.hid S
      clear S hLs e hk hlt HS hsn
      go_wp2_with (fail)
      clear x0 x1 x2
      go_loopw [6] (fun v wr => ∃ (ch : Bool) (L : List Int), v = .bool ch ∧ Sep w none wr (PsS w r (.slice a r.cells.length cap) (.slice (some ⟨g, 0, none⟩) r.n2 c3) L) ∧ HInv (E8 r) r.fr r.n2 L ∧ (ch = false → ∃ s, HJ r s L false r.n2 0)) (fun v wr => match v with | .bool true => sumW g wr r.n2 + 1 | _ => 0)
      case atStart => exact ⟨true, self8L r, rfl, S2.out, self8_inv r, fun h => by cases h⟩
      case round =>
        clear S2
        obtain ⟨ch, P, rfl, S, hI, hD⟩ := hrel
        have HS0 := Lib.hid S
        have HI := Lib.hid hI
        have HDn := Lib.hid hD
        clear S hI hD
        cases ch
        · obtain ⟨sm, hHJ⟩ := HDn.out rfl
          have HD2 := Lib.hid hHJ.done
          clear HDn hHJ
          clear hN hg3 hc1 hc2
          go_wp2_with (fail)
          go_loopw [10, 11] (fun n i w2 => ∃ (c : Nat), c ≤ r.n2 ∧ i = .int .i64 c ∧ n = .int .i64 ((rootsN (E8 r) r.fr c : Int) - 1) ∧ Sep w none w2 (PsS w r (.slice a r.cells.length cap) (.slice (some ⟨g, 0, none⟩) r.n2 c3) P)) (fun _ i _ => r.n2 - (intOf i).toNat)
          case atStart => exact ⟨0, Nat.zero_le _, rfl, by simp [rootsN_zero], HS0.out⟩
          case round =>
            clear HS0
            obtain ⟨c, hc, rfl, rfl, S⟩ := hrel
            have HS := Lib.hid S
            clear S
            have hr := rootsN_le (r := r) c
            by_cases hcl : c < r.n2
            · obtain ⟨u1, u2, u3⟩ := own_int (HS.out.own 1 rfl) (j := c) (by rw [HI.out.len]; exact hcl)
              have hcN := Lib.hid (HD2.out c hcl)
              have hci : (c : Int) < (r.wide + 2) * (r.tall + 2) := by have := HNN.out; omega
              by_cases he : P.getD c 0 = c
              · have hR := Lib.hid (rootsN_yes (hcN.out.1 he).1 (hcN.out.1 he).2)
                rw [he] at u1
                clear he
                go_wp2
                go_roundw
                case rel => exact ⟨c + 1, by omega, by go_num, by rw [hR.out]; go_num, HS.out⟩
                case measure => simp [intOf]; omega
              · have hR := Lib.hid (rootsN_no (E := E8 r) (fr := r.fr) (c := c) (by
                  cases hf : r.fr c
                  · exact .inl rfl
                  · exact .inr fun e => he (hcN.out.2 ⟨hf, e⟩)))
                obtain ⟨x, hx⟩ : ∃ x, P.getD c 0 = x := ⟨_, rfl⟩
                rw [hx] at u1 he
                clear hx
                have he2 : (x == (c : Int)) = false := by simpa using he
                go_wp2
                go_roundw
                case rel => exact ⟨c + 1, by omega, by go_num, by rw [hR.out], HS.out⟩
                case measure => simp [intOf]; omega
            · have e : c = r.n2 := by omega
              subst e
              have hci : ¬ ((r.n2 : Nat) : Int) < (r.wide + 2) * (r.tall + 2) := by have := HNN.out; omega
              go_wp2
              go_ret
              exact ⟨ret_int rfl, HS.out.bel⟩
        · have HSum := Lib.hid (psS_sum HS0.out HI.out.len)
          go_wp2_with (fail)
          go_loopw [6, 7] (fun v i w2 => ∃ (ch : Bool) (c : Nat) (L : List Int), c ≤ r.n2 ∧ i = .int .i64 c ∧ v = .bool ch ∧ Sep w none w2 (PsS w r (.slice a r.cells.length cap) (.slice (some ⟨g, 0, none⟩) r.n2 c3) L) ∧ HJ r (sumN r.n2 P) L ch c 0) (fun _ i _ => r.n2 - (intOf i).toNat)
          case atStart => exact ⟨false, 0, P, Nat.zero_le _, rfl, rfl, HS0.out, .start HI.out⟩
          case round =>
            clear HS0 HDn
            obtain ⟨ch, c, L, hc, rfl, rfl, S, hJ⟩ := hrel
            have HS := Lib.hid S
            have HJ1 := Lib.hid hJ
            clear S hJ
            by_cases hcl : c < r.n2
            · have hci : (c : Int) < (r.wide + 2) * (r.tall + 2) := by omega
              go_wp2_with (fail)
              go_loopw [6, 8] (fun v i w2 => ∃ (ch : Bool) (d : Nat) (L : List Int), d ≤ r.n2 ∧ i = .int .i64 d ∧ v = .bool ch ∧ Sep w none w2 (PsS w r (.slice a r.cells.length cap) (.slice (some ⟨g, 0, none⟩) r.n2 c3) L) ∧ HJ r (sumN r.n2 P) L ch c d) (fun _ i _ => r.n2 - (intOf i).toNat)
              case atStart => exact ⟨ch, 0, L, Nat.zero_le _, rfl, rfl, HS.out, HJ1.out⟩
              case round =>
                clear HS HJ1
                obtain ⟨ch, d, L, hd, rfl, rfl, S, hJ⟩ := hrel
                have HS := Lib.hid S
                have HJ1 := Lib.hid hJ
                clear S hJ
                by_cases hdl : d < r.n2
                · have hdi : (d : Int) < (r.wide + 2) * (r.tall + 2) := by omega
                  go_wp2_with (fail)
                  have hpc := plc_at (r := r) (k := c) (by omega) (by omega) hcl
                  have hpd := plc_at (r := r) (k := d) (by omega) (by omega) hdl
                  obtain ⟨p1, p2, p3, p4, p5⟩ := hpc
                  obtain ⟨q1, q2, q3, q4, q5⟩ := hpd
                  clear p5 q5 hN hA hA0 hc hd hg3 hc1 hc2
                  obtain ⟨mc, hmc⟩ : ∃ m, (c : Int) % (r.wide + 2) = m := ⟨_, rfl⟩
                  obtain ⟨md, hmd⟩ : ∃ m, (d : Int) % (r.wide + 2) = m := ⟨_, rfl⟩
                  obtain ⟨nc, hnc⟩ : ∃ m, (c : Int) / (r.wide + 2) = m := ⟨_, rfl⟩
                  obtain ⟨nd, hnd⟩ : ∃ m, (d : Int) / (r.wide + 2) = m := ⟨_, rfl⟩
                  rw [hmc] at p1 p2
                  rw [hnc] at p3 p4
                  rw [hmd] at q1 q2
                  rw [hnd] at q3 q4
                  have HL := Lib.hid HJ1.out.inv.len
                  by_cases n1 : -1 ≤ (mc - md) ∧ (mc - md) ≤ 1
                  · have H1 := Lib.hid (inB_iff.2 n1)
                    by_cases n2 : -1 ≤ (nc - nd) ∧ (nc - nd) ≤ 1
                    · have H2 := Lib.hid (inB_iff.2 n2)
                      have HN := Lib.hid (show (-1 ≤ ((c : Int) % (r.wide + 2) - (d : Int) % (r.wide + 2)) ∧ ((c : Int) % (r.wide + 2) - (d : Int) % (r.wide + 2)) ≤ 1) ∧ (-1 ≤ ((c : Int) / (r.wide + 2) - (d : Int) / (r.wide + 2)) ∧ ((c : Int) / (r.wide + 2) - (d : Int) / (r.wide + 2)) ≤ 1) by rw [hmc, hmd, hnc, hnd]; exact And.intro n1 n2)
                      clear n1 n2
                      obtain ⟨x, hx⟩ : ∃ x, L.getD c 0 = x := ⟨_, rfl⟩
                      obtain ⟨y, hy⟩ : ∃ y, L.getD d 0 = y := ⟨_, rfl⟩
                      have HX := Lib.hid hx
                      have HY := Lib.hid hy
                      have bx := HJ1.out.inv.bd hcl
                      have bd := HJ1.out.inv.bd hdl
                      rw [hx] at bx
                      rw [hy] at bd
                      clear hx hy
                      by_cases hxy : y < x
                      · have hda : decide (y < x) = true := by simp only [decide_eq_true_eq]; exact hxy
                        by_cases hy0 : 0 ≤ y
                        · have hdb : decide (0 ≤ y) = true := by simp only [decide_eq_true_eq]; exact hy0
                          have NJ := Lib.hid (HJ1.out.put hcl hdl HN.out (by rw [HX.out, HY.out]; exact hxy) (by rw [HY.out]; exact hy0))
                          refine wp_region_later_all (by kernel_rfl) (by kernel_rfl) ?_
                          repeat (go_big_quiet_step (fail))
                          go_big_quiet_step (with_reducible exact calls_later _ (l1In_ret (mc - md) _ _ _ true H1.out))
                          repeat (go_big_quiet_step (fail))
                          go_big_quiet_step (with_reducible exact calls_later _ (l1In_ret (nc - nd) _ _ _ true H2.out))
                          repeat (go_big_quiet_step (fail))
                          refine wpQuiet_nil ?_
                          intro T
                          have HS2 := Lib.hid (HS.out.later T)
                          clear HS
                          obtain ⟨u1, u2, u3⟩ := own_int (HS2.out.own 1 rfl) (j := c) (by rw [HL.out]; exact hcl)
                          obtain ⟨y1, y2, _⟩ := own_int (HS2.out.own 1 rfl) (j := d) (by rw [HL.out]; exact hdl)
                          rw [HX.out] at u1
                          rw [HY.out] at y1
                          have hLc : ∀ (U : Later T.x) (b o : Nat), b < T.x.heap.size → U.x.cell? ⟨b, o, none⟩ = T.x.cell? ⟨b, o, none⟩ := Later.cell
                          go_wp2_with (fail)
                          refine wp_region_later_all (by kernel_rfl) (by kernel_rfl) ?_
                          repeat (first | (go_big_quiet_step (fail)) | (rw [hda]) | (rw [hdb]))
                          refine wpQuiet_nil ?_
                          intro U
                          have HS3 := Lib.hid (HS2.out.later U)
                          clear HS2 hLc u1 u2 u3 y1 y2
                          obtain ⟨u1, u2, u3⟩ := own_int (HS3.out.own 1 rfl) (j := c) (by rw [HL.out]; exact hcl)
                          obtain ⟨y1, y2, _⟩ := own_int (HS3.out.own 1 rfl) (j := d) (by rw [HL.out]; exact hdl)
                          rw [HX.out] at u1
                          rw [HY.out] at y1
                          have HS4 := Lib.hid (psS_set HS3.out c y)
                          go_wp2
                          go_roundw
                          case rel => exact ⟨true, d + 1, L.set c y, by omega, by go_num, rfl, HS4.out, by rw [← HY.out]; exact NJ.out⟩
                          case measure => (simp only [intOf]; omega)
                        · have hdb : decide (0 ≤ y) = false := by simp only [decide_eq_false_iff_not]; exact hy0
                          have NJ := Lib.hid (HJ1.out.skip (quiet_le (by rw [HY.out]; exact fun e => hy0 e.2)))
                          refine wp_region_later_all (by kernel_rfl) (by kernel_rfl) ?_
                          repeat (go_big_quiet_step (fail))
                          go_big_quiet_step (with_reducible exact calls_later _ (l1In_ret (mc - md) _ _ _ true H1.out))
                          repeat (go_big_quiet_step (fail))
                          go_big_quiet_step (with_reducible exact calls_later _ (l1In_ret (nc - nd) _ _ _ true H2.out))
                          repeat (go_big_quiet_step (fail))
                          refine wpQuiet_nil ?_
                          intro T
                          have HS2 := Lib.hid (HS.out.later T)
                          clear HS
                          obtain ⟨u1, u2, u3⟩ := own_int (HS2.out.own 1 rfl) (j := c) (by rw [HL.out]; exact hcl)
                          obtain ⟨y1, y2, _⟩ := own_int (HS2.out.own 1 rfl) (j := d) (by rw [HL.out]; exact hdl)
                          rw [HX.out] at u1
                          rw [HY.out] at y1
                          have hLc : ∀ (U : Later T.x) (b o : Nat), b < T.x.heap.size → U.x.cell? ⟨b, o, none⟩ = T.x.cell? ⟨b, o, none⟩ := Later.cell
                          go_wp2_with (fail)
                          refine wp_region_later_all (by kernel_rfl) (by kernel_rfl) ?_
                          repeat (first | (go_big_quiet_step (fail)) | (rw [hda]) | (rw [hdb]))
                          refine wpQuiet_nil ?_
                          intro U
                          have HS3 := Lib.hid (HS2.out.later U)
                          clear HS2 hLc u1 u2 u3 y1 y2
                          go_wp2
                          go_roundw
                          case rel => exact ⟨ch, d + 1, L, by omega, by go_num, rfl, HS3.out, NJ.out⟩
                          case measure => (simp only [intOf]; omega)
                      · have hda : decide (y < x) = false := by simp only [decide_eq_false_iff_not]; exact hxy
                        have NJ := Lib.hid (HJ1.out.skip (quiet_le (by rw [HX.out, HY.out]; exact fun e => hxy e.1)))
                        refine wp_region_later_all (by kernel_rfl) (by kernel_rfl) ?_
                        repeat (go_big_quiet_step (fail))
                        go_big_quiet_step (with_reducible exact calls_later _ (l1In_ret (mc - md) _ _ _ true H1.out))
                        repeat (go_big_quiet_step (fail))
                        go_big_quiet_step (with_reducible exact calls_later _ (l1In_ret (nc - nd) _ _ _ true H2.out))
                        repeat (go_big_quiet_step (fail))
                        refine wpQuiet_nil ?_
                        intro T
                        have HS2 := Lib.hid (HS.out.later T)
                        clear HS
                        obtain ⟨u1, u2, u3⟩ := own_int (HS2.out.own 1 rfl) (j := c) (by rw [HL.out]; exact hcl)
                        obtain ⟨y1, y2, _⟩ := own_int (HS2.out.own 1 rfl) (j := d) (by rw [HL.out]; exact hdl)
                        rw [HX.out] at u1
                        rw [HY.out] at y1
                        have hLc : ∀ (U : Later T.x) (b o : Nat), b < T.x.heap.size → U.x.cell? ⟨b, o, none⟩ = T.x.cell? ⟨b, o, none⟩ := Later.cell
                        go_wp2_with (fail)
                        refine wp_region_later_all (by kernel_rfl) (by kernel_rfl) ?_
                        repeat (first | (go_big_quiet_step (fail)) | (rw [hda]))
                        refine wpQuiet_nil ?_
                        intro U
                        have HS3 := Lib.hid (HS2.out.later U)
                        clear HS2 hLc u1 u2 u3 y1 y2
                        go_wp2
                        go_roundw
                        case rel => exact ⟨ch, d + 1, L, by omega, by go_num, rfl, HS3.out, NJ.out⟩
                        case measure => (simp only [intOf]; omega)
                    · have H2 := Lib.hid (inB_no n2)
                      have NJ := Lib.hid (HJ1.out.skip (quiet_near fun e => n2 (by have := e.2; rw [hnc, hnd] at this; exact this)))
                      refine wp_region_later_all (by kernel_rfl) (by kernel_rfl) ?_
                      repeat (go_big_quiet_step (fail))
                      go_big_quiet_step (with_reducible exact calls_later _ (l1In_ret (mc - md) _ _ _ true H1.out))
                      repeat (go_big_quiet_step (fail))
                      go_big_quiet_step (with_reducible exact calls_later _ (l1In_ret (nc - nd) _ _ _ false H2.out))
                      repeat (go_big_quiet_step (fail))
                      refine wpQuiet_nil ?_
                      intro T
                      have HS2 := Lib.hid (HS.out.later T)
                      clear HS
                      go_wp2_with (fail)
                      refine wp_region_later_all (by kernel_rfl) (by kernel_rfl) ?_
                      repeat (first | (go_big_quiet_step (fail)))
                      refine wpQuiet_nil ?_
                      intro U
                      have HS3 := Lib.hid (HS2.out.later U)
                      clear HS2
                      go_wp2
                      go_roundw
                      case rel => exact ⟨ch, d + 1, L, by omega, by go_num, rfl, HS3.out, NJ.out⟩
                      case measure => (simp only [intOf]; omega)
                  · have H1 := Lib.hid (inB_no n1)
                    have NJ := Lib.hid (HJ1.out.skip (quiet_near fun e => n1 (by have := e.1; rw [hmc, hmd] at this; exact this)))
                    refine wp_region_later_all (by kernel_rfl) (by kernel_rfl) ?_
                    repeat (go_big_quiet_step (fail))
                    go_big_quiet_step (with_reducible exact calls_later _ (l1In_ret (mc - md) _ _ _ false H1.out))
                    repeat (go_big_quiet_step (fail))
                    refine wpQuiet_nil ?_
                    intro T
                    have HS2 := Lib.hid (HS.out.later T)
                    clear HS
                    go_wp2_with (fail)
                    refine wp_region_later_all (by kernel_rfl) (by kernel_rfl) ?_
                    repeat (first | (go_big_quiet_step (fail)))
                    refine wpQuiet_nil ?_
                    intro U
                    have HS3 := Lib.hid (HS2.out.later U)
                    clear HS2
                    go_wp2
                    go_roundw
                    case rel => exact ⟨ch, d + 1, L, by omega, by go_num, rfl, HS3.out, NJ.out⟩
                    case measure => (simp only [intOf]; omega)
                · have e : d = r.n2 := by omega
                  have HJ2 := Lib.hid ((e ▸ HJ1.out : HJ r (sumN r.n2 P) L ch c r.n2).row)
                  subst e
                  go_wp2
                  go_roundw
                  case rel => exact ⟨ch, c + 1, L, by omega, by go_num, rfl, HS.out, HJ2.out⟩
                  case measure => simp [intOf]; omega
            · have e : c = r.n2 := by omega
              subst e
              have HS2 := Lib.hid (psS_sum HS.out HJ1.out.inv.len)
              go_wp2
              go_roundw
              case rel => exact ⟨ch, L, rfl, HS.out, HJ1.out.inv, fun e => by subst e; exact ⟨_, HJ1.out⟩⟩
              case measure =>
                cases ch
                · simp
                · have := HJ1.out.lt rfl
                  have h1 := HS2.out
                  have h2 := HSum.out
                  simp only
                  omega

set_option maxHeartbeats 400000 in
theorem sHolesMany_any (v : Value) (r : Reg) (w : World) (h : RegV w v r) : Calls Try.prog 62 #[v] w (Ret (.int .i64 r.holesR) w) := by
  cases hv : r.valid
  · obtain ⟨a, cap, rfl, hs, hlc, hcm⟩ := h.opened
    have Hs := Lib.hid hs
    clear hs h
    go_enter Try.func62, Try.ntmps62
    go_wp2_with (fail)
    refine (sRegionValid_is _ r _ ⟨_, rfl, Hs.out.below (by go_grown)⟩ false hv).mono ?_
    rintro e w1 ⟨rfl, hb⟩
    have Hb := Lib.hid (show Below w.heap.size w w1 from Below.trans (by go_grown) (hb.mono (by simp)))
    clear hb
    go_wp2
    go_ret
    exact ⟨ret_int (holesR_no hv).symm, Hb.out⟩
  · rw [holesR_yes hv]
    exact sHoles_yes v r w h hv

end Go.Proofs.Ytbjenmfoblniaaa
