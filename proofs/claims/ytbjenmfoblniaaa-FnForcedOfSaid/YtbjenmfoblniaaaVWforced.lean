/- Walks: ForcedOf on both sides. -/
import Derived.Test.YtbjenmfoblniaaaVClipI
import Derived.Test.YtbjenmfoblniaaaZe
import Derived.Test.YtbjenmfoblniaaaVWwith
import Derived.Test.YtbjenmfoblniaaaVWwithS
import Derived.Test.YtbjenmfoblniaaaVWcntB
import Derived.Test.YtbjenmfoblniaaaVLaw
set_option linter.unusedVariables false
namespace Go.Proofs.Ytbjenmfoblniaaa
open Go.RowKit Domi

theorem TilingsWith_is (v : Value) (r : Reg) (c way : Int) (w : World) (h : RegV w v r) (t : Int) (ht : withT r c way = t) : Calls Try.prog 27 #[v, .int .i64 c, .int .i64 way] w (Ret (.int .i64 t) w) := by rw [← ht]; exact TilingsWith_any v r c way w h
theorem sTilingsWith_is (v : Value) (r : Reg) (c way : Int) (w : World) (h : RegV w v r) (t : Int) (ht : withT r c way = t) : Calls Try.prog 31 #[v, .int .i64 c, .int .i64 way] w (Ret (.int .i64 t) w) := by rw [← ht]; exact sTilingsWith_any v r c way w h
set_option maxRecDepth 100000 in
set_option maxHeartbeats 4000000 in
theorem ForcedOf_any (v : Value) (r : Reg) (w : World) (h : RegV w v r) : Calls Try.prog 34 #[v] w (RetWo (forced r) w) := by
  obtain ⟨ra, rc, rfl, hs, hlc, hcm⟩ := h.opened
  have S0 := Lib.hid (((Sep.start w none).box #[.int .i64 r.wide, .int .i64 r.tall, .slice ra r.cells.length rc] 29).nil 3)
  have HS := Lib.hid hs
  have RV : Hid (∀ w', Below w.heap.size w w' → RegV w' (.agg #[.int .i64 r.wide, .int .i64 r.tall, .slice ra r.cells.length rc]) r) := Lib.hid fun w' hb => ⟨_, rfl, HS.out.below hb⟩
  clear h hs
  go_enter Try.func34, Try.ntmps34
  go_wp2_with (fail)
  cases hv : r.valid
  · refine (RegionValid_is _ r _ (RV.out _ S0.out.bel) false hv).mono ?_
    rintro e w1 ⟨rfl, hb⟩
    have B1 := Lib.hid (S0.out.bel.trans (hb.mono S0.out.bel.size))
    have E : Hid (forced r = []) := Lib.hid (forced_no (by rw [manyT_no hv]; omega))
    clear hb
    go_wp2
    go_ret
    exact ⟨_, rfl, by rw [E.out]; exact .inl ⟨rfl, rfl⟩, B1.out⟩
  refine (RegionValid_is _ r _ (RV.out _ S0.out.bel) true hv).mono ?_
  rintro e w1 ⟨rfl, hb⟩
  have S1 := Lib.hid (S0.out.below hb)
  have hl36 : r.cells.length ≤ 36 := by
    obtain ⟨b1, b2, b3, b4⟩ := Reg.valid_iff.1 hv
    have := area_in b1 b2; omega
  clear hb S0
  obtain ⟨x0, x1, x2⟩ := S1.out.c3 0 rfl
  obtain ⟨n, hn⟩ : ∃ n, manyT r = n := ⟨_, rfl⟩
  go_wp2_with (fail)
  refine (total_any _ r _ (RV.out _ S1.out.bel) hv).mono ?_
  rw [hn]
  rintro e w2 ⟨rfl, hb⟩
  have S2 : Hid (Sep w none w2 (BoS w r (.slice ra r.cells.length rc) (.slice none 0 0) [])) := Lib.hid (S1.out.below hb)
  have HN := Lib.hid hn
  clear hb S1 x0 x1 x2 hv hn
  obtain ⟨x0, x1, x2⟩ := S2.out.c3 0 rfl
  go_wp2_with (fail)
  clear x0 x1 x2
  go_loopw [4, 16] (fun o i wr => ∃ (k m : Nat) (a : Option Addr) (c : Nat) (L : List Int), k ≤ r.cells.length ∧ i = .int .i64 k ∧ o = .slice a m c ∧ Hid (L = frcL r k) ∧ Hid (m = L.length) ∧ Sep w none wr (BoS w r (.slice ra r.cells.length rc) (.slice a m c) L)) (fun _ i _ => r.cells.length - (intOf i).toNat)
  case atStart => exact ⟨0, 0, none, 0, [], Nat.zero_le _, rfl, rfl, Lib.hid rfl, Lib.hid rfl, S2.out⟩
  case round =>
    clear S2
    obtain ⟨k, m, a, c, L, hk, rfl, rfl, HL, HM, S⟩ := hrel
    have HD := Lib.hid S
    clear S
    by_cases hlt : k < r.cells.length
    · have hlt' : (k : Int) < (r.cells.length : Int) := by omega
      obtain ⟨_, _, _, rb, ro, rfl, hrb, hbc⟩ := bl_cell (HS.out.below HD.out.bel) hlt
      obtain ⟨has, hhas⟩ : ∃ b, r.cells.getD k false = b := ⟨_, rfl⟩
      rw [hhas] at hbc
      have HF : Hid (r.f k = has) := Lib.hid hhas
      clear hhas
      go_wp2_with (fail)
      clear hbc hrb
      go_loopw [4, 7] (fun o i wq => ∃ (j m : Nat) (a : Option Addr) (c : Nat) (M : List Int), j ≤ 4 ∧ i = .int .i64 ((j : Int) + 1) ∧ o = .slice a m c ∧ Hid (M = L ++ frcK r k j) ∧ Hid (m = M.length) ∧ Sep w none wq (BoS w r (.slice (some ⟨rb, ro, none⟩) r.cells.length rc) (.slice a m c) M)) (fun _ i _ => 6 - (intOf i).toNat)
      case atStart => exact ⟨0, m, a, c, L, by omega, rfl, rfl, Lib.hid (by unfold frcK; rw [List.append_nil]), HM, HD.out⟩
      case round =>
        clear HD HM
        obtain ⟨j, m, a, c, M, hj, rfl, rfl, HL2, HM, S⟩ := hrel
        have HD := Lib.hid S
        have hm200 : m ≤ 200 := by
          have h1 := HM.out
          have h2 := HL2.out
          have h3 := HL.out
          have h4 := frcL_len r k
          have h5 := frcK_len r k j
          rw [h1, h2, List.length_append, h3]; omega
        clear S
        have done : frcK r k j = frcK r k 4 → Hid (M = frcL r (k + 1)) := fun e => Lib.hid (by rw [HL2.out, HL.out, e]; rfl)
        have HDN := Lib.hid done
        clear done
        cases has
        · have E := Lib.hid (HDN.out (by rw [frcK_out HF.out, frcK_out HF.out])).out
          clear HDN
          by_cases hj4 : j < 4
          · go_wp2
            go_roundw
            case rel => exact ⟨k + 1, m, a, c, M, by omega, by go_num, rfl, E, HM, HD.out⟩
            case measure => simp [intOf]; omega
          · have e4 : j = 4 := by omega
            subst e4
            go_wp2
            go_roundw
            case rel => exact ⟨k + 1, m, a, c, M, by omega, by go_num, rfl, E, HM, HD.out⟩
            case measure => simp [intOf]; omega
        · by_cases hn0 : 0 < n
          · by_cases hj4 : j < 4
            · obtain ⟨t, ht⟩ : ∃ t, withT r k ((j : Int) + 1) = t := ⟨_, rfl⟩
              have HB : Hid (frcB r k ((j : Int) + 1) = decide (t = n)) := Lib.hid (by rw [frcB_is HF.out (by rw [HN.out]; exact hn0), ht, HN.out])
              have HT := Lib.hid ht
              clear ht HDN
              obtain ⟨x0, x1, x2⟩ := HD.out.c3 0 rfl
              go_wp2_with (fail)
              refine (TilingsWith_is _ r k ((j : Int) + 1) _ (RV.out _ HD.out.bel) t HT.out).mono ?_
              rintro e w4 ⟨rfl, hb⟩
              have S4 := Lib.hid (HD.out.below hb)
              clear hb HD x0 x1 x2 HT
              by_cases htn : t = n
              · have N : Hid (M ++ [(k : Int)] = L ++ frcK r k (j + 1)) := Lib.hid (by rw [frc_step_yes (HB.out.trans (decide_eq_true htn)), HL2.out, List.append_assoc])
                clear HB HL2
                subst htn
                go_wp2_with (at_builtin; refine list_app elem_ints 0 (.slice a m c) (M.map (Value.int .i64)) ?_ w4.heap.size (.int .i64 k) (.tmp 38) (.tmp 40) rfl rfl rfl rfl (heap_alloc_new _ _) rfl ?_ (Nat.zero_le _) ?_; exact Own.alloc (S4.out.own 1 rfl) _; (rw [List.length_map, ← HM.out]; omega); intro g2 c2 w5 A5; (have S5 := Lib.hid (boS_app (S4.out.alloc _) A5 HM.out)); clear A5 S4; rw [List.length_map, ← HM.out])
                go_roundw
                case rel => exact ⟨j + 1, m + 1, some ⟨g2, 0, none⟩, c2, M ++ [(k : Int)], by omega, by go_num, rfl, N, Lib.hid (by rw [List.length_append, ← HM.out]; rfl), S5.out⟩
                case measure => simp [intOf]; omega
              · have N : Hid (M = L ++ frcK r k (j + 1)) := Lib.hid (by rw [frc_step_no (HB.out.trans (decide_eq_false htn)), HL2.out])
                have htn' : (t == n) = false := by simpa using htn
                clear HB HL2 htn
                go_wp2
                go_roundw
                case rel => exact ⟨j + 1, m, a, c, M, by omega, by go_num, rfl, N, HM, S4.out⟩
                case measure => simp [intOf]; omega
            · have e4 : j = 4 := by omega
              subst e4
              have E := Lib.hid (HDN.out rfl).out
              clear HDN hj4
              go_wp2
              go_roundw
              case rel => exact ⟨k + 1, m, a, c, M, by omega, by go_num, rfl, E, HM, HD.out⟩
              case measure => simp [intOf]; omega
          · have E := Lib.hid (HDN.out (by rw [frcK_none (by rw [HN.out]; exact hn0), frcK_none (by rw [HN.out]; exact hn0)])).out
            clear HDN
            by_cases hj4 : j < 4
            · go_wp2
              go_roundw
              case rel => exact ⟨k + 1, m, a, c, M, by omega, by go_num, rfl, E, HM, HD.out⟩
              case measure => simp [intOf]; omega
            · have e4 : j = 4 := by omega
              subst e4
              go_wp2
              go_roundw
              case rel => exact ⟨k + 1, m, a, c, M, by omega, by go_num, rfl, E, HM, HD.out⟩
              case measure => simp [intOf]; omega
    · have e : k = r.cells.length := by omega
      subst e
      have E : Hid (forced r = L) := Lib.hid HL.out.symm
      obtain ⟨hw, hca⟩ := ow_clip (HD.out.high 1 rfl) (by rw [List.length_map]; exact HM.out)
      have HW := Lib.hid hw
      clear hw HL HM
      go_wp2_with (fail)
      refine (clip_ints a m c hca.2.1 hca.2.2 _ hca.1).mono ?_
      rintro e w5 ⟨rfl, rfl⟩
      clear hca
      go_wp2
      go_ret
      exact ⟨_, rfl, by rw [E.out]; exact HW.out, HD.out.bel⟩
set_option maxRecDepth 100000 in
set_option maxHeartbeats 4000000 in
theorem sForcedOf_any (v : Value) (r : Reg) (w : World) (h : RegV w v r) : Calls Try.prog 36 #[v] w (RetWo (forced r) w) := by
  obtain ⟨ra, rc, rfl, hs, hlc, hcm⟩ := h.opened
  have S0 := Lib.hid (((Sep.start w none).box #[.int .i64 r.wide, .int .i64 r.tall, .slice ra r.cells.length rc] 29).empty 3)
  have hsz : (w.alloc (.cells #[.int .i64 r.wide, .int .i64 r.tall, .slice ra r.cells.length rc] 29)).heap.size = w.heap.size + 1 := by simp
  rw [hsz] at S0
  have S0 : Hid (Sep w none _ (BoS w r (.slice ra r.cells.length rc) (.slice (some ⟨w.heap.size + 1, 0, none⟩) 0 0) [])) := S0
  have HS := Lib.hid hs
  have RV : Hid (∀ w', Below w.heap.size w w' → RegV w' (.agg #[.int .i64 r.wide, .int .i64 r.tall, .slice ra r.cells.length rc]) r) := Lib.hid fun w' hb => ⟨_, rfl, HS.out.below hb⟩
  clear h hs hsz
  obtain ⟨n, hn⟩ : ∃ n, manyT r = n := ⟨_, rfl⟩
  have hl36 : 0 < n → r.cells.length ≤ 36 := fun h0 => by
    have hv := valid_of_many (r := r) (by rw [hn]; exact h0)
    obtain ⟨b1, b2, b3, b4⟩ := Reg.valid_iff.1 hv
    have := area_in b1 b2; omega
  have HN := Lib.hid hn
  clear hn
  have HM0 : Hid (∀ v w, RegV w v r → Calls Try.prog 25 #[v] w (Ret (.int .i64 n) w)) := Lib.hid fun v w h => by rw [← HN.out]; exact sTilingsMany_any v r w h
  go_enter Try.func36, Try.ntmps36
  go_wp2_with (fail)
  refine (HM0.out _ _ (RV.out _ S0.out.bel)).mono ?_
  rintro e w2 ⟨rfl, hb⟩
  have S2 := Lib.hid (S0.out.below hb)
  clear hb S0 HM0
  go_wp2_with (fail)
  go_loopw [3, 5] (fun o i wr => ∃ (k m g : Nat) (c : Nat) (L : List Int), k ≤ r.cells.length ∧ i = .int .i64 k ∧ o = .slice (some ⟨g, 0, none⟩) m c ∧ Hid (L = frcL r k) ∧ Hid (m = L.length) ∧ Sep w none wr (BoS w r (.slice ra r.cells.length rc) (.slice (some ⟨g, 0, none⟩) m c) L)) (fun _ i _ => r.cells.length - (intOf i).toNat)
  case atStart => exact ⟨0, 0, _, 0, [], Nat.zero_le _, rfl, rfl, Lib.hid rfl, Lib.hid rfl, S2.out⟩
  case round =>
    clear S2
    obtain ⟨k, m, g, c, L, hk, rfl, rfl, HL, HM, S⟩ := hrel
    have HD := Lib.hid S
    clear S
    obtain ⟨x0, x1, x2⟩ := HD.out.c3 0 rfl
    by_cases hn0 : 0 < n
    · have hl36 := hl36 hn0
      by_cases hlt : k < r.cells.length
      · have hlt' : (k : Int) < (r.cells.length : Int) := by omega
        obtain ⟨_, _, _, rb, ro, rfl, hrb, hbc⟩ := bl_cell (HS.out.below HD.out.bel) hlt
        obtain ⟨has, hhas⟩ : ∃ b, r.cells.getD k false = b := ⟨_, rfl⟩
        rw [hhas] at hbc
        have HF : Hid (r.f k = has) := Lib.hid hhas
        clear hhas
        go_wp2_with (fail)
        obtain ⟨wo, hwo⟩ : ∃ wo, wo = wr := ⟨_, rfl⟩
        have hbc0 := hbc
        clear x0 x1 x2 hbc hrb
        go_loopw [3, 6] (fun o i wq => ∃ (j m g : Nat) (c : Nat) (M : List Int), j ≤ 4 ∧ i = .int .i64 ((j : Int) + 1) ∧ o = .slice (some ⟨g, 0, none⟩) m c ∧ Hid (M = L ++ frcK r k j) ∧ Hid (m = M.length) ∧ Sep w none wq (BoS w r (.slice (some ⟨rb, ro, none⟩) r.cells.length rc) (.slice (some ⟨g, 0, none⟩) m c) M)) (fun _ i _ => 6 - (intOf i).toNat)
        case atStart => exact ⟨0, m, g, c, L, by omega, rfl, rfl, Lib.hid (by unfold frcK; rw [List.append_nil]), HM, HD.out⟩
        case round =>
          clear HD HM hbc0 hwo
          obtain ⟨j, m, g, c, M, hj, rfl, rfl, HL2, HM, S⟩ := hrel
          have HD := Lib.hid S
          have hm200 : m ≤ 200 := by
            have h1 := HM.out
            have h2 := HL2.out
            have h3 := HL.out
            have h4 := frcL_len r k
            have h5 := frcK_len r k j
            rw [h1, h2, List.length_append, h3]; omega
          clear S
          by_cases hj4 : j < 4
          · obtain ⟨_, _, _, _, _, e9, hrb, hbc⟩ := bl_cell (HS.out.below HD.out.bel) hlt
            cases e9
            rw [show r.cells.getD k false = has from HF.out] at hbc
            obtain ⟨x0, x1, x2⟩ := HD.out.c3 0 rfl
            cases has
            · have N : Hid (M = L ++ frcK r k (j + 1)) := Lib.hid (by rw [frcK_out HF.out, HL2.out, frcK_out HF.out])
              clear HL2
              go_wp2
              go_roundw
              case rel => exact ⟨j + 1, m, g, c, M, by omega, by go_num, rfl, N, HM, HD.out⟩
              case measure => simp [intOf]; omega
            · obtain ⟨t, ht⟩ : ∃ t, withT r k ((j : Int) + 1) = t := ⟨_, rfl⟩
              have HB : Hid (frcB r k ((j : Int) + 1) = decide (t = n)) := Lib.hid (by rw [frcB_is HF.out (by rw [HN.out]; exact hn0), ht, HN.out])
              have HT := Lib.hid ht
              clear ht
              go_wp2_with (fail)
              refine (sTilingsWith_is _ r k ((j : Int) + 1) _ (RV.out _ HD.out.bel) t HT.out).mono ?_
              rintro e w4 ⟨rfl, hb⟩
              have S4 := Lib.hid (HD.out.below hb)
              clear hb HD x0 x1 x2 HT hbc hrb
              by_cases htn : t = n
              · have N : Hid (M ++ [(k : Int)] = L ++ frcK r k (j + 1)) := Lib.hid (by rw [frc_step_yes (HB.out.trans (decide_eq_true htn)), HL2.out, List.append_assoc])
                clear HB HL2
                subst htn
                go_wp2_with (at_builtin; refine list_app elem_ints 0 (.slice (some ⟨g, 0, none⟩) m c) (M.map (Value.int .i64)) ?_ w4.heap.size (.int .i64 k) (.tmp 38) (.tmp 40) rfl rfl rfl rfl (heap_alloc_new _ _) rfl ?_ (Nat.zero_le _) ?_; exact Own.alloc (S4.out.own 1 rfl) _; (rw [List.length_map, ← HM.out]; omega); intro g2 c2 w5 A5; (have S5 := Lib.hid (boS_app (S4.out.alloc _) A5 HM.out)); clear A5 S4; rw [List.length_map, ← HM.out])
                go_roundw
                case rel => exact ⟨j + 1, m + 1, g2, c2, M ++ [(k : Int)], by omega, by go_num, rfl, N, Lib.hid (by rw [List.length_append, ← HM.out]; rfl), S5.out⟩
                case measure => simp [intOf]; omega
              · have N : Hid (M = L ++ frcK r k (j + 1)) := Lib.hid (by rw [frc_step_no (HB.out.trans (decide_eq_false htn)), HL2.out])
                have htn' : (t == n) = false := by simpa using htn
                clear HB HL2 htn
                go_wp2
                go_roundw
                case rel => exact ⟨j + 1, m, g, c, M, by omega, by go_num, rfl, N, HM, S4.out⟩
                case measure => simp [intOf]; omega
          · have e4 : j = 4 := by omega
            subst e4
            have E : Hid (M = frcL r (k + 1)) := Lib.hid (by rw [HL2.out, HL.out]; rfl)
            clear hj4
            go_wp2
            go_roundw
            case rel => exact ⟨k + 1, m, g, c, M, by omega, by go_num, rfl, E, HM, HD.out⟩
            case measure => simp [intOf]; omega
      · have e : k = r.cells.length := by omega
        subst e
        have E : Hid (forced r = L) := Lib.hid HL.out.symm
        have HO := Lib.hid (Ow.of_owns (HD.out.high 1 rfl))
        clear HL HM
        go_wp2
        go_ret
        exact ⟨_, rfl, by rw [E.out]; exact HO.out, HD.out.bel⟩
    · have E : Hid (forced r = L) := Lib.hid (by rw [HL.out, frcL_none (by rw [HN.out]; exact hn0), forced_no (by rw [HN.out]; exact hn0)])
      have HO := Lib.hid (Ow.of_owns (HD.out.high 1 rfl))
      clear HL HM
      by_cases hlt : k < r.cells.length
      · have hlt' : (k : Int) < (r.cells.length : Int) := by omega
        go_wp2
        go_ret
        exact ⟨_, rfl, by rw [E.out]; exact HO.out, HD.out.bel⟩
      · have hlt' : ¬ (k : Int) < (r.cells.length : Int) := by omega
        go_wp2
        go_ret
        exact ⟨_, rfl, by rw [E.out]; exact HO.out, HD.out.bel⟩
end Go.Proofs.Ytbjenmfoblniaaa
