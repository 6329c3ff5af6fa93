/- Walks: FaultsOf on both sides. -/
import Derived.Test.YtcagpfnlpjfgeaaVWacross
import Derived.Test.YtcagpfnlpjfgeaaZe
import Derived.Test.YtcagpfnlpjfgeaaVClipI
import Derived.Test.YtcagpfnlpjfgeaaVWlaid
set_option linter.unusedVariables false
namespace Go.Proofs.Ytcagpfnlpjfgeaa
open Go.RowKit Domi

set_option maxRecDepth 100000 in
set_option maxHeartbeats 4000000 in
theorem FaultsOf_any (v u : Value) (r : Reg) (L : List Int) (w : World) (h : RegV w v r) (hu : Il w u L) : Calls Try.prog 30 #[v, u] w (RetWo (faultsOf r L) w) := by
  obtain ⟨ra, rc, rfl, hs, hlc, hcm⟩ := h.opened
  have S0 := Lib.hid (((Sep.start w none).box #[.int .i64 r.wide, .int .i64 r.tall, .slice ra r.cells.length rc] 25).nil 3)
  have HS := Lib.hid hs
  have HU := Lib.hid hu
  have RV : Hid (∀ w', Below w.heap.size w w' → RegV w' (.agg #[.int .i64 r.wide, .int .i64 r.tall, .slice ra r.cells.length rc]) r) := Lib.hid fun w' hb => ⟨_, rfl, HS.out.below hb⟩
  clear h hs hu
  go_enter Try.func30, Try.ntmps30
  go_wp2_with (fail)
  cases hk : laidOk r L
  · refine (LaidOk_is _ _ r L _ (RV.out _ S0.out.bel) (HU.out.below S0.out.bel) false hk).mono ?_
    rintro e w1 ⟨rfl, hb⟩
    have B1 := Lib.hid (S0.out.bel.trans (hb.mono S0.out.bel.size))
    have E := Lib.hid (faultsOf_no hk)
    clear hb
    go_wp2
    go_ret
    exact ⟨_, rfl, by rw [E.out]; exact .inl ⟨rfl, rfl⟩, B1.out⟩
  refine (LaidOk_is _ _ r L _ (RV.out _ S0.out.bel) (HU.out.below S0.out.bel) true hk).mono ?_
  rintro e w1 ⟨rfl, hb⟩
  obtain ⟨hv, hlen, _⟩ := laidOk_iff.1 hk
  have F := fld_of hv
  obtain ⟨wd, hwd⟩ : ∃ x, r.wide.toNat = x := ⟨_, rfl⟩
  obtain ⟨t, ht⟩ : ∃ x, r.tall.toNat = x := ⟨_, rfl⟩
  rw [hwd, ht] at F
  have HF := Lib.hid F
  have HN := Lib.hid hlen
  have HW := Lib.hid F.hw
  have hw6 := F.w6
  have hw0 := F.w0
  have HE := Lib.hid (faultsOf_yes hk F.hw F.ht)
  have S1 : Hid (Sep w none w1 (BoS w r (.slice ra r.cells.length rc) (.slice none 0 0) [])) := Lib.hid (S0.out.below hb)
  clear hb S0 hk hv hlen F hwd ht
  go_wp2_with (fail)
  go_loopw [5, 6] (fun o i wr => ∃ (k m : Nat) (a : Option Addr) (c : Nat) (M : List Int), 1 ≤ k ∧ k ≤ wd ∧ i = .int .i64 k ∧ o = .slice a m c ∧ Hid (M = faultsK wd t L k) ∧ Hid (m = M.length) ∧ Sep w none wr (BoS w r (.slice ra r.cells.length rc) (.slice a m c) M)) (fun _ i _ => wd - (intOf i).toNat)
  case atStart => exact ⟨1, 0, none, 0, [], Nat.le_refl _, hw0, rfl, rfl, Lib.hid (faultsK_one wd t L).symm, Lib.hid rfl, S1.out⟩
  case round =>
    clear S1
    obtain ⟨k, m, a, c, M, hk1, hk, rfl, rfl, HM, HL, S⟩ := hrel
    have HD := Lib.hid S
    have hm6 : m ≤ 6 := by
      have h1 := HL.out
      have h2 := faultsK_len wd t L k
      rw [h1, HM.out]; omega
    clear S
    obtain ⟨x0, x1, x2⟩ := HD.out.c3 0 rfl
    rw [HW.out] at x0
    by_cases hlt : k < wd
    · have hlt' : (k : Int) < (wd : Int) := by omega
      obtain ⟨s, hs⟩ : ∃ s, acrossN wd L k t = s := ⟨_, rfl⟩
      have HB : Hid (faultB wd t L k = decide (s = 0)) := Lib.hid (by unfold faultB; rw [hs])
      have HA := Lib.hid hs
      clear hs
      go_wp2_with (fail)
      rw [← HW.out]
      refine (across_any _ _ r L wd t k _ (RV.out _ HD.out.bel) (HU.out.below HD.out.bel) HF.out HN.out ⟨hk1, hlt⟩ s HA.out).mono ?_
      rintro e w3 ⟨rfl, hb⟩
      have S3 := Lib.hid (HD.out.below hb)
      clear hb HD x0 x1 x2 HA
      by_cases hs0 : s = 0
      · have N : Hid (M ++ [(k : Int)] = faultsK wd t L (k + 1)) := Lib.hid (by rw [faultsK_yes hk1 (HB.out.trans (decide_eq_true hs0)), HM.out])
        clear HB HM
        subst hs0
        go_wp2_with (at_builtin; refine list_app elem_ints 0 (.slice a m c) (M.map (Value.int .i64)) ?_ w3.heap.size (.int .i64 k) (.tmp 22) (.tmp 24) rfl rfl rfl rfl (heap_alloc_new _ _) rfl ?_ (Nat.zero_le _) ?_; exact Own.alloc (S3.out.own 1 rfl) _; (rw [List.length_map, ← HL.out]; omega); intro g2 c2 w5 A5; (have S5 := Lib.hid (boS_app (S3.out.alloc _) A5 HL.out)); clear A5 S3; rw [List.length_map, ← HL.out])
        go_roundw
        case rel => exact ⟨k + 1, m + 1, some ⟨g2, 0, none⟩, c2, M ++ [(k : Int)], by omega, by omega, by go_num, rfl, N, Lib.hid (by rw [List.length_append, ← HL.out]; rfl), S5.out⟩
        case measure => simp [intOf]; omega
      · have N : Hid (M = faultsK wd t L (k + 1)) := Lib.hid (by rw [faultsK_no (HB.out.trans (decide_eq_false hs0)), HM.out])
        have hs0' : ((s : Int) == 0) = false := by simpa using hs0
        clear HB HM hs0
        go_wp2
        go_roundw
        case rel => exact ⟨k + 1, m, a, c, M, by omega, by omega, by go_num, rfl, N, HL, S3.out⟩
        case measure => simp [intOf]; omega
    · have e : k = wd := by omega
      subst e
      have E : Hid (faultsOf r L = M) := Lib.hid (by rw [HE.out, HM.out])
      obtain ⟨hw, hca⟩ := ow_clip (HD.out.high 1 rfl) (by rw [List.length_map]; exact HL.out)
      have HW := Lib.hid hw
      clear hw HL HM
      go_wp2_with (fail)
      refine (clip_ints a m c hca.2.1 hca.2.2 _ hca.1).mono ?_
      rintro e w5 ⟨rfl, rfl⟩
      clear hca
      go_wp2
      go_ret
      exact ⟨_, rfl, by rw [E.out]; exact HW.out, HD.out.bel⟩
/-- Has no row so far a domino from column x to the west? -/
def freeT (w : Nat) (L : List Int) (x n : Nat) : Bool := (List.range n).all fun y => !decide (L.getD (y * w + x) 0 = 3)
theorem freeT_succ {w : Nat} {L : List Int} {x n : Nat} : freeT w L x (n + 1) = (freeT w L x n && !decide (L.getD (n * w + x) 0 = 3)) := by
  unfold freeT; rw [List.range_succ, List.all_append]; simp
theorem freeT_all {r : Reg} {L : List Int} {w t : Nat} (F : Fld r w t) (h : laidOk r L = true) {x : Nat} (hx : 1 ≤ x ∧ x < w) : faultB w t L x = freeT w L x t := by
  rw [Bool.eq_iff_iff, fault_west F h hx]
  unfold freeT
  rw [List.all_eq_true]
  refine ⟨fun h y hy => ?_, fun h y hy => ?_⟩
  · have := h y (List.mem_range.1 hy)
    simpa using this
  · have := h y (List.mem_range.2 hy)
    simpa using this
set_option maxRecDepth 100000 in
set_option maxHeartbeats 4000000 in
theorem sFaultsOf_any (v u : Value) (r : Reg) (L : List Int) (w : World) (h : RegV w v r) (hu : Il w u L) : Calls Try.prog 31 #[v, u] w (RetWo (faultsOf r L) w) := by
  obtain ⟨ra, rc, rfl, hs, hlc, hcm⟩ := h.opened
  have S0 := Lib.hid (((Sep.start w none).box #[.int .i64 r.wide, .int .i64 r.tall, .slice ra r.cells.length rc] 25).empty 3)
  have hsz : (w.alloc (.cells #[.int .i64 r.wide, .int .i64 r.tall, .slice ra r.cells.length rc] 25)).heap.size = w.heap.size + 1 := by simp
  rw [hsz] at S0
  have S0 : Hid (Sep w none _ (BoS w r (.slice ra r.cells.length rc) (.slice (some ⟨w.heap.size + 1, 0, none⟩) 0 0) [])) := S0
  have HS := Lib.hid hs
  have HU := Lib.hid hu
  have RV : Hid (∀ w', Below w.heap.size w w' → RegV w' (.agg #[.int .i64 r.wide, .int .i64 r.tall, .slice ra r.cells.length rc]) r) := Lib.hid fun w' hb => ⟨_, rfl, HS.out.below hb⟩
  clear h hs hsz
  cases hk : laidOk r L
  · have E := Lib.hid (faultsOf_no hk)
    have HK := Lib.hid hk
    obtain ⟨ua, uc, rfl, hul, hum, _⟩ := hu.opened
    clear hu hk
    go_enter Try.func31, Try.ntmps31
    go_wp2_with (fail)
    go_loopw [5, 6] (fun o i wr => i = .int .i64 1 ∧ o = .slice (some ⟨w.heap.size + 1, 0, none⟩) 0 0 ∧ Sep w none wr (BoS w r (.slice ra r.cells.length rc) (.slice (some ⟨w.heap.size + 1, 0, none⟩) 0 0) [])) (fun _ _ _ => 0)
    case atStart => exact ⟨rfl, rfl, S0.out⟩
    case round =>
      clear S0
      obtain ⟨rfl, rfl, S⟩ := hrel
      have HD := Lib.hid S
      clear S
      obtain ⟨x0, x1, x2⟩ := HD.out.c3 0 rfl
      by_cases hlt : 1 < r.wide
      · go_wp2_with (fail)
        refine (sLaidOk_is _ _ r L _ (RV.out _ HD.out.bel) (HU.out.below HD.out.bel) false HK.out).mono ?_
        rintro e w3 ⟨rfl, hb⟩
        have S3 := Lib.hid (HD.out.below hb)
        have HO := Lib.hid (Ow.of_owns (S3.out.high 1 rfl))
        clear hb HD x0 x1 x2
        go_wp2
        go_ret
        exact ⟨_, rfl, by rw [E.out]; exact HO.out, S3.out.bel⟩
      · have HO := Lib.hid (Ow.of_owns (HD.out.high 1 rfl))
        go_wp2
        go_ret
        exact ⟨_, rfl, by rw [E.out]; exact HO.out, HD.out.bel⟩
  obtain ⟨hv, hlen, _⟩ := laidOk_iff.1 hk
  have F := fld_of hv
  obtain ⟨wd, hwd⟩ : ∃ x, r.wide.toNat = x := ⟨_, rfl⟩
  obtain ⟨t, ht⟩ : ∃ x, r.tall.toNat = x := ⟨_, rfl⟩
  rw [hwd, ht] at F
  have HF := Lib.hid F
  have HN := Lib.hid (show L.length = wd * t by rw [hlen, F.len])
  have HW := Lib.hid F.hw
  have HT := Lib.hid F.ht
  have hw6 := F.w6
  have ht6 := F.t6
  have hw0 := F.w0
  have HE := Lib.hid (faultsOf_yes hk F.hw F.ht)
  have HK := Lib.hid hk
  obtain ⟨ua, uc, rfl, hul, hum, _⟩ := hu.opened
  clear hk hv hlen F hwd ht hu
  go_enter Try.func31, Try.ntmps31
  go_wp2_with (fail)
  go_loopw [5, 6] (fun o i wr => ∃ (k m g c : Nat) (M : List Int), 1 ≤ k ∧ k ≤ wd ∧ i = .int .i64 k ∧ o = .slice (some ⟨g, 0, none⟩) m c ∧ Hid (M = faultsK wd t L k) ∧ Hid (m = M.length) ∧ Sep w none wr (BoS w r (.slice ra r.cells.length rc) (.slice (some ⟨g, 0, none⟩) m c) M)) (fun _ i _ => wd - (intOf i).toNat)
  case atStart => exact ⟨1, 0, _, 0, [], Nat.le_refl _, hw0, rfl, rfl, Lib.hid (faultsK_one wd t L).symm, Lib.hid rfl, S0.out⟩
  case round =>
    clear S0
    obtain ⟨k, m, g, c, M, hk1, hk, rfl, rfl, HM, HL, S⟩ := hrel
    have HD := Lib.hid S
    have hm6 : m ≤ 6 := by
      have h1 := HL.out
      have h2 := faultsK_len wd t L k
      rw [h1, HM.out]; omega
    clear S
    obtain ⟨x0, x1, x2⟩ := HD.out.c3 0 rfl
    rw [HW.out] at x0
    by_cases hlt : k < wd
    · have hlt' : (k : Int) < (wd : Int) := by omega
      go_wp2_with (fail)
      rw [← HW.out]
      refine (sLaidOk_is _ _ r L _ (RV.out _ HD.out.bel) (HU.out.below HD.out.bel) true HK.out).mono ?_
      rintro e w3 ⟨rfl, hb⟩
      have S3 := Lib.hid (HD.out.below hb)
      clear hb HD x0 x1 x2
      go_wp2_with (fail)
      go_loopw [7, 8] (fun f i wq => ∃ (y : Nat) (b : Bool), y ≤ t ∧ i = .int .i64 y ∧ f = .bool b ∧ Hid (b = freeT wd L k y) ∧ Below w3.heap.size w3 wq) (fun _ i _ => t - (intOf i).toNat)
      case atStart => exact ⟨0, true, Nat.zero_le _, rfl, rfl, Lib.hid rfl, Below.refl _ _⟩
      case round =>
        obtain ⟨y, b, hy, rfl, rfl, HB, hbw⟩ := hrel
        have S4 := Lib.hid (S3.out.below hbw)
        have HBQ := Lib.hid hbw
        clear hbw
        obtain ⟨x0, x1, x2⟩ := S4.out.c3 0 rfl
        rw [HW.out] at x0
        rw [HT.out] at x1
        by_cases hyt : y < t
        · have hyt' : (y : Int) < (t : Int) := by omega
          cases b
          · have N : Hid (false = freeT wd L k (y + 1)) := Lib.hid (by rw [freeT_succ, ← HB.out]; rfl)
            clear HB
            go_wp2
            go_roundw
            case rel => exact ⟨y + 1, false, by omega, by go_num, rfl, N, HBQ.out⟩
            case measure => simp [intOf]; omega
          · obtain ⟨p, hp⟩ : ∃ p, y * wd = p := ⟨_, rfl⟩
            have hpw : p + wd ≤ L.length := by
              rw [HN.out, ← hp, ← Nat.succ_mul, Nat.mul_comm wd t]
              exact Nat.mul_le_mul_right wd hyt
            have hp36 : p ≤ 36 := by
              have h1 : L.length ≤ 6 * 6 := by rw [HN.out]; exact Nat.mul_le_mul hw6 ht6
              omega
            obtain ⟨j, hj⟩ : ∃ j, p + k = j := ⟨_, rfl⟩
            have hjl : j < L.length := by omega
            obtain ⟨ub, uf, rfl, hub, hcell⟩ := il_at (Sl.below HU.out S4.out.bel) hjl
            have hjl' : (j : Int) < (L.length : Int) := by omega
            have hyw : (y : Int) * (wd : Int) = (p : Int) := by rw [← hp]; exact (Int.natCast_mul y wd).symm
            have hjI : (p : Int) + (k : Int) = (j : Int) := by omega
            have HA : Hid (freeT wd L k (y + 1) = !decide (L.getD j 0 = 3)) := Lib.hid (by rw [freeT_succ, ← HB.out, Bool.true_and, hp, hj])
            clear hp hj HB
            by_cases he : L.getD j 0 = 3
            · have N : Hid (false = freeT wd L k (y + 1)) := Lib.hid (by rw [HA.out, decide_eq_true he]; rfl)
              rw [he] at hcell
              clear HA he
              go_wp2
              go_roundw
              case rel => exact ⟨y + 1, false, by omega, by go_num, rfl, N, HBQ.out⟩
              case measure => simp [intOf]; omega
            · have N : Hid (true = freeT wd L k (y + 1)) := Lib.hid (by rw [HA.out, decide_eq_false he]; rfl)
              have he' : (L.getD j 0 != 3) = true := by simpa using he
              generalize L.getD j 0 = z at *
              clear HA he
              go_wp2
              go_roundw
              case rel => exact ⟨y + 1, true, by omega, by go_num, rfl, N, HBQ.out⟩
              case measure => simp [intOf]; omega
        · have e : y = t := by omega
          subst e
          have HFB : Hid (faultB wd y L k = b) := Lib.hid (by rw [HB.out]; exact freeT_all HF.out HK.out ⟨hk1, hlt⟩)
          clear HB
          cases b
          · have N : Hid (M = faultsK wd y L (k + 1)) := Lib.hid (by rw [faultsK_no HFB.out, HM.out])
            clear HFB HM
            go_wp2
            go_roundw
            case rel => exact ⟨k + 1, m, g, c, M, by omega, by omega, by go_num, rfl, N, HL, S4.out⟩
            case measure => simp [intOf]; omega
          · have N : Hid (M ++ [(k : Int)] = faultsK wd y L (k + 1)) := Lib.hid (by rw [faultsK_yes hk1 HFB.out, HM.out])
            clear HFB HM
            go_wp2_with (at_builtin; refine list_app elem_ints 0 (.slice (some ⟨g, 0, none⟩) m c) (M.map (Value.int .i64)) ?_ wr.heap.size (.int .i64 k) (.tmp 41) (.tmp 43) rfl rfl rfl rfl (heap_alloc_new _ _) rfl ?_ (Nat.zero_le _) ?_; exact Own.alloc (S4.out.own 1 rfl) _; (rw [List.length_map, ← HL.out]; omega); intro g2 c2 w5 A5; (have S5 := Lib.hid (boS_app (S4.out.alloc _) A5 HL.out)); clear A5 S4; rw [List.length_map, ← HL.out])
            go_roundw
            case rel => exact ⟨k + 1, m + 1, g2, c2, M ++ [(k : Int)], by omega, by omega, by go_num, rfl, N, Lib.hid (by rw [List.length_append, ← HL.out]; rfl), S5.out⟩
            case measure => simp [intOf]; omega
    · have e : k = wd := by omega
      subst e
      have E : Hid (faultsOf r L = M) := Lib.hid (by rw [HE.out, HM.out])
      have HO := Lib.hid (Ow.of_owns (HD.out.high 1 rfl))
      clear HL HM
      go_wp2
      go_ret
      exact ⟨_, rfl, by rw [E.out]; exact HO.out, HD.out.bel⟩
end Go.Proofs.Ytcagpfnlpjfgeaa
