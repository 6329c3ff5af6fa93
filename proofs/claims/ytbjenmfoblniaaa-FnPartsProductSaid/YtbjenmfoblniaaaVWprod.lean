/- Walks: PartsProduct of the program and of the reference. -/
import Derived.Test.YtbjenmfoblniaaaVWpartR
import Derived.Test.YtbjenmfoblniaaaVWcntB
import Derived.Test.YtbjenmfoblniaaaVWfrontB
set_option linter.unusedVariables false
namespace Go.Proofs.Ytbjenmfoblniaaa
open Go.RowKit Domi

theorem PartRegion_q (v : Value) (r : Reg) (p : Int) (w : World) (h : RegV w v r) (q : Reg × Bool) (hq : partReg r p = q) : Calls Try.prog 40 #[v, .int .i64 p] w (RetRB q w) := by rw [← hq]; exact PartRegion_any v r p w h
theorem sPartRegion_q (v : Value) (r : Reg) (p : Int) (w : World) (h : RegV w v r) (q : Reg × Bool) (hq : partReg r p = q) : Calls Try.prog 41 #[v, .int .i64 p] w (RetRB q w) := by rw [← hq]; exact sPartRegion_any v r p w h
theorem prodTo_bd {r : Reg} (hv : r.valid = true) (n : Nat) : 0 ≤ prodTo r n ∧ prodTo r n ≤ 1099511627776 := by
  rw [prodTo_is hv]; exact manyT_bd (below_valid hv n)
theorem partReg_cell {r : Reg} (hv : r.valid = true) (k : Nat) : (partN r k = k → partReg r k = (r.partC k, true)) ∧ (partN r k ≠ k → partReg r k = (Reg.zero, false)) := by
  constructor
  · intro h
    exact partReg_yes hv ((hasPart_cell hv).2 h)
  · intro h
    refine partReg_no2 ?_
    cases e : hasPart r k
    · rfl
    · exact absurd ((hasPart_cell hv).1 e) h

set_option maxRecDepth 100000 in
set_option maxHeartbeats 2000000 in
theorem PartsProduct_any (v : Value) (r : Reg) (w : World) (h : RegV w v r) : Calls Try.prog 29 #[v] w (Ret (.int .i64 (prodR r)) w) := by
  obtain ⟨a, cap, rfl, hs, hlc, hcm⟩ := h.opened
  have RV : ∀ w', Below w.heap.size w w' → RegV w' (.agg #[.int .i64 r.wide, .int .i64 r.tall, .slice a r.cells.length cap]) r := fun w' hb => ⟨_, rfl, hs.below hb⟩
  have RV := Lib.hid RV
  have S0 := Lib.hid ((Sep.start w none).box #[.int .i64 r.wide, .int .i64 r.tall, .slice a r.cells.length cap] 29)
  clear hs h
  obtain ⟨R, hR⟩ : ∃ R, R = prodR r := ⟨_, rfl⟩
  rw [← hR]
  have HR := Lib.hid hR
  clear hR
  go_enter Try.func29, Try.ntmps29
  go_wp2_with (fail)
  refine (RegionValid_any _ r _ (RV.out _ S0.out.bel)).mono ?_
  rintro e w1 ⟨rfl, hb⟩
  have S1 := Lib.hid (S0.out.below hb)
  clear hb S0
  cases hv : r.valid
  · have hR1 : R = -1 := by rw [HR.out]; exact prodR_no hv
    clear HR hv
    subst hR1
    go_wp2
    go_ret
    exact ⟨rfl, S1.out.bel⟩
  have HV := Lib.hid hv
  have hRn : Hid (R = prodTo r r.cells.length) := Lib.hid (by rw [HR.out]; exact prodR_yes hv)
  have hl36 : r.cells.length ≤ 36 := by
    obtain ⟨b1, b2, b3, b4⟩ := Reg.valid_iff.1 hv
    have := area_in b1 b2; omega
  clear hv HR
  obtain ⟨x0, x1, x2⟩ := S1.out.c3 0 rfl
  have x3 := S1.out.lt 0 rfl rfl
  go_wp2_with (fail)
  go_loopw [3, 13] (fun q i wr => ∃ k : Nat, k ≤ r.cells.length ∧ i = .int .i64 k ∧ q = .int .i64 (prodTo r k) ∧ Sep w none wr [.box w.heap.size #[.int .i64 r.wide, .int .i64 r.tall, .slice a r.cells.length cap] 29]) (fun _ i _ => r.cells.length - (intOf i).toNat)
  case atStart => exact ⟨0, Nat.zero_le _, rfl, rfl, S1.out⟩
  case round =>
    clear S1 x0 x1 x2 x3
    obtain ⟨k, hk, rfl, rfl, S⟩ := hrel
    have HS := Lib.hid S
    clear S
    have bd := prodTo_bd HV.out k
    by_cases hlt : k < r.cells.length
    · have bd2 := prodTo_bd HV.out (k + 1)
      obtain ⟨x0, x1, x2⟩ := HS.out.c3 0 rfl
      have x3 := HS.out.lt 0 rfl rfl
      go_wp2_with (fail)
      by_cases hp : partN r k = k
      · refine (PartRegion_q _ r k _ (RV.out _ HS.out.bel) _ ((partReg_cell HV.out k).1 hp)).mono ?_
        rintro e w4 ⟨v4, rfl, hv4, hb⟩
        have HS4 := Lib.hid (HS.out.below hb)
        obtain ⟨a4, c4, rfl, hs4, _, _⟩ := hv4.opened
        have R4 := Lib.hid (RB.new hs4)
        have B4 := Lib.hid (show Below w4.heap.size w4 (w4.alloc (.cells #[.int .i64 (r.partC k).wide, .int .i64 (r.partC k).tall, .slice a4 (r.partC k).cells.length c4] 29)) from below_alloc w4 _)
        have hpe : Hid (prodTo r (k + 1) = prodTo r k * manyT (r.partC k)) := Lib.hid (by rw [prodTo, if_pos hp])
        have hpv := Lib.hid (partC_valid HV.out k)
        rw [hpe.out] at bd2
        clear hb hv4 hs4 x0 x1 x2 x3 hp
        go_wp2_with (fail)
        obtain ⟨W, hW⟩ : ∃ W, W = w4.alloc (.cells #[.int .i64 (r.partC k).wide, .int .i64 (r.partC k).tall, .slice a4 (r.partC k).cells.length c4] 29) := ⟨_, rfl⟩
        rw [← hW] at R4 B4 ⊢
        clear hW
        refine (total_any _ (r.partC k) _ R4.out.v hpv.out).mono ?_
        rintro e w5 ⟨rfl, hb⟩
        have HS5 := Lib.hid ((HS4.out.below B4.out).below hb)
        clear hb R4 B4 hpv
        generalize manyT (r.partC k) = m at *
        generalize prodTo r k = P at *
        go_wp2
        go_roundw
        case rel => exact ⟨k + 1, by omega, by go_num, by rw [hpe.out], HS5.out⟩
        case measure => simp [intOf]; omega
      · refine (PartRegion_q _ r k _ (RV.out _ HS.out.bel) _ ((partReg_cell HV.out k).2 hp)).mono ?_
        rintro e w4 ⟨v4, rfl, hv4, hb⟩
        have HS4 := Lib.hid (HS.out.below hb)
        obtain ⟨a4, c4, rfl, hs4, _, _⟩ := hv4.opened
        have B4 := Lib.hid (HS4.out.alloc (.cells #[.int .i64 Reg.zero.wide, .int .i64 Reg.zero.tall, .slice a4 Reg.zero.cells.length c4] 29))
        have hpe : Hid (prodTo r (k + 1) = prodTo r k) := Lib.hid (by rw [prodTo, if_neg hp, Int.mul_one])
        clear hb hv4 hs4 x0 x1 x2 x3 hp bd2
        go_wp2
        go_roundw
        case rel => exact ⟨k + 1, by omega, by go_num, by rw [hpe.out], B4.out⟩
        case measure => simp [intOf]; omega
    · have e : k = r.cells.length := by omega
      subst e
      obtain ⟨x0, x1, x2⟩ := HS.out.c3 0 rfl
      have x3 := HS.out.lt 0 rfl rfl
      go_wp2
      go_ret
      exact ⟨ret_int hRn.out.symm, HS.out.bel⟩

set_option maxRecDepth 100000 in
set_option maxHeartbeats 2000000 in
theorem sPartsProduct_any (v : Value) (r : Reg) (w : World) (h : RegV w v r) : Calls Try.prog 46 #[v] w (Ret (.int .i64 (prodR r)) w) := by
  obtain ⟨a, cap, rfl, hs, hlc, hcm⟩ := h.opened
  have RV : ∀ w', Below w.heap.size w w' → RegV w' (.agg #[.int .i64 r.wide, .int .i64 r.tall, .slice a r.cells.length cap]) r := fun w' hb => ⟨_, rfl, hs.below hb⟩
  have RV := Lib.hid RV
  have S0 := Lib.hid ((Sep.start w none).box #[.int .i64 r.wide, .int .i64 r.tall, .slice a r.cells.length cap] 29)
  clear hs h
  obtain ⟨R, hR⟩ : ∃ R, R = prodR r := ⟨_, rfl⟩
  rw [← hR]
  have HR := Lib.hid hR
  clear hR
  go_enter Try.func46, Try.ntmps46
  go_wp2_with (fail)
  refine (sRegionValid_any _ r _ (RV.out _ S0.out.bel)).mono ?_
  rintro e w1 ⟨rfl, hb⟩
  have S1 := Lib.hid (S0.out.below hb)
  clear hb S0
  cases hv : r.valid
  · have hR1 : R = -1 := by rw [HR.out]; exact prodR_no hv
    clear HR hv
    subst hR1
    go_wp2
    go_ret
    exact ⟨rfl, S1.out.bel⟩
  have HV := Lib.hid hv
  have hRn : Hid (R = prodTo r r.cells.length) := Lib.hid (by rw [HR.out]; exact prodR_yes hv)
  have hl36 : r.cells.length ≤ 36 := by
    obtain ⟨b1, b2, b3, b4⟩ := Reg.valid_iff.1 hv
    have := area_in b1 b2; omega
  have hlen : r.partsR.length = r.cells.length := by rw [partsR_yes hv, parts_length]
  have HN := Lib.hid (show ∀ k, k < r.cells.length → r.partsR.getD k 0 = partN r k from fun k hk => by rw [partsR_yes hv, parts_get hk])
  clear hv HR
  obtain ⟨x0, x1, x2⟩ := S1.out.c3 0 rfl
  have x3 := S1.out.lt 0 rfl rfl
  go_wp2_with (fail)
  refine (sPartsOf_any _ r _ (RV.out _ S1.out.bel)).mono ?_
  rintro e w2 ⟨u, rfl, hu, hb⟩
  have S2 := Lib.hid (S1.out.below hb)
  obtain ⟨ua, uc, rfl, l1, l2, hg⟩ := il_get hu
  rw [hlen] at hg l1 ⊢
  have HG := Lib.hid hg
  clear hu hb hg S1 hlen x0 x1 x2 x3
  go_wp2_with (fail)
  go_loopw [3, 5] (fun q i wr => ∃ k : Nat, k ≤ r.cells.length ∧ i = .int .i64 k ∧ q = .int .i64 (prodTo r k) ∧ Below w2.heap.size w2 wr) (fun _ i _ => r.cells.length - (intOf i).toNat)
  case atStart => exact ⟨0, Nat.zero_le _, rfl, rfl, Below.refl _ _⟩
  case round =>
    obtain ⟨k, hk, rfl, rfl, hbw⟩ := hrel
    have HBW := Lib.hid hbw
    have HS := Lib.hid (S2.out.below hbw)
    clear hbw
    have bd := prodTo_bd HV.out k
    by_cases hlt : k < r.cells.length
    · have bd2 := prodTo_bd HV.out (k + 1)
      obtain ⟨x0, x1, x2⟩ := HS.out.c3 0 rfl
      have x3 := HS.out.lt 0 rfl rfl
      obtain ⟨ub, uo, rfl, hub, hck⟩ := HG.out k hlt
      rw [HN.out _ hlt] at hck
      have hc1 : wr.cell? ⟨ub, uo + k, none⟩ = _ := ((bcell HBW.out).1 ub (uo + k) hub).trans hck
      have hub2 : ub < wr.heap.size := Nat.lt_of_lt_of_le hub HBW.out.size
      clear hck
      by_cases hp : partN r k = k
      · have hpe : Hid (prodTo r (k + 1) = prodTo r k * manyT (r.partC k)) := Lib.hid (by rw [prodTo, if_pos hp])
        have hpv := Lib.hid (partC_valid HV.out k)
        have HQ := Lib.hid ((partReg_cell HV.out k).1 hp)
        rw [hpe.out] at bd2
        rw [hp] at hc1
        clear hp
        go_wp2_with (fail)
        refine (sPartRegion_q _ r k _ (RV.out _ HS.out.bel) _ HQ.out).mono ?_
        rintro e w4 ⟨v4, rfl, hv4, hb⟩
        have HB4 := Lib.hid (HBW.out.trans (hb.mono HBW.out.size))
        obtain ⟨a4, c4, rfl, hs4, _, _⟩ := hv4.opened
        have R4 := Lib.hid (RB.new hs4)
        have B4 := Lib.hid (show Below w4.heap.size w4 (w4.alloc (.cells #[.int .i64 (r.partC k).wide, .int .i64 (r.partC k).tall, .slice a4 (r.partC k).cells.length c4] 29)) from below_alloc w4 _)
        clear hb hv4 hs4 x0 x1 x2 x3 hc1
        go_wp2_with (fail)
        obtain ⟨W, hW⟩ : ∃ W, W = w4.alloc (.cells #[.int .i64 (r.partC k).wide, .int .i64 (r.partC k).tall, .slice a4 (r.partC k).cells.length c4] 29) := ⟨_, rfl⟩
        rw [← hW] at R4 B4 ⊢
        clear hW
        refine (sTilingsMany_any _ (r.partC k) _ R4.out.v).mono ?_
        rintro e w5 ⟨rfl, hb⟩
        have HB5 := Lib.hid ((HB4.out.trans (B4.out.mono HB4.out.size)).trans (hb.mono (Nat.le_trans HB4.out.size B4.out.size)))
        clear hb R4 B4 hpv HQ
        generalize manyT (r.partC k) = m at *
        generalize prodTo r k = P at *
        go_wp2
        go_roundw
        case rel => exact ⟨k + 1, by omega, by go_num, by rw [hpe.out], HB5.out⟩
        case measure => simp [intOf]; omega
      · have hpe : Hid (prodTo r (k + 1) = prodTo r k) := Lib.hid (by rw [prodTo, if_neg hp, Int.mul_one])
        have hq : (partN r k == (k : Int)) = false := by simpa using hp
        clear hp bd2
        generalize partN r k = y at *
        go_wp2
        go_roundw
        case rel => exact ⟨k + 1, by omega, by go_num, by rw [hpe.out], HBW.out⟩
        case measure => simp [intOf]; omega
    · have e : k = r.cells.length := by omega
      subst e
      go_wp2
      go_ret
      exact ⟨ret_int hRn.out.symm, HS.out.bel⟩
end Go.Proofs.Ytbjenmfoblniaaa
