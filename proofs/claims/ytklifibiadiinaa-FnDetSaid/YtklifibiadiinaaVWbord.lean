/- Walks: Border. -/
import Derived.Test.YtklifibiadiinaaVWk
import Derived.Test.YtklifibiadiinaaZa
import Derived.Test.YtklifibiadiinaaVLaw
set_option linter.unusedVariables false
namespace Go.Proofs.Ytklifibiadiinaa
open Go.RowKit Domi

theorem nbr_no {r : Reg} {k : Nat} {way : Int} (h : stepI r k way < 0) : nbr r k way = false := by
  unfold nbr; rw [decide_eq_false (by omega)]; rfl
theorem nbr_is {r : Reg} {k j : Nat} {way : Int} (h : stepI r k way = (j : Int)) : nbr r k way = r.cells.getD j false := by
  unfold nbr Reg.f; rw [h, decide_eq_true (by omega)]; simp

set_option maxRecDepth 100000 in
set_option maxHeartbeats 1000000 in
theorem Border_yes (v : Value) (r : Reg) (w : World) (h : RegV w v r) (hv : r.valid = true) :
    Calls Try.prog 25 #[v] w (Ret (.int .i64 (bordTo r r.cells.length)) w) := by
  obtain ⟨ba, oa, cap, rfl, hs, hba, hcs, hlc, hcm, hl1, hlen, b3, b1, b2⟩ := h.valid_opened hv
  have Hs := Lib.hid hs
  have Hcs := Lib.hid hcs
  have Hn := Lib.hid b3
  clear hs h b3 hcs
  go_enter Try.func25, Try.ntmps25
  go_wp2_with (fail)
  refine (RegionValid_any _ r _ ?_).mono ?_
  · refine RegV.below ⟨_, rfl, Hs.out⟩ ?_; go_grown
  rintro e w1 ⟨rfl, hb⟩
  rw [hv]
  have R1 := Lib.hid ((RB.new Hs.out).on hb)
  have Hb := Lib.hid (show Below w.heap.size w w1 from Below.trans (by go_grown) (hb.mono (by simp)))
  clear hb
  obtain ⟨c0, c1, c2⟩ := R1.out.c3
  go_wp2_with (fail)
  clear c0 c1 c2
  go_loopw [3, 14] (fun n i wr => ∃ k : Nat, k ≤ r.cells.length ∧ i = .int .i64 k ∧ n = .int .i64 (bordTo r k) ∧ Below w1.heap.size w1 wr) (fun _ i _ => r.cells.length - (intOf i).toNat)
  case atStart => exact ⟨0, Nat.zero_le _, rfl, rfl, Below.refl _ _⟩
  case round =>
    obtain ⟨k, hk, rfl, rfl, hbw⟩ := hrel
    have RK := Lib.hid (R1.out.on hbw)
    have HB := Lib.hid (Hb.out.trans (hbw.mono Hb.out.size))
    have HW := Lib.hid hbw
    have bd := bordTo_bd r k
    clear hbw
    by_cases hlt : k < r.cells.length
    · have hck := Hcs.out wr HB.out k hlt
      have hki : (k : Int) < r.wide * r.tall := by have := Hn.out; omega
      have hsucc := Lib.hid (bordTo_succ r k)
      unfold Reg.f at hsucc
      cases hf : r.cells.getD k false
      · rw [hf] at hck hsucc
        clear hf
        go_wp2_with (fail)
        obtain ⟨wo, hwo⟩ : ∃ wo : World, wo = wr := ⟨_, rfl⟩
        go_loopw [3, 6] (fun n i w2 => n = .int .i64 (bordTo r k) ∧ i = .int .i64 1 ∧ Below wo.heap.size wo w2) (fun _ _ _ => 0)
        case atStart => exact ⟨rfl, rfl, by rw [hwo]; exact Below.refl _ _⟩
        case round =>
          obtain ⟨rfl, rfl, hb2⟩ := hrel
          have HB2 := Lib.hid hb2
          clear hb2
          subst hwo
          go_wp2
          go_roundw
          case rel => exact ⟨k + 1, by omega, by go_num, by rw [hsucc.out]; simp, HW.out.trans (HB2.out.mono HW.out.size)⟩
          case measure => simp [intOf]; omega
      · rw [hf] at hck hsucc
        clear hf
        go_wp2_with (fail)
        obtain ⟨wo, hwo⟩ : ∃ wo : World, wo = wr := ⟨_, rfl⟩
        go_loopw [3, 6] (fun n i w2 => ∃ m : Nat, m ≤ 4 ∧ n = .int .i64 (bordTo r k + sides r k m) ∧ i = .int .i64 ((m : Int) + 1) ∧ Below wo.heap.size wo w2) (fun _ i _ => 5 - (intOf i).toNat)
        case atStart => exact ⟨0, by omega, by simp [sides, sumI], rfl, by rw [hwo]; exact Below.refl _ _⟩
        case round =>
          obtain ⟨m, hm, rfl, rfl, hb2⟩ := hrel
          subst hwo
          have HB2 := Lib.hid hb2
          have pd := sides_bd r k m
          have RM := Lib.hid (RK.out.on hb2)
          have HBM := Lib.hid (HB.out.trans (hb2.mono HB.out.size))
          clear hb2
          by_cases hm4 : m < 4
          · obtain ⟨c0, c1, c2⟩ := RM.out.c3
            have psucc := Lib.hid (sides_succ r k m)
            have hst := stepI_in (r := r) (c := (k : Int)) (way := (m : Int) + 1) (by omega) (by omega) hki
            go_wp2_with (fail)
            refine (step_any _ r k ((m : Int) + 1) _ RM.out.v hv (by omega) hki).mono ?_
            rintro e w3 ⟨rfl, hb3⟩
            have R3 := Lib.hid (RM.out.on hb3)
            have HB3 := Lib.hid (HB2.out.trans (hb3.mono HB2.out.size))
            have HBW := Lib.hid (HBM.out.trans (hb3.mono HBM.out.size))
            clear hb3 c0 c1 c2
            by_cases hneg : stepI r k ((m : Int) + 1) < 0
            · have hn1 : stepI r k ((m : Int) + 1) = -1 := by omega
              rw [nbr_no hneg] at psucc
              rw [hn1]
              clear hst hneg hn1
              go_wp2
              go_roundw
              case rel => exact ⟨m + 1, by omega, by rw [psucc.out]; simp; omega, by go_num, HB3.out⟩
              case measure => simp [intOf]; omega
            · obtain ⟨j, hj⟩ : ∃ j : Nat, stepI r k ((m : Int) + 1) = (j : Int) := ⟨(stepI r k ((m : Int) + 1)).toNat, by omega⟩
              have hjl : j < r.cells.length := by have := Hn.out; omega
              have hcj := Hcs.out w3 HBW.out j hjl
              rw [nbr_is hj] at psucc
              rw [hj]
              obtain ⟨c0, c1, c2⟩ := R3.out.c3
              clear hst hneg hj
              cases hf : r.cells.getD j false
              all_goals
                rw [hf] at hcj psucc
                clear hf
                go_wp2
                go_roundw
                case rel => exact ⟨m + 1, by omega, by rw [psucc.out]; simp <;> omega, by go_num, HB3.out⟩
                case measure => simp [intOf]; omega
          · have e4 : m = 4 := by omega
            subst e4
            go_wp2
            go_roundw
            case rel => exact ⟨k + 1, by omega, by go_num, by rw [hsucc.out]; simp, HW.out.trans (HB2.out.mono HW.out.size)⟩
            case measure => simp [intOf]; omega
    · have e : k = r.cells.length := by omega
      subst e
      go_wp2
      go_ret
      exact ⟨rfl, HB.out⟩

end Go.Proofs.Ytklifibiadiinaa
