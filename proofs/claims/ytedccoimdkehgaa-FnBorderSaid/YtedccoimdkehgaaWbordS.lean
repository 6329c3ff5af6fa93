/- Walks: the reference's Border. -/
import Derived.Test.YtedccoimdkehgaaWbord
import Derived.Test.YtedccoimdkehgaaSepB
set_option linter.unusedVariables false
set_option linter.unusedSimpArgs false
namespace Go.Proofs.Ytedccoimdkehgaa
open Go.RowKit Domi

theorem near_cells {r : Reg} (hv : r.valid = true) {k : Nat} (hk : k < r.cells.length) {W : World} {g : Nat}
    (h : W.heap[g]? = some (.cells #[.bool (r.at_ ((k : Int) % r.wide + 1) ((k : Int) / r.wide)), .bool (r.at_ ((k : Int) % r.wide) ((k : Int) / r.wide + 1)), .bool (r.at_ ((k : Int) % r.wide - 1) ((k : Int) / r.wide)), .bool (r.at_ ((k : Int) % r.wide) ((k : Int) / r.wide - 1))] 4 (0, 0))) :
    ∀ m, m < 4 → W.cell? ⟨g, m, none⟩ = some (.bool (nbr r k ((m : Int) + 1))) := by
  have n1 := nbr_at hv hk (way := 1) (by omega) (by omega)
  have n2 := nbr_at hv hk (way := 2) (by omega) (by omega)
  have n3 := nbr_at hv hk (way := 3) (by omega) (by omega)
  have n4 := nbr_at hv hk (way := 4) (by omega) (by omega)
  simp [dX, dY] at n1 n2 n3 n4
  intro m hm
  rw [cell_of_row W g m _ _ _ h]
  have : m = 0 ∨ m = 1 ∨ m = 2 ∨ m = 3 := by omega
  rcases this with rfl | rfl | rfl | rfl
  · show some _ = some _; rw [← n1]; rfl
  · show some _ = some _; rw [← n2]; rfl
  · rw [show (k : Int) % r.wide - 1 = (k : Int) % r.wide + -1 from rfl]; show some _ = some _; rw [← n3]; rfl
  · rw [show (k : Int) / r.wide - 1 = (k : Int) / r.wide + -1 from rfl]; show some _ = some _; rw [← n4]; rfl

set_option maxRecDepth 100000 in
set_option maxHeartbeats 2000000 in
theorem sBorder_yes (v : Value) (r : Reg) (w : World) (h : RegV w v r) (hv : r.valid = true) :
    Calls Try.prog 34 #[v] w (Ret (.int .i64 (bordTo r r.cells.length)) w) := by
  obtain ⟨ba, oa, cap, rfl, hs, hba, hcs, hlc, hcm, hl1, hlen, b3, b1, b2⟩ := h.valid_opened hv
  have Hs := Lib.hid hs
  have Hcs := Lib.hid hcs
  have Hn := Lib.hid b3
  clear hs h b3 hcs
  go_enter Try.func34, Try.ntmps34
  go_wp2_with (fail)
  refine (sRegionValid_any _ r _ ?_).mono ?_
  · refine RegV.below ⟨_, rfl, Hs.out⟩ ?_; go_grown
  rintro e w1 ⟨rfl, hb⟩
  rw [hv]
  have R1 := Lib.hid ((RB.new Hs.out).on hb)
  have Hb := Lib.hid (show Below w.heap.size w w1 from Below.trans (by go_grown) (hb.mono (by simp)))
  clear hb
  go_wp2_with (fail)
  go_loopw [3, 4] (fun n i wr => ∃ k : Nat, k ≤ r.cells.length ∧ i = .int .i64 k ∧ n = .int .i64 (bordTo r k) ∧ Below w1.heap.size w1 wr) (fun _ i _ => r.cells.length - (intOf i).toNat)
  case atStart => exact ⟨0, Nat.zero_le _, rfl, rfl, Below.refl _ _⟩
  case round =>
    obtain ⟨k, hk, rfl, rfl, hbw⟩ := hrel
    have RK := Lib.hid (R1.out.on hbw)
    have HB := Lib.hid (Hb.out.trans (hbw.mono Hb.out.size))
    have HW := Lib.hid hbw
    have bd := bordTo_bd r k
    clear hbw
    obtain ⟨c0, c1, c2⟩ := RK.out.c3
    by_cases hlt : k < r.cells.length
    · have hki : (k : Int) < r.wide * r.tall := by have := Hn.out; omega
      have hsucc := Lib.hid (bordTo_succ r k)
      unfold Reg.f at hsucc
      obtain ⟨a1, a2, a3, a4, _⟩ := cell_xy (r := r) (c := (k : Int)) (by omega) (by omega) hki
      have sR := RK.out.lt
      have hLc : ∀ (L : Later wr) (b o : Nat), b < wr.heap.size → L.x.cell? ⟨b, o, none⟩ = wr.cell? ⟨b, o, none⟩ := Later.cell
      go_wp2_with (fail)
      refine wp_region_later 20 (by kernel_rfl) (by kernel_rfl) ?_
      simp only [List.take_succ_cons, List.take_zero, List.drop_succ_cons, List.drop_zero]
      repeat (go_big_quiet_step (exact calls_later _ (l1At_any _ r _ _ _ (RK.out.v.below (Later.h _)) hv (by omega) (by omega))))
      refine wpQuiet_nil ?_
      intro L
      clear hLc c0 c1 c2 sR a1 a2 a3 a4
      go_wp2_with (fail)
      have NC := Lib.hid (near_cells hv hlt (heap_alloc_new L.x _))
      obtain ⟨W2, hW2⟩ : ∃ W2, W2 = L.x.alloc (.cells #[.bool (r.at_ ((k : Int) % r.wide + 1) ((k : Int) / r.wide)), .bool (r.at_ ((k : Int) % r.wide) ((k : Int) / r.wide + 1)), .bool (r.at_ ((k : Int) % r.wide - 1) ((k : Int) / r.wide)), .bool (r.at_ ((k : Int) % r.wide) ((k : Int) / r.wide - 1))] 4) := ⟨_, rfl⟩
      have hb2 : Below wr.heap.size wr W2 := by rw [hW2]; exact L.h.trans ((below_alloc L.x _).mono L.h.size)
      have hgW : L.x.heap.size < W2.heap.size := by rw [hW2]; simp
      rw [← hW2] at NC ⊢
      clear hW2
      generalize L.x.heap.size = G at *
      have RK := Lib.hid (RK.out.on hb2)
      have HB := Lib.hid (HB.out.trans (hb2.mono HB.out.size))
      have HW := Lib.hid (HW.out.trans (hb2.mono HW.out.size))
      clear hb2
      cases hf : r.cells.getD k false
      · rw [hf] at hsucc
        go_loopw [3, 8] (fun n i w2 => n = .int .i64 (bordTo r k) ∧ i = .int .i64 0 ∧ Below W2.heap.size W2 w2) (fun _ _ _ => 0)
        case atStart => exact ⟨rfl, rfl, Below.refl _ _⟩
        case round =>
          obtain ⟨rfl, rfl, hb2⟩ := hrel
          have HB2 := Lib.hid hb2
          have RM := Lib.hid (RK.out.on hb2)
          have hck := Hcs.out _ (HB.out.trans (hb2.mono HB.out.size)) k hlt
          rw [hf] at hck
          obtain ⟨c0, c1, c2⟩ := RM.out.c3
          clear hb2 hf
          go_wp2
          go_roundw
          case rel => exact ⟨k + 1, by omega, by go_num, by rw [hsucc.out]; simp, HW.out.trans (HB2.out.mono HW.out.size)⟩
          case measure => simp [intOf]; omega
      · rw [hf] at hsucc
        go_loopw [3, 8] (fun n i w2 => ∃ m : Nat, m ≤ 4 ∧ n = .int .i64 (bordTo r k + sides r k m) ∧ i = .int .i64 m ∧ Below W2.heap.size W2 w2) (fun _ i _ => 5 - (intOf i).toNat)
        case atStart => exact ⟨0, by omega, by simp [sides, sumI], rfl, Below.refl _ _⟩
        case round =>
          obtain ⟨m, hm, rfl, rfl, hb2⟩ := hrel
          have HB2 := Lib.hid hb2
          have pd := sides_bd r k m
          have RM := Lib.hid (RK.out.on hb2)
          have hck := Hcs.out _ (HB.out.trans (hb2.mono HB.out.size)) k hlt
          rw [hf] at hck
          obtain ⟨c0, c1, c2⟩ := RM.out.c3
          by_cases hm4 : m < 4
          · have psucc := Lib.hid (sides_succ r k m)
            have hcj := ((bcell hb2).1 G m hgW).trans (NC.out m hm4)
            clear hb2 hf
            cases hnb : nbr r k ((m : Int) + 1)
            all_goals
              rw [hnb] at hcj psucc
              clear hnb
              go_wp2
              go_roundw
              case rel => exact ⟨m + 1, by omega, by rw [psucc.out]; simp <;> omega, by go_num, HB2.out⟩
              case measure => simp [intOf]; omega
          · have e4 : m = 4 := by omega
            subst e4
            clear hb2 hf
            go_wp2
            go_roundw
            case rel => exact ⟨k + 1, by omega, by go_num, by rw [hsucc.out]; simp, HW.out.trans (HB2.out.mono HW.out.size)⟩
            case measure => simp [intOf]; omega
    · have e : k = r.cells.length := by omega
      subst e
      go_wp2
      go_ret
      exact ⟨rfl, HB.out⟩

end Go.Proofs.Ytedccoimdkehgaa
