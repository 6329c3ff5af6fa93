/- Walks: DarkMany and CellsMany of the reference, Balanced. -/
import Derived.Test.YtklifibiadiinaaVWf
import Derived.Test.YtklifibiadiinaaZb
import Derived.Test.YtklifibiadiinaaZa
set_option linter.unusedVariables false
namespace Go.Proofs.Ytklifibiadiinaa
open Go.RowKit Domi

set_option maxHeartbeats 400000 in
theorem sCellsMany_any (v : Value) (r : Reg) (w : World) (h : RegV w v r) (hv : r.valid = true) :
    Calls Try.prog 55 #[v] w (Ret (.int .i64 (cnt r.cells)) w) := by
  obtain ⟨a, cap, rfl, hs, hlc, hcm⟩ := h.opened
  have Hs := Lib.hid hs
  clear hs h
  go_enter Try.func55, Try.ntmps55
  go_wp2_with (fail)
  refine (sRegionValid_is _ r _ ?_ _ hv).mono ?_
  · refine RegV.below ⟨_, rfl, Hs.out⟩ ?_; go_grown
  rintro e w1 ⟨rfl, hb⟩
  have Hb' := Lib.hid (show Below w.heap.size w w1 from Below.trans (by go_grown) (hb.mono (by simp)))
  have c2 := cell_behind (o := 2) (b := w.heap.size) hb (by simp)
  simp at c2
  clear hb
  go_wp2_with (fail)
  refine (l1Count_any _ r.cells _ (Hs.out.below Hb'.out)).mono ?_
  rintro e w2 ⟨rfl, rfl⟩
  go_wp2
  go_ret
  exact ⟨rfl, Hb'.out⟩

set_option maxHeartbeats 2000000 in
theorem DarkMany_any (v : Value) (r : Reg) (w : World) (h : RegV w v r) (hv : r.valid = true) :
    Calls Try.prog 54 #[v] w (Ret (.int .i64 r.darks) w) := by
  obtain ⟨ba, oa, cap, rfl, hs, hba, hcs, hlc, hcm, hl1, hlen, b3, b1, b2⟩ := h.valid_opened hv
  have Hs := Lib.hid hs
  have Hcs := Lib.hid hcs
  clear hs h b3 hcs
  go_enter Try.func54, Try.ntmps54
  go_wp2_with (fail)
  refine (sRegionValid_is _ r _ ?_ _ hv).mono ?_
  · refine RegV.below ⟨_, rfl, Hs.out⟩ ?_; go_grown
  rintro e w1 ⟨rfl, hb⟩
  have Hb' := Lib.hid (show Below w.heap.size w w1 from Below.trans (by go_grown) (hb.mono (by simp)))
  have c0 := cell_behind (o := 0) (b := w.heap.size) hb (by simp)
  have c1 := cell_behind (o := 1) (b := w.heap.size) hb (by simp)
  have c2 := cell_behind (o := 2) (b := w.heap.size) hb (by simp)
  have sw : w.heap.size < w1.heap.size := by have := hb.size; simp at this; omega
  simp at c0 c1 c2
  clear hb
  go_wp2_with (fail)
  go_loopw [3, 4] (fun n i wr => ∃ k : Nat, k ≤ r.cells.length ∧ i = .int .i64 k ∧ n = .int .i64 (r.darkTo k) ∧ Below w1.heap.size w1 wr) (fun _ i _ => r.cells.length - (intOf i).toNat)
  case atStart => exact ⟨0, Nat.zero_le _, rfl, rfl, Below.refl _ _⟩
  case round =>
    obtain ⟨k, hk, rfl, rfl, hbw⟩ := hrel
    have HB := Lib.hid (show Below w.heap.size w wr from Hb'.out.trans (hbw.mono Hb'.out.size))
    have HBW := Lib.hid hbw
    have q0 := (cell_behind (o := 0) hbw sw).trans c0
    have q1 := (cell_behind (o := 1) hbw sw).trans c1
    have q2 := (cell_behind (o := 2) hbw sw).trans c2
    have hd := r.darkTo_le k
    clear hbw
    by_cases hlt : k < r.cells.length
    · have hck := Hcs.out wr HB.out k hlt
      have m1 := Int.emod_nonneg (k : Int) (b := r.wide) (by omega)
      have m2 := Int.emod_lt_of_pos (k : Int) (b := r.wide) (by omega)
      have m3 := Int.ediv_nonneg (a := (k : Int)) (b := r.wide) (by omega) (by omega)
      have m4 := Int.ediv_le_self (a := (k : Int)) r.wide (by omega)
      have hdy := fun a b => Lib.hid (Reg.darkTo_yes (r := r) (k := k) a b)
      have hdn := fun a => Lib.hid (Reg.darkTo_no (r := r) (k := k) a)
      cases hcv : r.cells.getD k false
      · have HD := hdn (.inl hcv)
        rw [hcv] at hck
        clear hdy hdn hcv c0 c1 c2
        go_wp2_with (fail)
        go_quiet (fail)
        go_wp2
        go_roundw
        case rel => exact ⟨k + 1, by omega, by go_num, by rw [HD.out], bel_dn HBW.out _⟩
        case measure => simp [intOf]; omega
      · rw [hcv] at hck
        have Hyes := fun b => hdy hcv b
        clear hdy hcv c0 c1 c2
        cases hdk : darkB r.wide k
        · have HD := hdn (.inr hdk)
          have hdk' : (((k : Int) % r.wide + (k : Int) / r.wide) % 2 == 0) = false := hdk
          clear Hyes hdn hdk
          go_wp2_with (fail)
          go_quiet (fail)
          go_wp2
          go_roundw
          case rel => exact ⟨k + 1, by omega, by go_num, by rw [HD.out], bel_dn HBW.out _⟩
          case measure => simp [intOf]; omega
        · have HD := Hyes hdk
          have hdk' : (((k : Int) % r.wide + (k : Int) / r.wide) % 2 == 0) = true := hdk
          clear Hyes hdn hdk
          go_wp2_with (fail)
          go_quiet (fail)
          go_wp2
          go_roundw
          case rel => exact ⟨k + 1, by omega, by go_num, by rw [HD.out], bel_dn HBW.out _⟩
          case measure => simp [intOf]; omega
    · have e : k = r.cells.length := by omega
      have E := Lib.hid e
      clear e c0 c1 c2
      go_wp2
      go_ret
      exact ⟨ret_int (by rw [E.out]; rfl), HB.out⟩

theorem bal_yes {r : Reg} (h : r.valid = true) (c : Bool) (hc : r.bal = c) : (2 * r.darks == cnt r.cells) = c := by
  rw [← hc, Reg.bal, h, Bool.true_and]; rfl

theorem cells_calls (v : Value) (x : Value) (r : Reg) (w : World) (h : RegV w v r) (_ : Bl w x r.cells) (hv : r.valid = true) :
    Calls Try.prog 55 #[v] w (Ret (.int .i64 (cnt r.cells)) w) := sCellsMany_any v r w h hv
theorem cells_call (v : Value) (x : Value) (r : Reg) (w : World) (_ : RegV w v r) (h : Bl w x r.cells) (_ : r.valid = true) :
    Calls Try.prog 61 #[x] w (Ret (.int .i64 (cnt r.cells)) w) :=
  (many_any x r.cells w h).mono fun _ _ ⟨he, hw⟩ => ⟨he, hw ▸ Below.refl _ _⟩

set_option maxHeartbeats 1000000 in
theorem Balanced_is (v : Value) (r : Reg) (w : World) (h : RegV w v r) (c : Bool) (hc : r.bal = c) :
    Calls Try.prog 46 #[v] w (Ret (.bool c) w) := by
  obtain ⟨a, cap, rfl, hs, hlc, hcm⟩ := h.opened
  obtain ⟨W, hW⟩ : ∃ W, W = w.alloc (.cells #[.int .i64 r.wide, .int .i64 r.tall, .slice a r.cells.length cap] 28) := ⟨_, rfl⟩
  have BW := Lib.hid (show Below w.heap.size w W by rw [hW]; go_grown)
  have c0 : W.cell? ⟨w.heap.size, 0, none⟩ = some (.int .i64 r.wide) := by rw [hW]; simp [go_sem]
  have c1 : W.cell? ⟨w.heap.size, 1, none⟩ = some (.int .i64 r.tall) := by rw [hW]; simp [go_sem]
  have c2 : W.cell? ⟨w.heap.size, 2, none⟩ = some (.slice a r.cells.length cap) := by rw [hW]; simp [go_sem]
  have sw : w.heap.size < W.heap.size := by rw [hW]; simp
  have HW := Lib.hid (show ∀ L : Later W, RegV L.x (.agg #[.int .i64 r.wide, .int .i64 r.tall, .slice a r.cells.length cap]) r from fun L => RegV.below ⟨_, rfl, hs⟩ (BW.out.trans (L.h.mono BW.out.size)))
  have hLc : ∀ (L : Later W) (b o : Nat), b < W.heap.size → L.x.cell? ⟨b, o, none⟩ = W.cell? ⟨b, o, none⟩ := Later.cell
  have BL := Lib.hid (show ∀ L : Later W, Below w.heap.size w L.x from fun L => BW.out.trans (L.h.mono BW.out.size))
  cases hv : r.valid
  · obtain rfl : false = c := (bal_no hv).symm.trans hc
    clear hs h hc
    go_enter Try.func46, Try.ntmps46
    go_wp2_with (fail)
    rw [← hW]
    clear hW
    refine wp_region_later_all (by kernel_rfl) (by kernel_rfl) ?_
    repeat (go_big_quiet_step ((go_at_call 60; exact calls_later _ (RegionValid_is _ r _ (HW.out _) _ hv))))
    refine wpQuiet_nil ?_
    intro L
    go_wp2
    go_ret
    exact ⟨rfl, BL.out L⟩
  · have hd := bal_yes hv c hc
    have hdl := r.darkTo_le r.cells.length
    have hcl := cnt_le r.cells
    have hl36 : r.cells.length ≤ 36 := by obtain ⟨_, _, _, _, _, _, _, _, _, _, h36, _⟩ := h.valid_opened hv; exact h36
    have hs2 := Lib.hid (show ∀ L : Later W, Bl L.x (.slice a r.cells.length cap) r.cells from fun L => hs.below (BL.out L))
    have dk : 0 ≤ r.darks ∧ r.darks ≤ 36 := ⟨hdl.1, by have := hdl.2; unfold Reg.darks; omega⟩
    clear hs h hc hdl
    cases c <;> skip
    all_goals
      go_enter Try.func46, Try.ntmps46
      go_wp2_with (fail)
      rw [← hW]
      clear hW
      refine wp_region_later_all (by kernel_rfl) (by kernel_rfl) ?_
      repeat (go_big_quiet_step (first | (go_at_call 60; exact calls_later _ (RegionValid_is _ r _ (HW.out _) _ hv)) | (go_at_call 81; exact calls_later _ (darks_any _ r _ (HW.out _) hv)) | (go_at_call 61; exact calls_later _ (cells_call _ _ r _ (HW.out _) (hs2.out _) hv))))
      refine wpQuiet_nil ?_
      intro L
      go_wp2
      go_ret
      exact ⟨rfl, BL.out L⟩

set_option maxHeartbeats 1000000 in
theorem sBalanced_is (v : Value) (r : Reg) (w : World) (h : RegV w v r) (c : Bool) (hc : r.bal = c) :
    Calls Try.prog 21 #[v] w (Ret (.bool c) w) := by
  obtain ⟨a, cap, rfl, hs, hlc, hcm⟩ := h.opened
  obtain ⟨W, hW⟩ : ∃ W, W = w.alloc (.cells #[.int .i64 r.wide, .int .i64 r.tall, .slice a r.cells.length cap] 28) := ⟨_, rfl⟩
  have BW := Lib.hid (show Below w.heap.size w W by rw [hW]; go_grown)
  have c0 : W.cell? ⟨w.heap.size, 0, none⟩ = some (.int .i64 r.wide) := by rw [hW]; simp [go_sem]
  have c1 : W.cell? ⟨w.heap.size, 1, none⟩ = some (.int .i64 r.tall) := by rw [hW]; simp [go_sem]
  have c2 : W.cell? ⟨w.heap.size, 2, none⟩ = some (.slice a r.cells.length cap) := by rw [hW]; simp [go_sem]
  have sw : w.heap.size < W.heap.size := by rw [hW]; simp
  have HW := Lib.hid (show ∀ L : Later W, RegV L.x (.agg #[.int .i64 r.wide, .int .i64 r.tall, .slice a r.cells.length cap]) r from fun L => RegV.below ⟨_, rfl, hs⟩ (BW.out.trans (L.h.mono BW.out.size)))
  have hLc : ∀ (L : Later W) (b o : Nat), b < W.heap.size → L.x.cell? ⟨b, o, none⟩ = W.cell? ⟨b, o, none⟩ := Later.cell
  have BL := Lib.hid (show ∀ L : Later W, Below w.heap.size w L.x from fun L => BW.out.trans (L.h.mono BW.out.size))
  cases hv : r.valid
  · obtain rfl : false = c := (bal_no hv).symm.trans hc
    clear hs h hc
    go_enter Try.func21, Try.ntmps21
    go_wp2_with (fail)
    rw [← hW]
    clear hW
    refine wp_region_later_all (by kernel_rfl) (by kernel_rfl) ?_
    repeat (go_big_quiet_step ((go_at_call 53; exact calls_later _ (sRegionValid_is _ r _ (HW.out _) _ hv))))
    refine wpQuiet_nil ?_
    intro L
    go_wp2
    go_ret
    exact ⟨rfl, BL.out L⟩
  · have hd := bal_yes hv c hc
    have hdl := r.darkTo_le r.cells.length
    have hcl := cnt_le r.cells
    have hl36 : r.cells.length ≤ 36 := by obtain ⟨_, _, _, _, _, _, _, _, _, _, h36, _⟩ := h.valid_opened hv; exact h36
    have hs2 := Lib.hid (show ∀ L : Later W, Bl L.x (.slice a r.cells.length cap) r.cells from fun L => hs.below (BL.out L))
    have dk : 0 ≤ r.darks ∧ r.darks ≤ 36 := ⟨hdl.1, by have := hdl.2; unfold Reg.darks; omega⟩
    clear hs h hc hdl
    cases c <;> skip
    all_goals
      go_enter Try.func21, Try.ntmps21
      go_wp2_with (fail)
      rw [← hW]
      clear hW
      refine wp_region_later_all (by kernel_rfl) (by kernel_rfl) ?_
      repeat (go_big_quiet_step (first | (go_at_call 53; exact calls_later _ (sRegionValid_is _ r _ (HW.out _) _ hv)) | (go_at_call 54; exact calls_later _ (DarkMany_any _ r _ (HW.out _) hv)) | (go_at_call 55; exact calls_later _ (cells_calls _ _ r _ (HW.out _) (hs2.out _) hv))))
      refine wpQuiet_nil ?_
      intro L
      go_wp2
      go_ret
      exact ⟨rfl, BL.out L⟩

end Go.Proofs.Ytklifibiadiinaa
