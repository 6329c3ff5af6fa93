/- Walks: DarkMany and CellsMany of the reference, Balanced. -/
import Derived.Test.YtcagpfnlpjfgeaaVWf
import Derived.Test.YtcagpfnlpjfgeaaZb
import Derived.Test.YtcagpfnlpjfgeaaZa
set_option linter.unusedVariables false
namespace Go.Proofs.Ytcagpfnlpjfgeaa
open Go.RowKit Domi

set_option maxHeartbeats 400000 in
theorem sCellsMany_any (v : Value) (r : Reg) (w : World) (h : RegV w v r) (hv : r.valid = true) :
    Calls Try.prog 98 #[v] w (Ret (.int .i64 (cnt r.cells)) w) := by
  obtain ⟨a, cap, rfl, hs, hlc, hcm⟩ := h.opened
  have Hs := Lib.hid hs
  clear hs h
  go_enter Try.func98, Try.ntmps98
  go_wp2_with (fail)
  refine (sRegionValid_is _ r _ ?_ _ hv).mono ?_
  · refine RegV.below ⟨_, rfl, Hs.out⟩ ?_; go_grown
  rintro e w1 ⟨rfl, hb⟩
  have Hb' := Lib.hid (show Below w.heap.size w w1 from Below.trans (by go_grown) (hb.mono (by simp)))
  have c2 := cell_behind (o := 2) (b := w.heap.size) hb (by simp)
  simp at c2
  clear hb
  go_wp2_with (fail)
  refine (l1Count_any _ r.cells _ (Hs.out.below Hb'.out)).mono ?_
  rintro e w2 ⟨rfl, rfl⟩
  go_wp2
  go_ret
  exact ⟨rfl, Hb'.out⟩

theorem bal_yes {r : Reg} (h : r.valid = true) (c : Bool) (hc : r.bal = c) : (2 * r.darks == cnt r.cells) = c := by
  rw [← hc, Reg.bal, h, Bool.true_and]; rfl

theorem cells_calls (v : Value) (x : Value) (r : Reg) (w : World) (h : RegV w v r) (_ : Bl w x r.cells) (hv : r.valid = true) :
    Calls Try.prog 98 #[v] w (Ret (.int .i64 (cnt r.cells)) w) := sCellsMany_any v r w h hv
theorem cells_call (v : Value) (x : Value) (r : Reg) (w : World) (_ : RegV w v r) (h : Bl w x r.cells) (_ : r.valid = true) :
    Calls Try.prog 69 #[x] w (Ret (.int .i64 (cnt r.cells)) w) :=
  (many_any x r.cells w h).mono fun _ _ ⟨he, hw⟩ => ⟨he, hw ▸ Below.refl _ _⟩

set_option maxHeartbeats 1000000 in
theorem Balanced_is (v : Value) (r : Reg) (w : World) (h : RegV w v r) (c : Bool) (hc : r.bal = c) :
    Calls Try.prog 21 #[v] w (Ret (.bool c) w) := by
  obtain ⟨a, cap, rfl, hs, hlc, hcm⟩ := h.opened
  obtain ⟨W, hW⟩ : ∃ W, W = w.alloc (.cells #[.int .i64 r.wide, .int .i64 r.tall, .slice a r.cells.length cap] 25) := ⟨_, rfl⟩
  have BW := Lib.hid (show Below w.heap.size w W by rw [hW]; go_grown)
  have c0 : W.cell? ⟨w.heap.size, 0, none⟩ = some (.int .i64 r.wide) := by rw [hW]; simp [go_sem]
  have c1 : W.cell? ⟨w.heap.size, 1, none⟩ = some (.int .i64 r.tall) := by rw [hW]; simp [go_sem]
  have c2 : W.cell? ⟨w.heap.size, 2, none⟩ = some (.slice a r.cells.length cap) := by rw [hW]; simp [go_sem]
  have sw : w.heap.size < W.heap.size := by rw [hW]; simp
  have HW := Lib.hid (show ∀ L : Later W, RegV L.x (.agg #[.int .i64 r.wide, .int .i64 r.tall, .slice a r.cells.length cap]) r from fun L => RegV.below ⟨_, rfl, hs⟩ (BW.out.trans (L.h.mono BW.out.size)))
  have hLc : ∀ (L : Later W) (b o : Nat), b < W.heap.size → L.x.cell? ⟨b, o, none⟩ = W.cell? ⟨b, o, none⟩ := Later.cell
  have BL := Lib.hid (show ∀ L : Later W, Below w.heap.size w L.x from fun L => BW.out.trans (L.h.mono BW.out.size))
  cases hv : r.valid
  · obtain rfl : false = c := (bal_no hv).symm.trans hc
    clear hs h hc
    go_enter Try.func21, Try.ntmps21
    go_wp2_with (fail)
    rw [← hW]
    clear hW
    refine wp_region_later_all (by kernel_rfl) (by kernel_rfl) ?_
    repeat (go_big_quiet_step ((go_at_call 66; exact calls_later _ (RegionValid_is _ r _ (HW.out _) _ hv))))
    refine wpQuiet_nil ?_
    intro L
    go_wp2
    go_ret
    exact ⟨rfl, BL.out L⟩
  · have hd := bal_yes hv c hc
    have hdl := r.darkTo_le r.cells.length
    have hcl := cnt_le r.cells
    have hl36 : r.cells.length ≤ 36 := by obtain ⟨_, _, _, _, _, _, _, _, _, _, h36, _⟩ := h.valid_opened hv; exact h36
    have hs2 := Lib.hid (show ∀ L : Later W, Bl L.x (.slice a r.cells.length cap) r.cells from fun L => hs.below (BL.out L))
    have dk : 0 ≤ r.darks ∧ r.darks ≤ 36 := ⟨hdl.1, by have := hdl.2; unfold Reg.darks; omega⟩
    clear hs h hc hdl
    cases c <;> skip
    all_goals
      go_enter Try.func21, Try.ntmps21
      go_wp2_with (fail)
      rw [← hW]
      clear hW
      refine wp_region_later_all (by kernel_rfl) (by kernel_rfl) ?_
      repeat (go_big_quiet_step (first | (go_at_call 66; exact calls_later _ (RegionValid_is _ r _ (HW.out _) _ hv)) | (go_at_call 68; exact calls_later _ (darks_any _ r _ (HW.out _) hv)) | (go_at_call 69; exact calls_later _ (cells_call _ _ r _ (HW.out _) (hs2.out _) hv))))
      refine wpQuiet_nil ?_
      intro L
      go_wp2
      go_ret
      exact ⟨rfl, BL.out L⟩

end Go.Proofs.Ytcagpfnlpjfgeaa
