/- Walks: dark, darks, DarkMany, CellsMany of the reference, Balanced. -/
import Derived.Test.YtklifibiadiinaaVWd
import Derived.Test.YtklifibiadiinaaZa
set_option linter.unusedVariables false
namespace Go.Proofs.Ytklifibiadiinaa
open Go.RowKit Domi

theorem RegionValid_is (v : Value) (r : Reg) (w : World) (h : RegV w v r) (c : Bool) (hc : r.valid = c) :
    Calls Try.prog 60 #[v] w fun e w' => e = .returned (.bool c) ∧ Below w.heap.size w w' := by
  rw [← hc]; exact RegionValid_any v r w h

theorem sRegionValid_is (v : Value) (r : Reg) (w : World) (h : RegV w v r) (c : Bool) (hc : r.valid = c) :
    Calls Try.prog 53 #[v] w fun e w' => e = .returned (.bool c) ∧ Below w.heap.size w w' := by
  rw [← hc]; exact sRegionValid_any v r w h

set_option maxHeartbeats 400000 in
theorem dark_any (v : Value) (r : Reg) (c : Int) (w : World) (h : RegV w v r) (hw : 1 ≤ r.wide ∧ r.wide ≤ 6) (hc : 0 ≤ c ∧ c ≤ 100) :
    Calls Try.prog 82 #[v, .int .i64 c] w (Ret (.bool (darkB r.wide c)) w) := by
  obtain ⟨a, cap, rfl, hs, hlc, hcm⟩ := h.opened
  have Hs := Lib.hid hs
  clear hs h
  have m1 := Int.emod_nonneg c (b := r.wide) (by omega)
  have m2 := Int.emod_lt_of_pos c (b := r.wide) (by omega)
  have m3 := Int.ediv_nonneg (a := c) (b := r.wide) (by omega) (by omega)
  have m4 := Int.ediv_le_self (a := c) r.wide (by omega)
  go_enter Try.func82, Try.ntmps82
  go_wp2_with (fail)
  refine (xy_any _ r c _ ?_ (by omega) (by omega)).mono ?_
  · refine RegV.below ⟨_, rfl, Hs.out⟩ ?_; go_grown
  rintro e w1 ⟨rfl, hb⟩
  have Hb := Lib.hid (show Below w.heap.size w w1 from Below.trans (by go_grown) (hb.mono (by simp)))
  clear hb
  go_wp2
  go_ret
  exact ⟨rfl, Hb.out⟩

set_option maxHeartbeats 1000000 in
theorem darks_any (v : Value) (r : Reg) (w : World) (h : RegV w v r) (hv : r.valid = true) :
    Calls Try.prog 81 #[v] w (Ret (.int .i64 r.darks) w) := by
  obtain ⟨ba, oa, cap, rfl, hs, hba, hcs, hlc, hcm, hl1, hlen, b3, b1, b2⟩ := h.valid_opened hv
  have Hs := Lib.hid hs
  have Hcs := Lib.hid hcs
  clear hs h b3 hcs
  go_enter Try.func81, Try.ntmps81
  go_wp2_with (fail)
  go_loopw [3, 9] (fun n i wr => ∃ k : Nat, k ≤ r.cells.length ∧ i = .int .i64 k ∧ n = .int .i64 (r.darkTo k) ∧ Below (w.heap.size + 1) (w.alloc (.cells #[.int .i64 r.wide, .int .i64 r.tall, .slice (some ⟨ba, oa, none⟩) r.cells.length cap] 28)) wr) (fun _ i _ => r.cells.length - (intOf i).toNat)
  case atStart => exact ⟨0, Nat.zero_le _, rfl, rfl, Below.refl _ _⟩
  case round =>
    obtain ⟨k, hk, rfl, rfl, hbw⟩ := hrel
    have HB := Lib.hid (show Below w.heap.size w wr from Below.trans (by go_grown) (hbw.mono (by simp)))
    have HBW := Lib.hid hbw
    have q0 := hbw.cell (p := ⟨w.heap.size, 0, none⟩) (by simp)
    have q1 := hbw.cell (p := ⟨w.heap.size, 1, none⟩) (by simp)
    have q2 := hbw.cell (p := ⟨w.heap.size, 2, none⟩) (by simp)
    simp at q0 q1 q2
    have hd := r.darkTo_le k
    clear hbw
    by_cases hlt : k < r.cells.length
    · have hck := Hcs.out wr HB.out k hlt
      have hdy := fun a b => Lib.hid (Reg.darkTo_yes (r := r) (k := k) a b)
      have hdn := fun a => Lib.hid (Reg.darkTo_no (r := r) (k := k) a)
      cases hcv : r.cells.getD k false
      · have HD := hdn (.inl hcv)
        rw [hcv] at hck
        clear hdy hdn hcv
        go_wp2
        go_roundw
        case rel => exact ⟨k + 1, by omega, by go_num, by rw [HD.out], HBW.out⟩
        case measure => simp [intOf]; omega
      · rw [hcv] at hck
        have Hyes := fun b => hdy hcv b
        clear hdy hcv
        go_wp2_with (fail)
        refine (dark_any _ r k _ ⟨_, rfl, Hs.out.below HB.out⟩ b1 (by omega)).mono ?_
        rintro e w4 ⟨rfl, h4⟩
        have HBW4 := Lib.hid (HBW.out.trans (h4.mono (by have := HBW.out.size; simpa using this)))
        clear h4
        cases hdk : darkB r.wide k
        · have HD := hdn (.inr hdk)
          clear Hyes hdn hdk
          go_wp2
          go_roundw
          case rel => exact ⟨k + 1, by omega, by go_num, by rw [HD.out], HBW4.out⟩
          case measure => simp [intOf]; omega
        · have HD := Hyes hdk
          clear Hyes hdn hdk
          go_wp2
          go_roundw
          case rel => exact ⟨k + 1, by omega, by go_num, by rw [HD.out], HBW4.out⟩
          case measure => simp [intOf]; omega
    · have e : k = r.cells.length := by omega
      have E := Lib.hid e
      clear e
      go_wp2
      go_ret
      exact ⟨ret_int (by rw [E.out]; rfl), HB.out⟩

end Go.Proofs.Ytklifibiadiinaa
