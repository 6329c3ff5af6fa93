/- Walks: the smallest functions: in, many, RegionValid. -/
import Derived.Test.YtklifibiadiinaaDoorRows
import Derived.Test.YtklifibiadiinaaDoorVBase
set_option linter.unusedVariables false
namespace Go.Proofs.YtklifibiadiinaaDoor
open Go.RowKit Domi

set_option maxHeartbeats 400000 in
theorem in_any (n lo hi : Int) (w : World) :
    Calls Tryd.prog 42 #[.int .i64 n, .int .i64 lo, .int .i64 hi] w fun e w' => e = .returned (.bool (inB n lo hi)) ∧ w = w' := by
  go_enter Tryd.func42, Tryd.ntmps42
  go_wp2
  all_goals (go_ret; exact ⟨ret_bool (by simp [inB, *]; try omega), rfl⟩)

set_option maxHeartbeats 400000 in
theorem many_any (v : Value) (l : List Bool) (w : World) (h : Bl w v l) :
    Calls Tryd.prog 43 #[v] w fun e w' => e = .returned (.int .i64 (cnt l)) ∧ w = w' := by
  obtain ⟨a, cap, rfl, hlc, hcm, hc⟩ := h.opened
  go_enter Tryd.func43, Tryd.ntmps43
  go_wp2
  go_loop [3, 8] (fun n i => ∃ k : Nat, k ≤ l.length ∧ i = .int .i64 k ∧ n = .int .i64 (cnt (l.take k))) (fun _ i => l.length - (intOf i).toNat)
  case atStart => exact ⟨0, Nat.zero_le _, rfl, rfl⟩
  case round =>
    obtain ⟨k, hk, rfl, rfl⟩ := hrel
    have hd := cnt_le (l.take k)
    have hlk : (l.take k).length ≤ k := List.length_take_le _ _
    by_cases hlt : k < l.length
    · rcases hc with rfl | ⟨b, off, rfl, hb, hc⟩
      · simp at hlt
      have hck := hc k hlt
      have HS : Hid (cnt (l.take (k + 1)) = cnt (l.take k) + if l.getD k false then 1 else 0) := by
        rw [take_snoc l false k hlt]; exact cnt_snoc _ _
      clear hc
      cases hv : l.getD k false
      all_goals
        rw [hv] at hck HS
        clear hv
        go_wp2
        go_round
        case rel => exact ⟨k + 1, by omega, by go_num, by rw [HS.out]; simp⟩
        case measure => simp [intOf]; omega
    · go_wp2
      go_ret
      exact ⟨ret_int (by rw [List.take_of_length_le (by omega)]), rfl⟩

set_option maxHeartbeats 400000 in
theorem RegionValid_any (v : Value) (r : Reg) (w : World) (h : RegV w v r) :
    Calls Tryd.prog 20 #[v] w fun e w' => e = .returned (.bool r.valid) ∧ Below w.heap.size w w' := by
  obtain ⟨s, rfl, hs⟩ := h
  obtain ⟨a, cap, rfl, hlc, hcm, hc⟩ := hs.opened
  clear hc
  go_enter Tryd.func20, Tryd.ntmps20
  go_wp2_with (go_at_call 42; refine (in_any _ _ _ _).mono ?_; rintro e w' ⟨rfl, rfl⟩)
  · refine (many_any _ r.cells _ ?_).mono ?_
    · refine hs.below ?_; go_grown
    rintro e w' ⟨rfl, rfl⟩
    have h1 : inB r.wide 1 6 = true := by assumption
    have h2 : inB r.tall 1 6 = true := by assumption
    have h3 : (r.cells.length : Int) = wrap64 (r.wide * r.tall) := by assumption
    rw [area_wrap h1 h2] at h3
    go_wp2
    go_ret
    exact ⟨ret_bool (by simp [Reg.valid, h1, h2, h3]), by go_grown⟩
  · have h1 : inB r.wide 1 6 = true := by assumption
    have h2 : inB r.tall 1 6 = true := by assumption
    have h3 : ¬ (r.cells.length : Int) = wrap64 (r.wide * r.tall) := by assumption
    rw [area_wrap h1 h2] at h3
    go_ret
    exact ⟨ret_bool (by simp [Reg.valid, h3]), by go_grown⟩
  all_goals (go_ret; exact ⟨ret_bool (by simp [Reg.valid, *]), by go_grown⟩)

end Go.Proofs.YtklifibiadiinaaDoor
