/- Walks: the same of the reference (l1In, l1Count, RegionValid), equality of lists and regions, CellsMany. -/
import Derived.Test.YtklifibiadiinaaDoorVWa
import Derived.Test.YtklifibiadiinaaDoorZa
set_option linter.unusedVariables false
namespace Go.Proofs.YtklifibiadiinaaDoor
open Go.RowKit Domi

theorem elem_bools : ElemOk Tryd.prog 23 4 1 := ⟨Tryd.underlying23, by kernel_rfl⟩
theorem elem_ints : ElemOk Tryd.prog 26 3 8 := ⟨Tryd.underlying26, by kernel_rfl⟩

theorem zero_bool : (Tryd.prog.info? 4).bind (·.zero) = some (.bool false) := by kernel_rfl
theorem zero_int : (Tryd.prog.info? 3).bind (·.zero) = some (.int .i64 0) := by kernel_rfl

set_option maxHeartbeats 400000 in
theorem l1In_any (n lo hi : Int) (w : World) :
    Calls Tryd.prog 53 #[.int .i64 n, .int .i64 lo, .int .i64 hi] w fun e w' => e = .returned (.bool (inB n lo hi)) ∧ w = w' := by
  go_enter Tryd.func53, Tryd.ntmps53
  go_wp2
  all_goals (go_ret; exact ⟨ret_bool (by simp [inB, *]; try omega), rfl⟩)

set_option maxHeartbeats 400000 in
theorem l1Count_any (v : Value) (l : List Bool) (w : World) (h : Bl w v l) :
    Calls Tryd.prog 61 #[v] w fun e w' => e = .returned (.int .i64 (cnt l)) ∧ w = w' := by
  obtain ⟨a, cap, rfl, hlc, hcm, hc⟩ := h.opened
  go_enter Tryd.func61, Tryd.ntmps61
  go_wp2
  go_loop [3, 4] (fun n i => ∃ k : Nat, k ≤ l.length ∧ i = .int .i64 k ∧ n = .int .i64 (cnt (l.take k))) (fun _ i => l.length - (intOf i).toNat)
  case atStart => exact ⟨0, Nat.zero_le _, rfl, rfl⟩
  case round =>
    obtain ⟨k, hk, rfl, rfl⟩ := hrel
    have hd := cnt_le (l.take k)
    have hlk : (l.take k).length ≤ k := List.length_take_le _ _
    by_cases hlt : k < l.length
    · rcases hc with rfl | ⟨b, off, rfl, hb, hc⟩
      · simp at hlt
      have hck := hc k hlt
      have HS : Hid (cnt (l.take (k + 1)) = cnt (l.take k) + if l.getD k false then 1 else 0) := by
        rw [take_snoc l false k hlt]; exact cnt_snoc _ _
      clear hc
      cases hv : l.getD k false
      all_goals
        rw [hv] at hck HS
        clear hv
        go_wp2
        go_round
        case rel => exact ⟨k + 1, by omega, by go_num, by rw [HS.out]; simp⟩
        case measure => simp [intOf]; omega
    · go_wp2
      go_ret
      exact ⟨ret_int (by rw [List.take_of_length_le (by omega)]), rfl⟩

set_option maxHeartbeats 400000 in
theorem sRegionValid_any (v : Value) (r : Reg) (w : World) (h : RegV w v r) :
    Calls Tryd.prog 40 #[v] w fun e w' => e = .returned (.bool r.valid) ∧ Below w.heap.size w w' := by
  obtain ⟨s, rfl, hs⟩ := h
  obtain ⟨a, cap, rfl, hlc, hcm, hc⟩ := hs.opened
  clear hc
  go_enter Tryd.func40, Tryd.ntmps40
  go_wp2_with (go_at_call 53; refine (l1In_any _ _ _ _).mono ?_; rintro e w' ⟨rfl, rfl⟩)
  · refine (l1Count_any _ r.cells _ ?_).mono ?_
    · refine hs.below ?_; go_grown
    rintro e w' ⟨rfl, rfl⟩
    have h1 : inB r.wide 1 6 = true := by assumption
    have h2 : inB r.tall 1 6 = true := by assumption
    have h3 : (r.cells.length : Int) = wrap64 (r.wide * r.tall) := by assumption
    rw [area_wrap h1 h2] at h3
    go_wp2
    go_ret
    exact ⟨ret_bool (by simp [Reg.valid, h1, h2, h3]), by go_grown⟩
  · have h1 : inB r.wide 1 6 = true := by assumption
    have h2 : inB r.tall 1 6 = true := by assumption
    have h3 : ¬ (r.cells.length : Int) = wrap64 (r.wide * r.tall) := by assumption
    rw [area_wrap h1 h2] at h3
    go_ret
    exact ⟨ret_bool (by simp [Reg.valid, h3]), by go_grown⟩
  all_goals (go_ret; exact ⟨ret_bool (by simp [Reg.valid, *]), by go_grown⟩)

set_option maxHeartbeats 1000000 in
theorem sameBools_any (v u : Value) (l m : List Bool) (w : World) (h : Bl w v l) (g : Bl w u m) :
    Calls Tryd.prog 35 #[v, u] w fun e w' => e = .returned (.bool (decide (l = m))) ∧ Below w.heap.size w w' := by
  obtain ⟨a, cap, rfl, hlc, hcm, hc⟩ := h.opened
  obtain ⟨a', cap', rfl, glc, gcm, gc⟩ := g.opened
  by_cases hne : l.length = m.length
  · rw [← hne] at glc gc ⊢
    have Hne := Lib.hid hne
    clear hne
    have hne' : ((l.length : Int) != (l.length : Int)) = false := by simp
    go_enter Tryd.func35, Tryd.ntmps35
    go_wp2_with (fail)
    go_loopw [5] (fun i wr => ∃ k : Nat, k ≤ l.length ∧ i = .int .i64 k ∧ Below w.heap.size w wr ∧ Hid (l.take k = m.take k)) (fun i _ => l.length - (intOf i).toNat)
    case atStart => exact ⟨0, Nat.zero_le _, rfl, Below.refl _ _, Lib.hid (by simp)⟩
    case round =>
      obtain ⟨k, hk, rfl, hbw, heq⟩ := hrel
      by_cases hlt : k < l.length
      · rcases hc with rfl | ⟨b, off, rfl, hb, hc⟩
        · simp at hlt
        rcases gc with rfl | ⟨b', off', rfl, hb', gc⟩
        · have hz := Hne.out; simp at hz; rw [hz] at hlt; simp at hlt
        have hck := ((bcell hbw).1 b (off + k) hb).trans (hc k hlt)
        have gck := ((bcell hbw).1 b' (off' + k) hb').trans (gc k hlt)
        clear hc gc
        have hlt' : (k : Int) < (l.length : Int) := by omega
        by_cases hv : l.getD k false = m.getD k false
        · have HT : Hid (l.take (k + 1) = m.take (k + 1)) := by
            rw [take_snoc l false k hlt, take_snoc m false k (by have := Hne.out; omega), heq.out, hv]; exact Lib.hid rfl
          rw [← hv] at gck
          generalize l.getD k false = c at *
          clear hv
          have hcc : (c != c) = false := by simp
          go_wp2
          go_quiet (fail)
          go_wp2
          go_roundw
          case rel => exact ⟨k + 1, by omega, by go_num, bel_dn hbw _, HT⟩
          case measure => simp [intOf]; omega
        · have HN : Hid (¬ l = m) := fun e => hv (by rw [e])
          have hcc : ((l.getD k false) != (m.getD k false)) = true := by simpa using hv
          generalize l.getD k false = c at *
          generalize m.getD k false = d at *
          clear hv
          cases c <;> cases d <;> first
            | (exfalso; revert hcc; decide)
            | (clear hcc
               go_wp2
               go_quiet (fail)
               go_wp2
               go_ret
               exact ⟨ret_bool (by simpa using HN.out), bel_dn hbw _⟩)
      · go_wp2
        go_ret
        refine ⟨ret_bool ?_, hbw⟩
        have := heq.out
        rw [List.take_of_length_le (by omega), List.take_of_length_le (by have := Hne.out; omega)] at this
        simp [this]
  · have hne' : ((l.length : Int) != (m.length : Int)) = true := by simp; omega
    go_enter Tryd.func35, Tryd.ntmps35
    go_wp2
    go_ret
    refine ⟨ret_bool ?_, by go_grown⟩
    simp; intro e; exact hne (by rw [e])

set_option maxHeartbeats 400000 in
theorem sameRegion_any (v u : Value) (r q : Reg) (w : World) (h : RegV w v r) (g : RegV w u q) :
    Calls Tryd.prog 13 #[v, u] w fun e w' => e = .returned (.bool (decide (r = q))) ∧ Below w.heap.size w w' := by
  obtain ⟨s, rfl, hs⟩ := h
  obtain ⟨t, rfl, ht⟩ := g
  have Hs := Lib.hid hs
  have Ht := Lib.hid ht
  obtain ⟨a, cap, rfl, hlc, hcm, hc⟩ := hs.opened
  obtain ⟨a', cap', rfl, glc, gcm, gc⟩ := ht.opened
  clear hc gc hs ht
  go_enter Tryd.func13, Tryd.ntmps13
  go_wp2_with (fail)
  · refine (sameBools_any _ _ r.cells q.cells _ ?_ ?_).mono ?_
    · refine Hs.out.below ?_; go_grown
    · refine Ht.out.below ?_; go_grown
    rintro e w' ⟨rfl, hb⟩
    have h1 : r.wide = q.wide := by assumption
    have h2 : r.tall = q.tall := by assumption
    go_wp2
    go_ret
    refine ⟨ret_bool ?_, Below.trans (by go_grown) (hb.mono (by simp <;> omega))⟩
    cases r; cases q; simp_all
  all_goals (go_ret; exact ⟨ret_bool (by cases r; cases q; simp_all), by go_grown⟩)

end Go.Proofs.YtklifibiadiinaaDoor
