/- Walks: equality of lists of numbers. -/
import Derived.Test.YtklifibiadiinaaDoorVWb
set_option linter.unusedVariables false
namespace Go.Proofs.YtklifibiadiinaaDoor
open Go.RowKit Domi

set_option maxHeartbeats 1000000 in
theorem sameInts_any (v u : Value) (l m : List Int) (w : World) (h : Il w v l) (g : Il w u m) :
    Calls Tryd.prog 14 #[v, u] w fun e w' => e = .returned (.bool (decide (l = m))) ∧ Below w.heap.size w w' := by
  obtain ⟨a, cap, rfl, hlc, hcm, hc⟩ := h.opened
  obtain ⟨a', cap', rfl, glc, gcm, gc⟩ := g.opened
  by_cases hne : l.length = m.length
  · rw [← hne] at glc gc ⊢
    have Hne := Lib.hid hne
    clear hne
    have hne' : ((l.length : Int) != (l.length : Int)) = false := by simp
    go_enter Tryd.func14, Tryd.ntmps14
    go_wp2_with (fail)
    go_loopw [5] (fun i wr => ∃ k : Nat, k ≤ l.length ∧ i = .int .i64 k ∧ Below w.heap.size w wr ∧ Hid (l.take k = m.take k)) (fun i _ => l.length - (intOf i).toNat)
    case atStart => exact ⟨0, Nat.zero_le _, rfl, Below.refl _ _, Lib.hid (by simp)⟩
    case round =>
      obtain ⟨k, hk, rfl, hbw, heq⟩ := hrel
      by_cases hlt : k < l.length
      · rcases hc with rfl | ⟨b, off, rfl, hb, hc⟩
        · simp at hlt
        rcases gc with rfl | ⟨b', off', rfl, hb', gc⟩
        · have hz := Hne.out; simp at hz; rw [hz] at hlt; simp at hlt
        have hck := ((bcell hbw).1 b (off + k) hb).trans (hc k hlt)
        have gck := ((bcell hbw).1 b' (off' + k) hb').trans (gc k hlt)
        clear hc gc
        have hlt' : (k : Int) < (l.length : Int) := by omega
        by_cases hv : l.getD k 0 = m.getD k 0
        · have HT : Hid (l.take (k + 1) = m.take (k + 1)) := by
            rw [take_snoc l 0 k hlt, take_snoc m 0 k (by have := Hne.out; omega), heq.out, hv]; exact Lib.hid rfl
          rw [← hv] at gck
          generalize l.getD k 0 = c at *
          clear hv
          have hcc : (c != c) = false := by simp
          go_wp2
          go_quiet (fail)
          go_wp2
          go_roundw
          case rel => exact ⟨k + 1, by omega, by go_num, bel_dn hbw _, HT⟩
          case measure => simp [intOf]; omega
        · have HN : Hid (¬ l = m) := fun e => hv (by rw [e])
          have hcc : ((l.getD k 0) != (m.getD k 0)) = true := by simpa using hv
          generalize l.getD k 0 = c at *
          generalize m.getD k 0 = d at *
          clear hv
          go_wp2
          go_quiet (fail)
          go_wp2
          go_ret
          exact ⟨ret_bool (by simpa using HN.out), bel_dn hbw _⟩
      · go_wp2
        go_ret
        refine ⟨ret_bool ?_, hbw⟩
        have := heq.out
        rw [List.take_of_length_le (by omega), List.take_of_length_le (by have := Hne.out; omega)] at this
        simp [this]
  · have hne' : ((l.length : Int) != (m.length : Int)) = true := by simp; omega
    go_enter Tryd.func14, Tryd.ntmps14
    go_wp2
    go_ret
    refine ⟨ret_bool ?_, by go_grown⟩
    simp; intro e; exact hne (by rw [e])

theorem sameInts_is (v u : Value) (l m : List Int) (w : World) (h : Il w v l) (g : Il w u m) (c : Bool) (hc : decide (l = m) = c) :
    Calls Tryd.prog 14 #[v, u] w fun e w' => e = .returned (.bool c) ∧ Below w.heap.size w w' := by rw [← hc]; exact sameInts_any v u l m w h g

end Go.Proofs.YtklifibiadiinaaDoor
