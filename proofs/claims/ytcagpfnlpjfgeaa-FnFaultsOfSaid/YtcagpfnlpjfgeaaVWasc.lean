/- Walks: hasInt, ascend of the laws. -/
import Derived.Test.YtcagpfnlpjfgeaaVWb
import Derived.Test.YtcagpfnlpjfgeaaVLil
import Derived.Test.YtcagpfnlpjfgeaaZe
set_option linter.unusedVariables false
namespace Go.Proofs.Ytcagpfnlpjfgeaa
open Go.RowKit Domi

set_option maxHeartbeats 1000000 in
theorem ascend_yes (v : Value) (l : List Int) (w : World) (h : Il w v l) (ha : Asc l) :
    Calls Try.prog 33 #[v] w (Ret (.bool true) w) := by
  obtain ⟨a, cap, rfl, hlc, hcm, hc⟩ := h.opened
  have H := Lib.hid h
  have HA := Lib.hid ha
  clear h hc ha
  go_enter Try.func33, Try.ntmps33
  go_wp2_with (fail)
  go_loopw [3] (fun i wr => ∃ k : Nat, i = .int .i64 ((k : Int) + 1) ∧ (k = 0 ∨ k + 1 ≤ l.length) ∧ Below w.heap.size w wr) (fun i _ => l.length + 1 - (intOf i).toNat)
  case atStart => exact ⟨0, rfl, .inl rfl, Below.refl _ _⟩
  case round =>
    obtain ⟨k, rfl, hk, hbw⟩ := hrel
    have HW := Lib.hid hbw
    by_cases hlt : k + 1 < l.length
    · obtain ⟨b1, o1, e1, hl1, hck⟩ := il_at (Sl.below H.out hbw) (j := k) (by omega)
      obtain ⟨b2, o2, e2, hl2, hcj⟩ := il_at (Sl.below H.out hbw) hlt
      subst e1
      have e3 : b1 = b2 ∧ o1 = o2 := by simpa using e2
      obtain ⟨rfl, rfl⟩ := e3
      have hlt' : (k : Int) + 1 < (l.length : Int) := by omega
      have hd := HA.out (k + 1) (by omega) hlt
      rw [Nat.add_sub_cancel] at hd
      generalize l.getD k 0 = x at *
      generalize l.getD (k + 1) 0 = y at *
      have hge : ¬ y ≤ x := by omega
      clear hbw e2 hk
      go_wp2
      go_quiet (fail)
      go_wp2
      go_roundw
      case rel => exact ⟨k + 1, by go_num, .inr (by omega), bel_dn HW.out _⟩
      case measure => simp [intOf]; omega
    · clear hbw
      have hlt' : ¬ (k : Int) + 1 < (l.length : Int) := by omega
      go_wp2
      go_ret
      exact ⟨rfl, HW.out⟩
end Go.Proofs.Ytcagpfnlpjfgeaa
