/- Walks: hasInt, ascend of the laws. -/
import Derived.Test.YtbjenmfoblniaaaVWb
import Derived.Test.YtbjenmfoblniaaaVLil
import Derived.Test.YtbjenmfoblniaaaZe
set_option linter.unusedVariables false
namespace Go.Proofs.Ytbjenmfoblniaaa
open Go.RowKit Domi

set_option maxHeartbeats 1000000 in
theorem hasInt_is (v : Value) (l : List Int) (n : Int) (w : World) (h : Il w v l) (b : Bool) (hb0 : decide (n ∈ l) = b) :
    Calls Try.prog 37 #[v, .int .i64 n] w (Ret (.bool b) w) := by
  obtain ⟨a, cap, rfl, hlc, hcm, hc⟩ := h.opened
  have H := Lib.hid h
  have HB := Lib.hid hb0
  clear h hc hb0
  go_enter Try.func37, Try.ntmps37
  go_wp2_with (fail)
  go_loopw [5] (fun i wr => ∃ k : Nat, k ≤ l.length ∧ i = .int .i64 k ∧ Below w.heap.size w wr ∧ Hid (∀ j, j < k → l.getD j 0 ≠ n)) (fun i _ => l.length - (intOf i).toNat)
  case atStart => exact ⟨0, Nat.zero_le _, rfl, Below.refl _ _, Lib.hid (fun _ h => by omega)⟩
  case round =>
    obtain ⟨k, hk, rfl, hbw, hno⟩ := hrel
    have HW := Lib.hid hbw
    by_cases hlt : k < l.length
    · obtain ⟨b1, o1, rfl, hl1, hck⟩ := il_at (Sl.below H.out hbw) hlt
      have hlt' : (k : Int) < (l.length : Int) := by omega
      clear hbw
      by_cases he : l.getD k 0 = n
      · have HT : Hid (b = true) := Lib.hid (by
          rw [← HB.out]
          refine decide_eq_true ?_
          rw [← he, ← Domi.get_at _ _ _ hlt]; exact List.getElem_mem hlt)
        rw [he] at hck
        clear he
        go_wp2
        go_ret
        exact ⟨ret_bool HT.out.symm, HW.out⟩
      · have HN : Hid (∀ j, j < k + 1 → l.getD j 0 ≠ n) := Lib.hid fun j hj => by
          rcases Nat.lt_or_ge j k with h | h
          · exact hno.out j h
          · have : j = k := by omega
            subst this; exact he
        have he' : (l.getD k 0 == n) = false := by simpa using he
        generalize l.getD k 0 = y at *
        clear he
        go_wp2
        go_roundw
        case rel => exact ⟨k + 1, by omega, by go_num, HW.out, HN⟩
        case measure => simp [intOf]; omega
    · have HF : Hid (b = false) := Lib.hid (by
        rw [← HB.out]
        refine decide_eq_false fun hm => ?_
        obtain ⟨j, hj, e⟩ := List.getElem_of_mem hm
        exact hno.out j (by omega) (by rw [← Domi.get_at _ _ _ hj]; exact e))
      clear hbw
      go_wp2
      go_ret
      exact ⟨ret_bool HF.out.symm, HW.out⟩
set_option maxHeartbeats 1000000 in
theorem ascend_yes (v : Value) (l : List Int) (w : World) (h : Il w v l) (ha : Asc l) :
    Calls Try.prog 38 #[v] w (Ret (.bool true) w) := by
  obtain ⟨a, cap, rfl, hlc, hcm, hc⟩ := h.opened
  have H := Lib.hid h
  have HA := Lib.hid ha
  clear h hc ha
  go_enter Try.func38, Try.ntmps38
  go_wp2_with (fail)
  go_loopw [3] (fun i wr => ∃ k : Nat, i = .int .i64 ((k : Int) + 1) ∧ (k = 0 ∨ k + 1 ≤ l.length) ∧ Below w.heap.size w wr) (fun i _ => l.length + 1 - (intOf i).toNat)
  case atStart => exact ⟨0, rfl, .inl rfl, Below.refl _ _⟩
  case round =>
    obtain ⟨k, rfl, hk, hbw⟩ := hrel
    have HW := Lib.hid hbw
    by_cases hlt : k + 1 < l.length
    · obtain ⟨b1, o1, e1, hl1, hck⟩ := il_at (Sl.below H.out hbw) (j := k) (by omega)
      obtain ⟨b2, o2, e2, hl2, hcj⟩ := il_at (Sl.below H.out hbw) hlt
      subst e1
      have e3 : b1 = b2 ∧ o1 = o2 := by simpa using e2
      obtain ⟨rfl, rfl⟩ := e3
      have hlt' : (k : Int) + 1 < (l.length : Int) := by omega
      have hd := HA.out (k + 1) (by omega) hlt
      rw [Nat.add_sub_cancel] at hd
      generalize l.getD k 0 = x at *
      generalize l.getD (k + 1) 0 = y at *
      have hge : ¬ y ≤ x := by omega
      clear hbw e2 hk
      go_wp2
      go_quiet (fail)
      go_wp2
      go_roundw
      case rel => exact ⟨k + 1, by go_num, .inr (by omega), bel_dn HW.out _⟩
      case measure => simp [intOf]; omega
    · clear hbw
      have hlt' : ¬ (k : Int) + 1 < (l.length : Int) := by omega
      go_wp2
      go_ret
      exact ⟨rfl, HW.out⟩
end Go.Proofs.Ytbjenmfoblniaaa
