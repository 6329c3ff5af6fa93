/- Walk: slices.Index at []int, its answer by a relation. -/
import Derived.Test.YtklifibiadiinaaZe
import Derived.Test.YtklifibiadiinaaVWb
set_option linter.unusedVariables false
namespace Go.Proofs.Ytklifibiadiinaa
open Go.RowKit Domi

set_option maxHeartbeats 400000 in
theorem Index_ix (u : Value) (l : List Int) (v : Int) (w : World) (h : Il w u l) :
    Calls Try.prog 83 #[u, .int .i64 v] w fun e w' => ∃ n, e = .returned (.int .i64 n) ∧ IxOf l v n ∧ w = w' := by
  obtain ⟨a, cap, rfl, h1, h2, h3⟩ := h.opened
  clear h
  go_enter Try.func83, Try.ntmps83
  go_wp2
  go_loop [8] (fun i => ∃ k : Nat, k ≤ l.length ∧ i = .int .i64 k ∧ ∀ j, j < k → l.getD j 0 ≠ v) (fun i => l.length - (intOf i).toNat)
  case atStart => exact ⟨0, Nat.zero_le _, rfl, fun _ h => by omega⟩
  case round =>
    obtain ⟨k, hk, rfl, hno⟩ := hrel
    have HN := Lib.hid hno
    clear hno
    by_cases hlt : k < l.length
    · rcases h3 with rfl | ⟨b, off, rfl, hb, hc⟩
      · simp at hlt
      · have hck := hc k hlt
        obtain ⟨x, hx⟩ : ∃ x, l.getD k 0 = x := ⟨_, rfl⟩
        rw [hx] at hck
        have HX := Lib.hid hx
        clear hc hx
        by_cases e : v = x
        · subst e
          have HI : Hid (IxOf l v (k : Int)) := Lib.hid (.inl ⟨k, rfl, hlt, HX.out⟩)
          go_wp2
          go_ret
          exact ⟨_, rfl, HI.out, rfl⟩
        · have he : (v == x) = false := by simpa using e
          have HN2 := Lib.hid (fun j (hj : j < k + 1) => show l.getD j 0 ≠ v by
            by_cases ej : j = k
            · subst ej; rw [HX.out]; exact fun e' => e e'.symm
            · exact HN.out j (by omega))
          go_wp2
          go_round
          case rel => exact ⟨k + 1, by omega, by go_num, HN2.out⟩
          case measure => simp [intOf]; omega
    · have e : k = l.length := by omega
      subst e
      go_wp2
      go_ret
      exact ⟨_, rfl, .inr ⟨rfl, HN.out⟩, rfl⟩
end Go.Proofs.Ytklifibiadiinaa
