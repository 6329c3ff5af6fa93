/- A cell of a list, a cell of a list of lists, opened in one step. -/
import Derived.Test.YtklifibiadiinaaDoorVLaw
import Derived.Test.YtklifibiadiinaaDoorZa
set_option linter.unusedVariables false
namespace Go.Proofs.YtklifibiadiinaaDoor
open Go.RowKit Domi

theorem il_at {w : World} {a : Option Addr} {n c : Nat} {L : List Int} (h : Il w (.slice a n c) L) {j : Nat} (hj : j < L.length) : ∃ b o, a = some ⟨b, o, none⟩ ∧ b < w.heap.size ∧ w.cell? ⟨b, o + j, none⟩ = some (.int .i64 (L.getD j 0)) := by
  obtain ⟨_, _, e, _, _, h3⟩ := h.opened
  simp only [Value.slice.injEq] at e
  obtain ⟨rfl, _, rfl⟩ := e
  rcases h3 with e | ⟨b, o, rfl, hb, hc⟩
  · rw [e] at hj; simp at hj
  · exact ⟨b, o, rfl, hb, hc j hj⟩
theorem ll_at {w : World} {a : Option Addr} {n c : Nat} {T : List (List Int)} (h : Ll w (.slice a n c) T) {k : Nat} (hk : k < T.length) {X : List Int} {m : Nat} (hX : T.getD k [] = X) (hm : X.length = m) :
    ∃ b o u q, a = some ⟨b, o, none⟩ ∧ b < w.heap.size ∧ w.cell? ⟨b, o + k, none⟩ = some (.slice u m q) ∧ (m ≤ q ∧ q ≤ 9223372036854775807) ∧ Il w (.slice u m q) X := by
  obtain ⟨_, _, e, _, _, h3⟩ := h.opened
  simp only [Value.slice.injEq] at e
  obtain ⟨rfl, _, rfl⟩ := e
  rcases h3 with e | ⟨b, o, rfl, hb, hc⟩
  · rw [e] at hk; simp at hk
  · obtain ⟨v, h1, h2⟩ := hc k hk
    rw [hX] at h2
    obtain ⟨u, q, rfl, hq1, hq2, _⟩ := h2.opened
    rw [hm] at h1 h2 hq1
    exact ⟨b, o, u, q, rfl, hb, h1, ⟨hq1, hq2⟩, h2⟩
end Go.Proofs.YtklifibiadiinaaDoor
