/- Walks: slices.Clip of a list of numbers, and what is left of it. -/
import Derived.Test.YtdggcfpkbmdllaaVWb
import Derived.Test.YtdggcfpkbmdllaaZa
set_option linter.unusedVariables false
namespace Go.Proofs.Ytdggcfpkbmdllaa
open Go.RowKit Domi

theorem ow_clip {w : World} {B : Nat} {e : TypeId} {a : Option Addr} {m c : Nat} {xs : List Value} (h : Own w B e (.slice a m c) xs) (hm : m = xs.length) :
    Ow w B e (.slice a m m) xs ∧ ((a = none ∧ c = 0 ∨ ∃ g, a = some ⟨g, 0, none⟩) ∧ m ≤ c ∧ c ≤ 9223372036854775807) := by
  rcases Ow.of_owns h with ⟨e, h0⟩ | ⟨g, cap, cur, e, hB, hg, h1, h2, h3⟩
  · simp only [Value.slice.injEq] at e
    obtain ⟨rfl, rfl, rfl⟩ := e
    exact ⟨.inl ⟨rfl, h0⟩, .inl ⟨rfl, rfl⟩, by omega, by omega⟩
  · simp only [Value.slice.injEq] at e
    obtain ⟨rfl, e2, rfl⟩ := e
    exact ⟨.inr ⟨g, _, cur, by rw [← e2], hB, hg, by rw [← e2]; exact Nat.le_refl _, by omega, h3⟩, .inr ⟨g, rfl⟩, by omega, h2⟩
/-- A region's variable and a list of numbers that grows. -/
def BoS (w : World) (r : Reg) (s v : Value) (L : List Int) : List It := [.box w.heap.size #[.int .i64 r.wide, .int .i64 r.tall, s] 28, .row 3 v (L.map (Value.int .i64))]
theorem boS_app {w wr w5 : World} {r : Reg} {s : Value} {a : Option Addr} {n c : Nat} {L : List Int} {x : Int} {g c2 : Nat} (h : Sep w none wr (BoS w r s (.slice a n c) L))
    (A : App wr 0 3 (.slice a n c) (L.map (Value.int .i64)) (.int .i64 x) g c2 w5) (hn : n = L.length) : Sep w none w5 (BoS w r s (.slice (some ⟨g, 0, none⟩) (n + 1) c2) (L ++ [x])) := by
  have := h.app 1 rfl A
  rw [List.length_map, ← hn] at this
  unfold BoS
  rw [List.map_append]
  exact this
def RetWo (l : List Int) (w : World) (e : Ending) (w' : World) : Prop := ∃ v, e = .returned v ∧ Ow w' w.heap.size 3 v (l.map (Value.int .i64)) ∧ Below w.heap.size w w'
end Go.Proofs.Ytdggcfpkbmdllaa
