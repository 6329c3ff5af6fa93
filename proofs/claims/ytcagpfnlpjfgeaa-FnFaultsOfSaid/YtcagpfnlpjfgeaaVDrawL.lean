/- Walks: the functions that draw a region and a list of dominoes. -/
import Derived.Test.YtcagpfnlpjfgeaaVDrawD
import Derived.Test.YtcagpfnlpjfgeaaVLaid
set_option linter.unusedVariables false
namespace Go.Proofs.Ytcagpfnlpjfgeaa
open Go.RowKit Domi

/-- What is drawn: a small region and a list. -/
def DrawnL (w : World) (e : Ending) (w' : World) : Prop := ∃ (v u : Value) (r : Reg) (L : List Int), e = .returned (.tuple #[v, u]) ∧ RegV w' v r ∧ Il w' u L ∧ RegSmall r ∧ L.length ≤ 37 ∧ Below w.heap.size w w'
theorem drawnL_done {w w1 w2 : World} {b B : Nat} {s u : Value} {r : Reg} {L : List Int} (hb : Below w.heap.size w w1) (hb1 : w.heap.size + 1 ≤ b) (hg : w1.grownBy w2 (some b)) (hs : Bl w2 s r.cells) (hr : RegSmall r) (hu : Own w2 B 3 u (L.map (Value.int .i64))) (hB : w.heap.size < B) (hl : L.length ≤ 37)
    (hA : w2.heap[w.heap.size]? = some (.cells #[.int .i64 0, .int .i64 0, .slice none 0 0] 25 (0, 0))) :
    DrawnL w (.returned (.tuple #[.agg #[.int .i64 r.wide, .int .i64 r.tall, s], u])) (((w2.setCell ⟨w.heap.size, 0, none⟩ (.int .i64 r.wide)).setCell ⟨w.heap.size, 1, none⟩ (.int .i64 r.tall)).setCell ⟨w.heap.size, 2, none⟩ s) := by
  have B2 : Below w.heap.size w w2 := hb.trans (below_grown hg hb.size (by simp; omega))
  obtain ⟨v, he, hv, hB'⟩ := reg_done (x := r.wide) (y := r.tall) B2 hs hA (Nat.le_refl _)
  cases he
  exact ⟨_, u, r, L, rfl, hv, own_il (((hu.setCell hB _).setCell hB _).setCell hB _), hr, hl, hB'⟩

end Go.Proofs.Ytcagpfnlpjfgeaa
