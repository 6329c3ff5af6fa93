/- Walks: the functions that draw one region. -/
import Derived.Test.YtklifibiadiinaaVDrawC
set_option linter.unusedVariables false
namespace Go.Proofs.Ytklifibiadiinaa
open Go.RowKit Domi

/-- What is drawn: some small region. -/
def DrawnR (w : World) (e : Ending) (w' : World) : Prop := ∃ v r, e = .returned v ∧ RegV w' v r ∧ RegSmall r ∧ Below w.heap.size w w'

theorem drawn_done {w w1 w2 : World} {b : Nat} {s : Value} {r : Reg} (hb : Below w.heap.size w w1) (hb1 : w.heap.size + 1 ≤ b) (hg : w1.grownBy w2 (some b)) (hs : Bl w2 s r.cells) (hr : RegSmall r)
    (hA : w2.heap[w.heap.size]? = some (.cells #[.int .i64 0, .int .i64 0, .slice none 0 0] 28 (0, 0))) :
    DrawnR w (.returned (.agg #[.int .i64 r.wide, .int .i64 r.tall, s])) (((w2.setCell ⟨w.heap.size, 0, none⟩ (.int .i64 r.wide)).setCell ⟨w.heap.size, 1, none⟩ (.int .i64 r.tall)).setCell ⟨w.heap.size, 2, none⟩ s) := by
  have B2 : Below w.heap.size w w2 := hb.trans (below_grown hg hb.size (by simp; omega))
  obtain ⟨v, he, hv, hB⟩ := reg_done (x := r.wide) (y := r.tall) B2 hs hA (Nat.le_refl _)
  exact ⟨v, r, he, hv, hr, hB⟩

end Go.Proofs.Ytklifibiadiinaa
