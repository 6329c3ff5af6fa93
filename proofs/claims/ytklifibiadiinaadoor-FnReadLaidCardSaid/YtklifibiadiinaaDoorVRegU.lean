/- Words for regions that make memory beside calls. -/
import Derived.Test.YtklifibiadiinaaDoorVWone
import Derived.Test.YtklifibiadiinaaDoorVDrawS
import Derived.Test.YtklifibiadiinaaDoorZb
set_option linter.unusedVariables false
namespace Go.Proofs.YtklifibiadiinaaDoor
open Go.RowKit Domi

/-- What lies in a block of the region's own. -/
def LitAt (B : Nat) (x : World) (g : Nat) (l : List Int) : Prop := B ≤ g ∧ x.heap[g]? = some (.cells (l.map (Value.int .i64)).toArray 3 (0, 0))
def SomeS (B : Nat) (x y : World) : Prop := x.heap.size ≤ y.heap.size ∧ ∀ g, B ≤ g → g < x.heap.size → y.heap[g]? = x.heap[g]?
theorem SomeS.refl (B : Nat) (x : World) : SomeS B x x := ⟨Nat.le_refl _, fun _ _ _ => rfl⟩
theorem someS_grown {B b : Nat} {x y : World} (h : x.grownBy y (some b)) (hb : b < B) : SomeS B x y := ⟨h.size, fun g hg hl => h.block g hl (by simp; omega)⟩
theorem someS_below {B : Nat} {x y : World} (h : Below x.heap.size x y) : SomeS B x y := ⟨h.size, fun g _ hl => h.block g hl⟩
theorem LitAt.on {B g : Nat} {x y : World} {l : List Int} (h : LitAt B x g l) (hs : SomeS B x y) : LitAt B y g l := ⟨h.1, by rw [hs.2 g h.1 (lt_of_heap h.2)]; exact h.2⟩
theorem LitAt.cell {B g k : Nat} {x : World} {l : List Int} (h : LitAt B x g l) (hk : k < l.length) : x.cell? ⟨g, k, none⟩ = some (.int .i64 (l.getD k 0)) := by
  rw [cell_of_row x g k _ _ _ h.2]; simp [hk]
theorem own_on {B : Nat} {x y : World} {e : TypeId} {v : Value} {xs : List Value} (h : Own x B e v xs) (hs : SomeS B x y) : Own y B e v xs := by
  refine ⟨h.1, ?_⟩
  rcases h.2 with h2 | ⟨g, cap, cur, rfl, hb, hg, r⟩
  · exact .inl h2
  · exact .inr ⟨g, cap, cur, rfl, hb, by rw [hs.2 g (by simpa using hb) (lt_of_heap hg)]; exact hg, r⟩

end Go.Proofs.YtklifibiadiinaaDoor
