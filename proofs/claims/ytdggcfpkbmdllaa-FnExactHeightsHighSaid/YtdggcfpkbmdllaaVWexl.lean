/- Words for the walks of laws that mark lists: what lies beside a block that has turned. -/
import Derived.Test.YtdggcfpkbmdllaaVWex
set_option linter.unusedVariables false
namespace Go.Proofs.Ytdggcfpkbmdllaa
open Go.RowKit Domi

/-- The block of a slice lies between two places. -/
def Bk (v : Value) (lo hi : Nat) : Prop := ∀ k, v.ownBlock = some k → lo ≤ k ∧ k < hi
theorem bk_of {w : World} {B : Nat} {e : TypeId} {v : Value} {xs : List Value} (h : Ow w B e v xs) : Bk v B w.heap.size := by
  intro k hk
  rcases h with ⟨rfl, _⟩ | ⟨g, c, cur, rfl, hB, hg, _⟩
  · simp [Value.ownBlock] at hk
  · have : g = k := by simpa [Value.ownBlock] using hk
    subst this
    exact ⟨hB, lt_of_heap hg⟩
theorem ow_beside {w w' : World} {B lo hi : Nat} {e : TypeId} {v u : Value} {xs : List Value} (h : Ow w B e v xs) (hg : w.grownBy w' u.ownBlock) (hu : Bk u lo hi) (hB : hi ≤ B) : Ow w' B e v xs := by
  refine Ow.grown h hg fun k hk hv => ?_
  have h1 := bk_of h k hv
  have h2 := hu k hk
  omega
theorem below_beside {w0 w w' : World} {lo hi : Nat} {u : Value} (h : Below w0.heap.size w0 w) (hg : w.grownBy w' u.ownBlock) (hu : Bk u lo hi) (hl : w0.heap.size ≤ lo) : Below w0.heap.size w0 w' :=
  h.trans (below_grown hg h.size fun i hi => Nat.le_trans hl (hu i hi).1)
theorem size_beside {w w' : World} {row : Option Nat} (hg : w.grownBy w' row) : w.heap.size ≤ w'.heap.size := hg.size
end Go.Proofs.Ytdggcfpkbmdllaa
