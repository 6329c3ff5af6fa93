/- Walks: Complete, TilingFirst, tilings, TilingsAll of the program. -/
import Derived.Test.YtbjenmfoblniaaaVWtils
set_option linter.unusedVariables false
namespace Go.Proofs.Ytbjenmfoblniaaa
open Go.RowKit Domi

theorem elem_lists : ElemOk Try.prog 35 39 24 := ⟨Try.underlying35, by kernel_rfl⟩
def lastL (xs : List (List Int)) : List Int := xs.getLastD []
theorem lastL_snoc (xs : List (List Int)) (L : List Int) : lastL (xs ++ [L]) = L := by unfold lastL; simp
theorem retIB_is {q : List Int × Bool} {x : List Int} {b : Bool} (h : q = (x, b)) {w w' : World} {v : Value} (hi : Il w' v x) (hb : Below w.heap.size w w') : RetIB q w (.returned (.tuple #[v, .bool b])) w' := by subst h; exact ⟨v, rfl, hi, hb⟩
theorem headQ_vis (l : List (List Int)) : headQ l = (lastL (vis false l), !goes false l) := by cases l <;> rfl
theorem cl_ow {w : World} {B : Nat} {e : TypeId} {v : Value} {xs : List Value} (h : Cl w B e v xs) : Ow w B e v xs := by
  obtain ⟨g, cur, rfl, hB, hg, ht, hl⟩ := h
  exact .inr ⟨g, xs.length, cur, rfl, hB, hg, Nat.le_refl _, by omega, ht⟩

end Go.Proofs.Ytbjenmfoblniaaa
