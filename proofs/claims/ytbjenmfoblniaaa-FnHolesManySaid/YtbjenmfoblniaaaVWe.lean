/- Walks: the reference's RegionFlip and RegionTurn. -/
import Derived.Test.YtbjenmfoblniaaaVWd
import Derived.Test.YtbjenmfoblniaaaZa
set_option linter.unusedVariables false
namespace Go.Proofs.Ytbjenmfoblniaaa
open Go.RowKit Domi

/-- PutR, and the argument's box is there. -/
def PutS (w : World) (R : Value) (x y : Int) (rx ry : Int) (l : List Bool) (tt : Nat → Nat) (X g : Nat) (i : Value) (wr : World) : Prop :=
  PutR w x y l tt (w.heap.size + 1) X g i wr ∧ wr.heap[w.heap.size]? = some (.cells #[.int .i64 rx, .int .i64 ry, R] 29 (0, 0)) ∧ w.heap.size + 2 ≤ g ∧ w.heap.size + 2 ≤ X ∧ g ≠ X
def PutC (w : World) (R : Value) (x y : Int) (rx ry : Int) (l : List Bool) (tt : Nat → Nat) (s3 : Value) (wr : World) : Prop :=
  ∃ X g, s3 = .pointer (some ⟨X, 0, none⟩) ∧ PutS w R x y rx ry l tt X g (.int .i64 0) wr

theorem putC_mk {w w1 w2 : World} {R : Value} {x y rx ry : Int} {l : List Bool} {tt : Nat → Nat} {X g : Nat} (hb : Below w.heap.size w w1) (h1 : w1.heap.size + 2 = w2.heap.size) (h2 : Below w1.heap.size w1 w2)
    (hR : w1.heap[w.heap.size]? = some (.cells #[.int .i64 rx, .int .i64 ry, R] 29 (0, 0)))
    (hA : w1.heap[w.heap.size + 1]? = some (.cells #[.int .i64 0, .int .i64 0, .slice none 0 0] 29 (0, 0)))
    (hX : w2.heap[X]? = some (.cells #[.int .i64 x, .int .i64 y, .slice (some ⟨g, 0, none⟩) l.length l.length] 29 (0, 0)))
    (hg : w2.heap[g]? = some (.cells (mkRow l.length (.bool false)) 4 (0, 0))) (hX1 : w1.heap.size ≤ X) (hg1 : w1.heap.size ≤ g) (hgX : g ≠ X) (hl : l.length ≤ 1000) :
    PutC w R x y rx ry l tt (.pointer (some ⟨X, 0, none⟩)) w2 := by
  have s1 := lt_of_heap hA
  refine ⟨X, g, rfl, ⟨0, rfl, by omega, hb.trans (h2.mono hb.size), by rw [h2.block _ s1]; exact hA, hX, ?_⟩, by rw [h2.block _ (lt_of_heap hR)]; exact hR, by omega, by omega, hgX⟩
  refine ⟨by simp [putL], .inr ⟨g, l.length, mkRow l.length (.bool false), by simp [putL], by omega, hg, by simp [putL], by unfold maxLen; omega, by simp [mkRow], by simp [mkRow, putL]⟩⟩

theorem putS_next {w wr : World} {R : Value} {x y rx ry : Int} {l : List Bool} {tt : Nat → Nat} {X g k : Nat} (hb : Below w.heap.size w wr)
    (hA : wr.heap[w.heap.size + 1]? = some (.cells #[.int .i64 0, .int .i64 0, .slice none 0 0] 29 (0, 0)))
    (hX : wr.heap[X]? = some (.cells #[.int .i64 x, .int .i64 y, .slice (some ⟨g, 0, none⟩) l.length l.length] 29 (0, 0)))
    (ho : Own wr (w.heap.size + 2) 4 (.slice (some ⟨g, 0, none⟩) l.length l.length) ((putL tt l k).map Value.bool))
    (hR : wr.heap[w.heap.size]? = some (.cells #[.int .i64 rx, .int .i64 ry, R] 29 (0, 0))) (hg : w.heap.size + 2 ≤ g) (hX1 : w.heap.size + 2 ≤ X) (hgX : g ≠ X) (hk : k < l.length) :
    ∀ L : Later wr, PutS w R x y rx ry l tt X g (.int .i64 ((k : Int) + 1)) (L.x.setCell ⟨g, tt k, none⟩ (.bool (l.getD k false))) :=
  fun L => ⟨putR_next hb hA hX ho (w4 := L.x) L.h (by omega) hgX (by omega) hk, by rw [heap_setCell_other _ _ _ _ (by simp; omega)]; exact L.block hR, hg, hX1, hgX⟩
theorem mir_term {r : Reg} {c : Int} (hw : 1 ≤ r.wide ∧ r.wide ≤ 6) (_ : 1 ≤ r.tall ∧ r.tall ≤ 6) (h0 : 0 ≤ c) (h : c ≤ 100) : 0 ≤ c / r.wide * r.wide ∧ c / r.wide * r.wide ≤ 100 := by
  have m1 := Int.emod_nonneg c (b := r.wide) (by omega)
  have m3 := Int.ediv_nonneg (a := c) (b := r.wide) (by omega) (by omega)
  have := Int.mul_ediv_add_emod c r.wide
  rw [Int.mul_comm] at this
  exact ⟨Int.mul_nonneg m3 (by omega), by omega⟩
theorem turn_term {r : Reg} {c : Int} (hw : 1 ≤ r.wide ∧ r.wide ≤ 6) (ht : 1 ≤ r.tall ∧ r.tall ≤ 6) (h0 : 0 ≤ c) (_ : c ≤ 100) : 0 ≤ c % r.wide * r.tall ∧ c % r.wide * r.tall ≤ 36 := by
  have m1 := Int.emod_nonneg c (b := r.wide) (by omega)
  have m2 := Int.emod_lt_of_pos c (b := r.wide) (by omega)
  refine ⟨Int.mul_nonneg m1 (by omega), ?_⟩
  have := Int.mul_le_mul (a := c % r.wide) (b := r.tall) (c := 6) (d := 6) (by omega) (by omega) (by omega) (by omega)
  omega

theorem RegionFlip_any (v : Value) (r : Reg) (w : World) (h : RegV w v r) : Calls Try.prog 64 #[v] w (RetR r.flipR w) := by
  cases hv : r.valid
  · rw [Reg.flipR, hv]; exact RegionFlip_no v r w h hv
  · rw [Reg.flipR, hv]; exact RegionFlip_yes v r w h hv

end Go.Proofs.Ytbjenmfoblniaaa
