/- Two regions of one field, joined cell by cell. -/
import Derived.Test.YtnmoaecihmjnnaaPure
import Derived.Test.YtnmoaecihmjnnaaMem
namespace Domi
open Go Go.RowKit

def Reg.fits (a b : Reg) : Bool := a.valid && b.valid && (a.wide == b.wide) && (a.tall == b.tall)
def Reg.both (f : Bool → Bool → Bool) (a b : Reg) : Reg := ⟨a.wide, a.tall, (List.range a.cells.length).map fun k => f (a.cells.getD k false) (b.cells.getD k false)⟩
def combR (f : Bool → Bool → Bool) (a b : Reg) : Reg × Bool := if a.fits b && (Reg.both f a b).valid then (Reg.both f a b, true) else (Reg.zero, false)
theorem comb_yes {f : Bool → Bool → Bool} {a b : Reg} (h : a.fits b = true) (hv : (Reg.both f a b).valid = true) : combR f a b = (Reg.both f a b, true) := by simp [combR, h, hv]
theorem comb_no {f : Bool → Bool → Bool} {a b : Reg} (h : a.fits b = false) : combR f a b = (Reg.zero, false) := by simp [combR, h]
theorem comb_bad {f : Bool → Bool → Bool} {a b : Reg} (hv : (Reg.both f a b).valid = false) : combR f a b = (Reg.zero, false) := by simp [combR, hv]

/-- The boxes of both regions, and that of the result. -/
structure Pair (w : World) (t : TypeId) (a b : Reg) (aa ab : Option Addr) (ca cb : Nat) (wr : World) : Prop where
  g : Below w.heap.size w wr
  x : wr.heap[w.heap.size]? = some (.cells #[.int .i64 a.wide, .int .i64 a.tall, .slice aa a.cells.length ca] t (0, 0))
  y : wr.heap[w.heap.size + 1]? = some (.cells #[.int .i64 b.wide, .int .i64 b.tall, .slice ab b.cells.length cb] t (0, 0))
  z : wr.heap[w.heap.size + 2]? = some (.cells #[.int .i64 0, .int .i64 0, .slice none 0 0] t (0, 0))
theorem Pair.on {w : World} {t : TypeId} {a b : Reg} {aa ab : Option Addr} {ca cb : Nat} {w1 w2 : World} (h : Pair w t a b aa ab ca cb w1) (h2 : Below w1.heap.size w1 w2) : Pair w t a b aa ab ca cb w2 :=
  ⟨h.g.trans (h2.mono h.g.size), by rw [h2.block _ (lt_of_heap h.x)]; exact h.x, by rw [h2.block _ (lt_of_heap h.y)]; exact h.y, by rw [h2.block _ (lt_of_heap h.z)]; exact h.z⟩
theorem Pair.start (w : World) (t : TypeId) (a b : Reg) (aa ab : Option Addr) (ca cb : Nat) :
    Pair w t a b aa ab ca cb (((w.alloc (.cells #[.int .i64 a.wide, .int .i64 a.tall, .slice aa a.cells.length ca] t)).alloc (.cells #[.int .i64 b.wide, .int .i64 b.tall, .slice ab b.cells.length cb] t)).alloc (.cells #[.int .i64 0, .int .i64 0, .slice none 0 0] t)) := by
  refine ⟨by go_grown, ?_, ?_, ?_⟩
  · rw [heap_alloc_old _ _ (by simp; omega), heap_alloc_old _ _ (by simp)]; exact heap_alloc_new _ _
  · rw [heap_alloc_old _ _ (by simp)]; have := heap_alloc_new (w.alloc (.cells #[.int .i64 a.wide, .int .i64 a.tall, .slice aa a.cells.length ca] t)) (.cells #[.int .i64 b.wide, .int .i64 b.tall, .slice ab b.cells.length cb] t); simpa using this
  · have := heap_alloc_new ((w.alloc (.cells #[.int .i64 a.wide, .int .i64 a.tall, .slice aa a.cells.length ca] t)).alloc (.cells #[.int .i64 b.wide, .int .i64 b.tall, .slice ab b.cells.length cb] t)) (.cells #[.int .i64 0, .int .i64 0, .slice none 0 0] t); simpa using this
/-- The result, where there is none. -/
theorem Pair.none {w : World} {t : TypeId} {a b : Reg} {aa ab : Option Addr} {ca cb : Nat} {w1 : World} (h : Pair w t a b aa ab ca cb w1) :
    RetRB (Reg.zero, false) w (.returned (.tuple #[.agg #[.int .i64 0, .int .i64 0, .slice none 0 0], .bool false])) (((w1.setCell ⟨w.heap.size + 2, 0, none⟩ (.int .i64 0)).setCell ⟨w.heap.size + 2, 1, none⟩ (.int .i64 0)).setCell ⟨w.heap.size + 2, 2, none⟩ (.slice none 0 0)) :=
  regB_done (l := []) h.g (Sl.nil w1) h.z (by omega)

/-- At the head of the loop's round: so many cells are joined. -/
def CombS (w : World) (t e : TypeId) (a b : Reg) (aa ab : Option Addr) (ca cb : Nat) (f : Nat → Bool) (X g n : Nat) (i : Value) (wr : World) : Prop :=
  ∃ k : Nat, i = .int .i64 k ∧ k ≤ n ∧ Pair w t a b aa ab ca cb wr ∧ wr.heap[X]? = some (.cells #[.int .i64 a.wide, .int .i64 a.tall, .slice (some ⟨g, 0, none⟩) n n] t (0, 0)) ∧
    Own wr (w.heap.size + 3) e (.slice (some ⟨g, 0, none⟩) n n) ((fillL f false n k).map Value.bool)
theorem combS_next {w wr wx : World} {t e : TypeId} {a b : Reg} {aa ab : Option Addr} {ca cb : Nat} {f : Nat → Bool} {X g n k : Nat} (h : Pair w t a b aa ab ca cb wr)
    (hX : wr.heap[X]? = some (.cells #[.int .i64 a.wide, .int .i64 a.tall, .slice (some ⟨g, 0, none⟩) n n] t (0, 0)))
    (ho : Own wr (w.heap.size + 3) e (.slice (some ⟨g, 0, none⟩) n n) ((fillL f false n k).map Value.bool)) (hg : w.heap.size + 3 ≤ g) (hgX : g < X) (hk : k < n) (hx : Below wr.heap.size wr wx) :
    CombS w t e a b aa ab ca cb f X g n (.int .i64 ((k : Int) + 1)) (wx.setCell ⟨g, k, none⟩ (.bool (f k))) := by
  have h' := h.on hx
  refine ⟨k + 1, by simp, by omega, ⟨h'.g.setCell (by simp; omega) _, ?_, ?_, ?_⟩, ?_, ?_⟩
  · rw [heap_setCell_other _ _ _ _ (by simp; omega)]; exact h'.x
  · rw [heap_setCell_other _ _ _ _ (by simp; omega)]; exact h'.y
  · rw [heap_setCell_other _ _ _ _ (by simp; omega)]; exact h'.z
  · rw [heap_setCell_other _ _ _ _ (by simp; omega), hx.block _ (lt_of_heap hX)]; exact hX
  · have := (ho.below hx).stored k (.bool (f k))
    rw [← List.map_set, fillL_set] at this
    exact this

end Domi
