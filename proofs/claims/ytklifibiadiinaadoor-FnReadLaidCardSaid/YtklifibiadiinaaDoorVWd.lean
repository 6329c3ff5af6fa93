/- Walks: xy, mirrored, turned, put, RegionFlip, RegionTurn. -/
import Derived.Test.YtklifibiadiinaaDoorVWc
set_option linter.unusedVariables false
namespace Go.Proofs.YtklifibiadiinaaDoor
open Go.RowKit Domi

/-- Two numbers are returned. -/
def Ret2 (a b : Int) (w : World) (e : Ending) (w' : World) : Prop := e = .returned (.tuple #[.int .i64 a, .int .i64 b]) ∧ Below w.heap.size w w'

set_option maxHeartbeats 400000 in
theorem xy_any (v : Value) (r : Reg) (c : Int) (w : World) (h : RegV w v r) (hw : 1 ≤ r.wide ∧ r.wide ≤ 1000) (hc : 0 ≤ c ∧ c ≤ 100000) :
    Calls Tryd.prog 69 #[v, .int .i64 c] w (Ret2 (c % r.wide) (c / r.wide) w) := by
  obtain ⟨a, cap, rfl, hs, hlc, hcm⟩ := h.opened
  have Hs := Lib.hid hs
  clear hs h
  have m1 := Int.emod_nonneg c (b := r.wide) (by omega)
  have m2 := Int.emod_lt_of_pos c (b := r.wide) (by omega)
  have m3 := Int.ediv_nonneg (a := c) (b := r.wide) (by omega) (by omega)
  have m4 := Int.ediv_le_self (a := c) r.wide (by omega)
  go_enter Tryd.func69, Tryd.ntmps69
  go_wp2
  go_quiet (fail)
  go_wp2
  go_ret2
  exact ⟨rfl, bel_dn (by go_grown) _⟩

/-- At the head of the loop's round. -/
def PutR (w : World) (x y : Int) (l : List Bool) (tt : Nat → Nat) (A X g : Nat) (i : Value) (wr : World) : Prop :=
  ∃ k : Nat, i = .int .i64 k ∧ k ≤ l.length ∧ Below w.heap.size w wr ∧
    wr.heap[A]? = some (.cells #[.int .i64 0, .int .i64 0, .slice none 0 0] 25 (0, 0)) ∧
    wr.heap[X]? = some (.cells #[.int .i64 x, .int .i64 y, .slice (some ⟨g, 0, none⟩) l.length l.length] 25 (0, 0)) ∧
    Own wr (w.heap.size + 2) 4 (.slice (some ⟨g, 0, none⟩) l.length l.length) ((putL tt l k).map Value.bool)

theorem putR_next {w wr w4 : World} {x y : Int} {l : List Bool} {tt : Nat → Nat} {A X g k : Nat} (hb : Below w.heap.size w wr)
    (hA : wr.heap[A]? = some (.cells #[.int .i64 0, .int .i64 0, .slice none 0 0] 25 (0, 0)))
    (hX : wr.heap[X]? = some (.cells #[.int .i64 x, .int .i64 y, .slice (some ⟨g, 0, none⟩) l.length l.length] 25 (0, 0)))
    (ho : Own wr (w.heap.size + 2) 4 (.slice (some ⟨g, 0, none⟩) l.length l.length) ((putL tt l k).map Value.bool)) (h4 : Below wr.heap.size wr w4) (hAg : A ≠ g) (hgX : g ≠ X) (hwg : w.heap.size ≤ g) (hk : k < l.length) :
    PutR w x y l tt A X g (.int .i64 ((k : Int) + 1)) (w4.setCell ⟨g, tt k, none⟩ (.bool (l.getD k false))) := by
  refine ⟨k + 1, by simp, by omega, (hb.trans (h4.mono hb.size)).setCell hwg _, ?_, ?_, ?_⟩
  · rw [heap_setCell_other _ _ _ _ (by simp; omega), h4.block _ (lt_of_heap hA)]; exact hA
  · rw [heap_setCell_other _ _ _ _ (by simp; omega), h4.block _ (lt_of_heap hX)]; exact hX
  · have := (ho.below h4).stored (tt k) (.bool (l.getD k false))
    rw [← List.map_set] at this
    exact this
theorem put_done {w wr : World} {x y : Int} {l : List Bool} {tt : Nat → Nat} {A g k : Nat} (hwA : w.heap.size ≤ A) (hAg : A < w.heap.size + 2) (hb : Below w.heap.size w wr)
    (hA : wr.heap[A]? = some (.cells #[.int .i64 0, .int .i64 0, .slice none 0 0] 25 (0, 0)))
    (ho : Own wr (w.heap.size + 2) 4 (.slice (some ⟨g, 0, none⟩) l.length l.length) ((putL tt l k).map Value.bool)) (hk : k = l.length) :
    RetR ⟨x, y, putL tt l l.length⟩ w (.returned (.agg #[.int .i64 x, .int .i64 y, .slice (some ⟨g, 0, none⟩) l.length l.length]))
      (((wr.setCell ⟨A, 0, none⟩ (.int .i64 x)).setCell ⟨A, 1, none⟩ (.int .i64 y)).setCell ⟨A, 2, none⟩ (.slice (some ⟨g, 0, none⟩) l.length l.length)) := by
  subst hk
  have o1 := Own.setCell (b := A) (Own.setCell (b := A) (Own.setCell (b := A) ho (by omega) (.int .i64 x) (o := 0) (s := none)) (by omega) (.int .i64 y) (o := 1) (s := none)) (by omega) (.slice (some ⟨g, 0, none⟩) l.length l.length) (o := 2) (s := none)
  exact ⟨_, rfl, ⟨_, rfl, o1.sl⟩, by go_grown⟩

end Go.Proofs.YtklifibiadiinaaDoor
