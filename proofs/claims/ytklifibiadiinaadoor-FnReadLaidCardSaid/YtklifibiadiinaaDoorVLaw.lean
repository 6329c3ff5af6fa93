/- Words for the walks of laws: a region's variable, and what a call leaves of it. -/
import Derived.Test.YtklifibiadiinaaDoorZa
set_option linter.unusedVariables false
namespace Go.Proofs.YtklifibiadiinaaDoor
open Go.RowKit Domi

/-- The variable at block X holds the region r, whose cells are the slice s. -/
structure RB (W : World) (X : Nat) (r : Reg) (s : Value) : Prop where
  box : W.heap[X]? = some (.cells #[.int .i64 r.wide, .int .i64 r.tall, s] 25 (0, 0))
  bl : Bl W s r.cells
theorem RB.on {W W' : World} {X : Nat} {r : Reg} {s : Value} (h : RB W X r s) (hb : Below W.heap.size W W') : RB W' X r s :=
  ⟨by rw [hb.block _ (lt_of_heap h.box)]; exact h.box, h.bl.below hb⟩
theorem RB.new {W : World} {r : Reg} {s : Value} (h : Bl W s r.cells) : RB (W.alloc (.cells #[.int .i64 r.wide, .int .i64 r.tall, s] 25)) W.heap.size r s :=
  ⟨heap_alloc_new W _, h.below ((Below.refl _ _).alloc (Nat.le_refl _) _)⟩
theorem RB.c3 {W : World} {X : Nat} {r : Reg} {s : Value} (h : RB W X r s) : W.cell? ⟨X, 0, none⟩ = some (.int .i64 r.wide) ∧ W.cell? ⟨X, 1, none⟩ = some (.int .i64 r.tall) ∧ W.cell? ⟨X, 2, none⟩ = some s :=
  ⟨(three_cells h.box).1, (three_cells h.box).2.1, (three_cells h.box).2.2.1⟩
theorem RB.lt {W : World} {X : Nat} {r : Reg} {s : Value} (h : RB W X r s) : X < W.heap.size := lt_of_heap h.box
theorem RB.v {W : World} {X : Nat} {r : Reg} {s : Value} (h : RB W X r s) : RegV W (.agg #[.int .i64 r.wide, .int .i64 r.tall, s]) r := ⟨_, rfl, h.bl⟩
theorem many_bd (r : Reg) : -1 ≤ r.many ∧ r.many ≤ 24 := by
  cases hv : r.valid
  · rw [Reg.many_no hv]; omega
  · obtain ⟨_, _, _, h4⟩ := Reg.valid_iff.1 hv
    have := cnt_le r.cells
    rw [Reg.many_yes hv]; omega
theorem bl_cell {w : World} {a : Option Addr} {n c : Nat} {l : List Bool} (h : Bl w (.slice a n c) l) {k : Nat} (hk : k < l.length) :
    n = l.length ∧ n ≤ c ∧ c ≤ 9223372036854775807 ∧ ∃ b off, a = some ⟨b, off, none⟩ ∧ b < w.heap.size ∧ w.cell? ⟨b, off + k, none⟩ = some (.bool (l.getD k false)) := by
  obtain ⟨a', c', e, h1, h2, h3⟩ := h.opened
  simp only [Value.slice.injEq] at e
  obtain ⟨rfl, rfl, rfl⟩ := e
  rcases h3 with rfl | ⟨b, off, rfl, hl, hc⟩
  · simp at hk
  · exact ⟨rfl, h1, h2, b, off, rfl, hl, hc k hk⟩
theorem below_alloc (W : World) (o : Obj) : Below W.heap.size W (W.alloc o) := (Below.refl _ _).alloc (Nat.le_refl _) o
end Go.Proofs.YtklifibiadiinaaDoor
