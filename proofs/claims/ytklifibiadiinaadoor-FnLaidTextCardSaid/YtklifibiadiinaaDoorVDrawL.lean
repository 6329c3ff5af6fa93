/- Walks: the functions that draw a region and a list of dominoes. -/
import Derived.Test.YtklifibiadiinaaDoorVDrawD
import Derived.Test.YtklifibiadiinaaDoorVLaid
set_option linter.unusedVariables false
namespace Go.Proofs.YtklifibiadiinaaDoor
open Go.RowKit Domi

/-- What is drawn: a small region and a list. -/
def DrawnL (w : World) (e : Ending) (w' : World) : Prop := ∃ (v u : Value) (r : Reg) (L : List Int), e = .returned (.tuple #[v, u]) ∧ RegV w' v r ∧ Il w' u L ∧ RegSmall r ∧ L.length ≤ 37 ∧ Below w.heap.size w w'
theorem drawnL_done {w w1 w2 : World} {b B : Nat} {s u : Value} {r : Reg} {L : List Int} (hb : Below w.heap.size w w1) (hb1 : w.heap.size + 1 ≤ b) (hg : w1.grownBy w2 (some b)) (hs : Bl w2 s r.cells) (hr : RegSmall r) (hu : Own w2 B 3 u (L.map (Value.int .i64))) (hB : w.heap.size < B) (hl : L.length ≤ 37)
    (hA : w2.heap[w.heap.size]? = some (.cells #[.int .i64 0, .int .i64 0, .slice none 0 0] 25 (0, 0))) :
    DrawnL w (.returned (.tuple #[.agg #[.int .i64 r.wide, .int .i64 r.tall, s], u])) (((w2.setCell ⟨w.heap.size, 0, none⟩ (.int .i64 r.wide)).setCell ⟨w.heap.size, 1, none⟩ (.int .i64 r.tall)).setCell ⟨w.heap.size, 2, none⟩ s) := by
  have B2 : Below w.heap.size w w2 := hb.trans (below_grown hg hb.size (by simp; omega))
  obtain ⟨v, he, hv, hB'⟩ := reg_done (x := r.wide) (y := r.tall) B2 hs hA (Nat.le_refl _)
  cases he
  exact ⟨_, u, r, L, rfl, hv, own_il (((hu.setCell hB _).setCell hB _).setCell hB _), hr, hl, hB'⟩

set_option maxHeartbeats 400000 in
theorem DrawLaidText_any (v : Value) (ys : List Int) (w : World) (h : Yl w v ys) (hr : ∀ i, i < ys.length → 0 ≤ ys.getD i 0 ∧ ys.getD i 0 ≤ 255) :
    Calls Tryd.prog 7 #[v] w (DrawnL w) := by
  have H := Lib.hid h
  have Hr := Lib.hid hr
  clear h hr
  go_enter Tryd.func7, Tryd.ntmps7
  go_wp2_with (fail)
  refine (open_n v ys _ ?_ Hr.out).mono ?_
  · refine H.out.below ?_; go_grown
  rintro e w1 ⟨b, sl, zs, rfl, hb1, hb2, hr1⟩
  simp at hb1
  have hA : w1.heap[w.heap.size]? = some (.cells #[.int .i64 0, .int .i64 0, .slice none 0 0] 25 (0, 0)) := by
    rw [hb2.block _ (by simp)]; exact heap_alloc_new w _
  have Hb := Lib.hid (show Below w.heap.size w w1 from Below.trans (by go_grown) (hb2.mono (by simp)))
  have HA := Lib.hid hA
  have Hr1 := Lib.hid hr1
  have hlb : b < w1.heap.size := by obtain ⟨p, _, h⟩ := hr1; exact lt_of_heap h.heap
  clear hb2 hA hr1
  go_wp2_with (fail)
  refine (laid_n b sl zs 0 9 w1 Hr1.out (by omega) (by omega)).mono ?_
  rintro e w2 ⟨s2, r, u2, L, rfl, ho2, hu2, hsm, hl, hg, _⟩
  obtain ⟨p2, n2, rfl⟩ := ho2.formM
  obtain ⟨p3, n3, rfl⟩ := hu2.formM
  have hA2 : w2.heap[w.heap.size]? = some (.cells #[.int .i64 0, .int .i64 0, .slice none 0 0] 25 (0, 0)) := by
    rw [hg.block _ (lt_of_heap HA.out) (by simp; omega)]; exact HA.out
  have DN := Lib.hid (drawnL_done Hb.out hb1 hg ho2.sl hsm hu2 (by have := lt_of_heap HA.out; exact this) hl hA2)
  obtain ⟨q0, q1, q2, _⟩ := three_cells (put3 (x' := .int .i64 r.wide) (y' := .int .i64 r.tall) (z' := .slice p2 r.cells.length n2) hA2)
  obtain ⟨a0, a1, a2, e0, e1, e2⟩ := three_cells hA2
  have Q0 := Lib.hid q0
  have Q1 := Lib.hid q1
  have Q2 := Lib.hid q2
  clear q0 q1 q2 hA2 hg ho2 hu2
  go_wp2
  exact bodyPost_ret (by simp [results, Tryd.results7, go_sem, Q0.out, Q1.out, Q2.out]) rfl DN.out

end Go.Proofs.YtklifibiadiinaaDoor
