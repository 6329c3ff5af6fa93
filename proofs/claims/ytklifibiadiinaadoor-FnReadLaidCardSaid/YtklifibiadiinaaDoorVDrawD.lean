/- Walks: the functions that draw one region. -/
import Derived.Test.YtklifibiadiinaaDoorVDrawC
set_option linter.unusedVariables false
namespace Go.Proofs.YtklifibiadiinaaDoor
open Go.RowKit Domi

/-- What is drawn: some small region. -/
def DrawnR (w : World) (e : Ending) (w' : World) : Prop := ∃ v r, e = .returned v ∧ RegV w' v r ∧ RegSmall r ∧ Below w.heap.size w w'

theorem drawn_done {w w1 w2 : World} {b : Nat} {s : Value} {r : Reg} (hb : Below w.heap.size w w1) (hb1 : w.heap.size + 1 ≤ b) (hg : w1.grownBy w2 (some b)) (hs : Bl w2 s r.cells) (hr : RegSmall r)
    (hA : w2.heap[w.heap.size]? = some (.cells #[.int .i64 0, .int .i64 0, .slice none 0 0] 25 (0, 0))) :
    DrawnR w (.returned (.agg #[.int .i64 r.wide, .int .i64 r.tall, s])) (((w2.setCell ⟨w.heap.size, 0, none⟩ (.int .i64 r.wide)).setCell ⟨w.heap.size, 1, none⟩ (.int .i64 r.tall)).setCell ⟨w.heap.size, 2, none⟩ s) := by
  have B2 : Below w.heap.size w w2 := hb.trans (below_grown hg hb.size (by simp; omega))
  obtain ⟨v, he, hv, hB⟩ := reg_done (x := r.wide) (y := r.tall) B2 hs hA (Nat.le_refl _)
  exact ⟨v, r, he, hv, hr, hB⟩

set_option maxHeartbeats 400000 in
theorem DrawRegionText_any (v : Value) (ys : List Int) (w : World) (h : Yl w v ys) (hr : ∀ i, i < ys.length → 0 ≤ ys.getD i 0 ∧ ys.getD i 0 ≤ 255) :
    Calls Tryd.prog 17 #[v] w (DrawnR w) := by
  have H := Lib.hid h
  have Hr := Lib.hid hr
  clear h hr
  go_enter Tryd.func17, Tryd.ntmps17
  go_wp2_with (fail)
  refine (open_n v ys _ ?_ Hr.out).mono ?_
  · refine H.out.below ?_; go_grown
  rintro e w1 ⟨b, sl, zs, rfl, hb1, hb2, hr1⟩
  simp at hb1
  have hA : w1.heap[w.heap.size]? = some (.cells #[.int .i64 0, .int .i64 0, .slice none 0 0] 25 (0, 0)) := by
    rw [hb2.block _ (by simp)]; exact heap_alloc_new w _
  have Hb := Lib.hid (show Below w.heap.size w w1 from Below.trans (by go_grown) (hb2.mono (by simp)))
  have HA := Lib.hid hA
  have Hr1 := Lib.hid hr1
  have hlb : b < w1.heap.size := by obtain ⟨p, _, h⟩ := hr1; exact lt_of_heap h.heap
  clear hb2 hA hr1
  go_wp2_with (fail)
  refine (region_n b sl zs 0 6 w1 Hr1.out (by omega) (by omega) hlb).mono ?_
  intro e w2 hx
  obtain ⟨v2, r, rfl, hv2, hsm, hg, _⟩ := hx.reg
  clear hx
  obtain ⟨a, cap, rfl, hs, _, _⟩ := hv2.opened
  have hA2 : w2.heap[w.heap.size]? = some (.cells #[.int .i64 0, .int .i64 0, .slice none 0 0] 25 (0, 0)) := by
    rw [hg.block _ (lt_of_heap HA.out) (by simp; omega)]; exact HA.out
  have DN := Lib.hid (drawn_done Hb.out hb1 hg hs hsm hA2)
  obtain ⟨q0, q1, q2, _⟩ := three_cells (put3 (x' := .int .i64 r.wide) (y' := .int .i64 r.tall) (z' := .slice a r.cells.length cap) hA2)
  obtain ⟨a0, a1, a2, e0, e1, e2⟩ := three_cells hA2
  have Q0 := Lib.hid q0
  have Q1 := Lib.hid q1
  have Q2 := Lib.hid q2
  clear q0 q1 q2 hA2 hg hs hv2
  go_wp2
  exact bodyPost_ret (by simp [results, Tryd.results17, go_sem, Q0.out, Q1.out, Q2.out]) rfl DN.out

end Go.Proofs.YtklifibiadiinaaDoor
