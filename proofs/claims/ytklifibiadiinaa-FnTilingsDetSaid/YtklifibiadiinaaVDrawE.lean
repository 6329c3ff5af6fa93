/- Walks: the functions that draw one region, often tiled. -/
import Derived.Test.YtklifibiadiinaaVDrawD
import Derived.Test.YtklifibiadiinaaVSome
set_option linter.unusedVariables false
namespace Go.Proofs.Ytklifibiadiinaa
open Go.RowKit Domi

set_option maxHeartbeats 400000 in
theorem DrawSignMatrix_any (v : Value) (ys : List Int) (w : World) (h : Yl w v ys) (hr : ∀ i, i < ys.length → 0 ≤ ys.getD i 0 ∧ ys.getD i 0 ≤ 255) :
    Calls Try.prog 19 #[v] w (DrawnR w) := by
  have H := Lib.hid h
  have Hr := Lib.hid hr
  clear h hr
  go_enter Try.func19, Try.ntmps19
  go_wp2_with (fail)
  refine (open_n v ys _ ?_ Hr.out).mono ?_
  · refine H.out.below ?_; go_grown
  rintro e w1 ⟨b, sl, zs, rfl, hb1, hb2, hr1⟩
  simp at hb1
  have hA : w1.heap[w.heap.size]? = some (.cells #[.int .i64 0, .int .i64 0, .slice none 0 0] 28 (0, 0)) := by
    rw [hb2.block _ (by simp)]; exact heap_alloc_new w _
  have Hb := Lib.hid (show Below w.heap.size w w1 from Below.trans (by go_grown) (hb2.mono (by simp)))
  have HA := Lib.hid hA
  have Hr1 := Lib.hid hr1
  have hlb : b < w1.heap.size := by obtain ⟨p, _, h⟩ := hr1; exact lt_of_heap h.heap
  clear hb2 hA hr1
  go_wp2_with (fail)
  refine (some_n b sl zs 0 9 w1 Hr1.out (by omega) (by omega)).mono ?_
  rintro e w2 ⟨s2, r, rfl, ho2, hsm, hg, _⟩
  obtain ⟨p2, n2, rfl⟩ := ho2.formM
  have hv2 : RegV w2 (.agg #[.int .i64 r.wide, .int .i64 r.tall, .slice p2 r.cells.length n2]) r := ⟨_, rfl, ho2.sl⟩
  clear ho2
  obtain ⟨a, cap, hve, hs, _, _⟩ := hv2.opened
  obtain ⟨rfl, rfl⟩ : p2 = a ∧ n2 = cap := by simpa using hve
  clear hve
  have hA2 : w2.heap[w.heap.size]? = some (.cells #[.int .i64 0, .int .i64 0, .slice none 0 0] 28 (0, 0)) := by
    rw [hg.block _ (lt_of_heap HA.out) (by simp; omega)]; exact HA.out
  have DN := Lib.hid (drawn_done Hb.out hb1 hg hs hsm hA2)
  obtain ⟨q0, q1, q2, _⟩ := three_cells (put3 (x' := .int .i64 r.wide) (y' := .int .i64 r.tall) (z' := .slice p2 r.cells.length n2) hA2)
  obtain ⟨a0, a1, a2, e0, e1, e2⟩ := three_cells hA2
  have Q0 := Lib.hid q0
  have Q1 := Lib.hid q1
  have Q2 := Lib.hid q2
  clear q0 q1 q2 hA2 hg hs hv2
  go_wp2
  exact bodyPost_ret (by simp [results, Try.results19, go_sem, Q0.out, Q1.out, Q2.out]) rfl DN.out

set_option maxHeartbeats 400000 in
theorem DrawTilingsDet_any (v : Value) (ys : List Int) (w : World) (h : Yl w v ys) (hr : ∀ i, i < ys.length → 0 ≤ ys.getD i 0 ∧ ys.getD i 0 ≤ 255) :
    Calls Try.prog 32 #[v] w (DrawnR w) := by
  have H := Lib.hid h
  have Hr := Lib.hid hr
  clear h hr
  go_enter Try.func32, Try.ntmps32
  go_wp2_with (fail)
  refine (open_n v ys _ ?_ Hr.out).mono ?_
  · refine H.out.below ?_; go_grown
  rintro e w1 ⟨b, sl, zs, rfl, hb1, hb2, hr1⟩
  simp at hb1
  have hA : w1.heap[w.heap.size]? = some (.cells #[.int .i64 0, .int .i64 0, .slice none 0 0] 28 (0, 0)) := by
    rw [hb2.block _ (by simp)]; exact heap_alloc_new w _
  have Hb := Lib.hid (show Below w.heap.size w w1 from Below.trans (by go_grown) (hb2.mono (by simp)))
  have HA := Lib.hid hA
  have Hr1 := Lib.hid hr1
  have hlb : b < w1.heap.size := by obtain ⟨p, _, h⟩ := hr1; exact lt_of_heap h.heap
  clear hb2 hA hr1
  go_wp2_with (fail)
  refine (some_n b sl zs 0 9 w1 Hr1.out (by omega) (by omega)).mono ?_
  rintro e w2 ⟨s2, r, rfl, ho2, hsm, hg, _⟩
  obtain ⟨p2, n2, rfl⟩ := ho2.formM
  have hv2 : RegV w2 (.agg #[.int .i64 r.wide, .int .i64 r.tall, .slice p2 r.cells.length n2]) r := ⟨_, rfl, ho2.sl⟩
  clear ho2
  obtain ⟨a, cap, hve, hs, _, _⟩ := hv2.opened
  obtain ⟨rfl, rfl⟩ : p2 = a ∧ n2 = cap := by simpa using hve
  clear hve
  have hA2 : w2.heap[w.heap.size]? = some (.cells #[.int .i64 0, .int .i64 0, .slice none 0 0] 28 (0, 0)) := by
    rw [hg.block _ (lt_of_heap HA.out) (by simp; omega)]; exact HA.out
  have DN := Lib.hid (drawn_done Hb.out hb1 hg hs hsm hA2)
  obtain ⟨q0, q1, q2, _⟩ := three_cells (put3 (x' := .int .i64 r.wide) (y' := .int .i64 r.tall) (z' := .slice p2 r.cells.length n2) hA2)
  obtain ⟨a0, a1, a2, e0, e1, e2⟩ := three_cells hA2
  have Q0 := Lib.hid q0
  have Q1 := Lib.hid q1
  have Q2 := Lib.hid q2
  clear q0 q1 q2 hA2 hg hs hv2
  go_wp2
  exact bodyPost_ret (by simp [results, Try.results32, go_sem, Q0.out, Q1.out, Q2.out]) rfl DN.out

end Go.Proofs.Ytklifibiadiinaa
