/- Walks: the functions that draw a region and a tiling of it. -/
import Derived.Test.YtcagpfnlpjfgeaaVDrawD
import Derived.Test.YtcagpfnlpjfgeaaVTilN
set_option linter.unusedVariables false
namespace Go.Proofs.Ytcagpfnlpjfgeaa
open Go.RowKit Domi

set_option maxHeartbeats 400000 in
theorem DrawTilingOk_any (v : Value) (ys : List Int) (w : World) (h : Yl w v ys) (hr : ∀ i, i < ys.length → 0 ≤ ys.getD i 0 ∧ ys.getD i 0 ≤ 255) :
    Calls Try.prog 15 #[v] w (DrawnL w) := by
  have H := Lib.hid h
  have Hr := Lib.hid hr
  clear h hr
  go_enter Try.func15, Try.ntmps15
  go_wp2_with (fail)
  refine (open_n v ys _ ?_ Hr.out).mono ?_
  · refine H.out.below ?_; go_grown
  rintro e w1 ⟨b, sl, zs, rfl, hb1, hb2, hr1⟩
  simp at hb1
  have hA : w1.heap[w.heap.size]? = some (.cells #[.int .i64 0, .int .i64 0, .slice none 0 0] 25 (0, 0)) := by
    rw [hb2.block _ (by simp)]; exact heap_alloc_new w _
  have Hb := Lib.hid (show Below w.heap.size w w1 from Below.trans (by go_grown) (hb2.mono (by simp)))
  have HA := Lib.hid hA
  have Hr1 := Lib.hid hr1
  have hlb : b < w1.heap.size := by obtain ⟨p, _, h⟩ := hr1; exact lt_of_heap h.heap
  clear hb2 hA hr1
  go_wp2_with (fail)
  refine (tiling_n b sl zs 0 w1 Hr1.out (by omega)).mono ?_
  rintro e w2 ⟨s2, r, u2, L, rfl, ho2, hu2, hsm, hl, hg, _⟩
  obtain ⟨p2, n2, rfl⟩ := ho2.formM
  obtain ⟨p3, n3, rfl, _, _, _⟩ := hu2.il.opened
  have hA2 : w2.heap[w.heap.size]? = some (.cells #[.int .i64 0, .int .i64 0, .slice none 0 0] 25 (0, 0)) := by
    rw [hg.block _ (lt_of_heap HA.out) (by simp; omega)]; exact HA.out
  have DN : Hid (DrawnL w (.returned (.tuple #[.agg #[.int .i64 r.wide, .int .i64 r.tall, .slice p2 r.cells.length n2], .slice p3 L.length n3])) (((w2.setCell ⟨w.heap.size, 0, none⟩ (.int .i64 r.wide)).setCell ⟨w.heap.size, 1, none⟩ (.int .i64 r.tall)).setCell ⟨w.heap.size, 2, none⟩ (.slice p2 r.cells.length n2))) := Lib.hid (by
    have B2 : Below w.heap.size w w2 := Hb.out.trans (below_grown hg Hb.out.size (by simp; omega))
    obtain ⟨v, he, hv, hB'⟩ := reg_done (x := r.wide) (y := r.tall) B2 ho2.sl hA2 (Nat.le_refl _)
    cases he
    exact ⟨_, _, r, L, rfl, hv, (hu2.kb (kb_box hA2) (by decide) (by decide)).il, hsm, hl, hB'⟩)
  obtain ⟨q0, q1, q2, _⟩ := three_cells (put3 (x' := .int .i64 r.wide) (y' := .int .i64 r.tall) (z' := .slice p2 r.cells.length n2) hA2)
  obtain ⟨a0, a1, a2, e0, e1, e2⟩ := three_cells hA2
  have Q0 := Lib.hid q0
  have Q1 := Lib.hid q1
  have Q2 := Lib.hid q2
  clear q0 q1 q2 hA2 hg ho2 hu2
  go_wp2
  exact bodyPost_ret (by simp [results, Try.results15, go_sem, Q0.out, Q1.out, Q2.out]) rfl DN.out

set_option maxHeartbeats 400000 in
theorem DrawFlatMany_any (v : Value) (ys : List Int) (w : World) (h : Yl w v ys) (hr : ∀ i, i < ys.length → 0 ≤ ys.getD i 0 ∧ ys.getD i 0 ≤ 255) :
    Calls Try.prog 24 #[v] w (DrawnL w) := by
  have H := Lib.hid h
  have Hr := Lib.hid hr
  clear h hr
  go_enter Try.func24, Try.ntmps24
  go_wp2_with (fail)
  refine (open_n v ys _ ?_ Hr.out).mono ?_
  · refine H.out.below ?_; go_grown
  rintro e w1 ⟨b, sl, zs, rfl, hb1, hb2, hr1⟩
  simp at hb1
  have hA : w1.heap[w.heap.size]? = some (.cells #[.int .i64 0, .int .i64 0, .slice none 0 0] 25 (0, 0)) := by
    rw [hb2.block _ (by simp)]; exact heap_alloc_new w _
  have Hb := Lib.hid (show Below w.heap.size w w1 from Below.trans (by go_grown) (hb2.mono (by simp)))
  have HA := Lib.hid hA
  have Hr1 := Lib.hid hr1
  have hlb : b < w1.heap.size := by obtain ⟨p, _, h⟩ := hr1; exact lt_of_heap h.heap
  clear hb2 hA hr1
  go_wp2_with (fail)
  refine (tiling_n b sl zs 0 w1 Hr1.out (by omega)).mono ?_
  rintro e w2 ⟨s2, r, u2, L, rfl, ho2, hu2, hsm, hl, hg, _⟩
  obtain ⟨p2, n2, rfl⟩ := ho2.formM
  obtain ⟨p3, n3, rfl, _, _, _⟩ := hu2.il.opened
  have hA2 : w2.heap[w.heap.size]? = some (.cells #[.int .i64 0, .int .i64 0, .slice none 0 0] 25 (0, 0)) := by
    rw [hg.block _ (lt_of_heap HA.out) (by simp; omega)]; exact HA.out
  have DN : Hid (DrawnL w (.returned (.tuple #[.agg #[.int .i64 r.wide, .int .i64 r.tall, .slice p2 r.cells.length n2], .slice p3 L.length n3])) (((w2.setCell ⟨w.heap.size, 0, none⟩ (.int .i64 r.wide)).setCell ⟨w.heap.size, 1, none⟩ (.int .i64 r.tall)).setCell ⟨w.heap.size, 2, none⟩ (.slice p2 r.cells.length n2))) := Lib.hid (by
    have B2 : Below w.heap.size w w2 := Hb.out.trans (below_grown hg Hb.out.size (by simp; omega))
    obtain ⟨v, he, hv, hB'⟩ := reg_done (x := r.wide) (y := r.tall) B2 ho2.sl hA2 (Nat.le_refl _)
    cases he
    exact ⟨_, _, r, L, rfl, hv, (hu2.kb (kb_box hA2) (by decide) (by decide)).il, hsm, hl, hB'⟩)
  obtain ⟨q0, q1, q2, _⟩ := three_cells (put3 (x' := .int .i64 r.wide) (y' := .int .i64 r.tall) (z' := .slice p2 r.cells.length n2) hA2)
  obtain ⟨a0, a1, a2, e0, e1, e2⟩ := three_cells hA2
  have Q0 := Lib.hid q0
  have Q1 := Lib.hid q1
  have Q2 := Lib.hid q2
  clear q0 q1 q2 hA2 hg ho2 hu2
  go_wp2
  exact bodyPost_ret (by simp [results, Try.results24, go_sem, Q0.out, Q1.out, Q2.out]) rfl DN.out

set_option maxHeartbeats 400000 in
theorem DrawFaultsOf_any (v : Value) (ys : List Int) (w : World) (h : Yl w v ys) (hr : ∀ i, i < ys.length → 0 ≤ ys.getD i 0 ∧ ys.getD i 0 ≤ 255) :
    Calls Try.prog 29 #[v] w (DrawnL w) := by
  have H := Lib.hid h
  have Hr := Lib.hid hr
  clear h hr
  go_enter Try.func29, Try.ntmps29
  go_wp2_with (fail)
  refine (open_n v ys _ ?_ Hr.out).mono ?_
  · refine H.out.below ?_; go_grown
  rintro e w1 ⟨b, sl, zs, rfl, hb1, hb2, hr1⟩
  simp at hb1
  have hA : w1.heap[w.heap.size]? = some (.cells #[.int .i64 0, .int .i64 0, .slice none 0 0] 25 (0, 0)) := by
    rw [hb2.block _ (by simp)]; exact heap_alloc_new w _
  have Hb := Lib.hid (show Below w.heap.size w w1 from Below.trans (by go_grown) (hb2.mono (by simp)))
  have HA := Lib.hid hA
  have Hr1 := Lib.hid hr1
  have hlb : b < w1.heap.size := by obtain ⟨p, _, h⟩ := hr1; exact lt_of_heap h.heap
  clear hb2 hA hr1
  go_wp2_with (fail)
  refine (tiling_n b sl zs 0 w1 Hr1.out (by omega)).mono ?_
  rintro e w2 ⟨s2, r, u2, L, rfl, ho2, hu2, hsm, hl, hg, _⟩
  obtain ⟨p2, n2, rfl⟩ := ho2.formM
  obtain ⟨p3, n3, rfl, _, _, _⟩ := hu2.il.opened
  have hA2 : w2.heap[w.heap.size]? = some (.cells #[.int .i64 0, .int .i64 0, .slice none 0 0] 25 (0, 0)) := by
    rw [hg.block _ (lt_of_heap HA.out) (by simp; omega)]; exact HA.out
  have DN : Hid (DrawnL w (.returned (.tuple #[.agg #[.int .i64 r.wide, .int .i64 r.tall, .slice p2 r.cells.length n2], .slice p3 L.length n3])) (((w2.setCell ⟨w.heap.size, 0, none⟩ (.int .i64 r.wide)).setCell ⟨w.heap.size, 1, none⟩ (.int .i64 r.tall)).setCell ⟨w.heap.size, 2, none⟩ (.slice p2 r.cells.length n2))) := Lib.hid (by
    have B2 : Below w.heap.size w w2 := Hb.out.trans (below_grown hg Hb.out.size (by simp; omega))
    obtain ⟨v, he, hv, hB'⟩ := reg_done (x := r.wide) (y := r.tall) B2 ho2.sl hA2 (Nat.le_refl _)
    cases he
    exact ⟨_, _, r, L, rfl, hv, (hu2.kb (kb_box hA2) (by decide) (by decide)).il, hsm, hl, hB'⟩)
  obtain ⟨q0, q1, q2, _⟩ := three_cells (put3 (x' := .int .i64 r.wide) (y' := .int .i64 r.tall) (z' := .slice p2 r.cells.length n2) hA2)
  obtain ⟨a0, a1, a2, e0, e1, e2⟩ := three_cells hA2
  have Q0 := Lib.hid q0
  have Q1 := Lib.hid q1
  have Q2 := Lib.hid q2
  clear q0 q1 q2 hA2 hg ho2 hu2
  go_wp2
  exact bodyPost_ret (by simp [results, Try.results29, go_sem, Q0.out, Q1.out, Q2.out]) rfl DN.out

end Go.Proofs.Ytcagpfnlpjfgeaa
