/- Walks: the functions that draw two regions. -/
import Derived.Test.YtedccoimdkehgaaPair
set_option linter.unusedVariables false
set_option linter.unusedSimpArgs false
namespace Go.Proofs.Ytedccoimdkehgaa
open Go.RowKit Domi

def DrawnP (w : World) (e : Ending) (w' : World) : Prop :=
  ∃ s u r q, e = .returned (.tuple #[.agg #[.int .i64 r.wide, .int .i64 r.tall, s], .agg #[.int .i64 q.wide, .int .i64 q.tall, u]]) ∧ Bl w' s r.cells ∧ Bl w' u q.cells ∧ RegSmall r ∧ RegSmall q ∧ Below w.heap.size w w'

set_option maxHeartbeats 400000 in
theorem DrawRegionMeet_any (v : Value) (ys : List Int) (w : World) (h : Yl w v ys) (hr : ∀ i, i < ys.length → 0 ≤ ys.getD i 0 ∧ ys.getD i 0 ≤ 255) :
    Calls Try.prog 15 #[v] w (DrawnP w) := by
  have H := Lib.hid h
  have Hr := Lib.hid hr
  have S0 : Hid (Sep w none ((w.alloc (.cells #[.int .i64 0, .int .i64 0, .slice none 0 0] 25)).alloc (.cells #[.int .i64 0, .int .i64 0, .slice none 0 0] 25)) [.box w.heap.size #[.int .i64 0, .int .i64 0, .slice none 0 0] 25, .box (w.heap.size + 1) #[.int .i64 0, .int .i64 0, .slice none 0 0] 25]) :=
    Lib.hid (by have := ((Sep.start w none).box #[.int .i64 0, .int .i64 0, .slice none 0 0] 25).box #[.int .i64 0, .int .i64 0, .slice none 0 0] 25; simpa using this)
  clear h hr
  go_enter Try.func15, Try.ntmps15
  go_wp2_with (fail)
  refine (open_n v ys _ ?_ Hr.out).mono ?_
  · refine H.out.below ?_; go_grown
  rintro e w1 ⟨b, sl, zs, rfl, hb1, hb2, hr1⟩
  have S1 := Lib.hid (S0.out.below hb2)
  have HR := Lib.hid hr1
  clear hb2 hr1
  go_wp2_with (fail)
  refine (pair_n b sl zs 0 w1 HR.out (by omega)).mono ?_
  rintro e w2 ⟨s, u, r, q, rfl, hs, hu, hr2, hq2, hg, _⟩
  have S2 := S1.out.far S0.out hb1 hg
  have T1 := S2.add S1.out hs
  have T2 := S2.add S1.out hu
  obtain ⟨p1, n1, rfl⟩ := hs.formM
  obtain ⟨p2, n2, rfl⟩ := hu.formM
  have E1 := (T1.put3 0 rfl (.int .i64 r.wide) (.int .i64 r.tall) (.slice p1 r.cells.length n1)).put3 1 rfl (.int .i64 q.wide) (.int .i64 q.tall) (.slice p2 q.cells.length n2)
  have E2 := (T2.put3 0 rfl (.int .i64 r.wide) (.int .i64 r.tall) (.slice p1 r.cells.length n1)).put3 1 rfl (.int .i64 q.wide) (.int .i64 q.tall) (.slice p2 q.cells.length n2)
  have DN : Hid (DrawnP w (.returned (.tuple #[.agg #[.int .i64 r.wide, .int .i64 r.tall, .slice p1 r.cells.length n1], .agg #[.int .i64 q.wide, .int .i64 q.tall, .slice p2 q.cells.length n2]])) _) := Lib.hid ⟨_, _, r, q, rfl, (E1.own 2 rfl).sl, (E2.own 2 rfl).sl, hr2, hq2, E1.bel⟩
  have Q3 := Lib.hid (six_cells (E1.blk 0 rfl) (E1.blk 1 rfl))
  obtain ⟨a0, a1, a2, e0, e1, e2⟩ := three_cells (S2.blk 0 rfl)
  obtain ⟨b0, b1, b2, f0, f1, f2⟩ := three_cells (S2.blk 1 rfl)
  clear S2 T1 T2 E1 E2 hs hu hg
  go_wp2
  obtain ⟨q0, q1, q2, q3, q4, q5⟩ := Q3.out
  exact bodyPost_ret (by simp [results, Try.results15, go_sem, q0, q1, q2, q3, q4, q5]) rfl DN.out

set_option maxHeartbeats 400000 in
theorem DrawRegionJoin_any (v : Value) (ys : List Int) (w : World) (h : Yl w v ys) (hr : ∀ i, i < ys.length → 0 ≤ ys.getD i 0 ∧ ys.getD i 0 ≤ 255) :
    Calls Try.prog 29 #[v] w (DrawnP w) := by
  have H := Lib.hid h
  have Hr := Lib.hid hr
  have S0 : Hid (Sep w none ((w.alloc (.cells #[.int .i64 0, .int .i64 0, .slice none 0 0] 25)).alloc (.cells #[.int .i64 0, .int .i64 0, .slice none 0 0] 25)) [.box w.heap.size #[.int .i64 0, .int .i64 0, .slice none 0 0] 25, .box (w.heap.size + 1) #[.int .i64 0, .int .i64 0, .slice none 0 0] 25]) :=
    Lib.hid (by have := ((Sep.start w none).box #[.int .i64 0, .int .i64 0, .slice none 0 0] 25).box #[.int .i64 0, .int .i64 0, .slice none 0 0] 25; simpa using this)
  clear h hr
  go_enter Try.func29, Try.ntmps29
  go_wp2_with (fail)
  refine (open_n v ys _ ?_ Hr.out).mono ?_
  · refine H.out.below ?_; go_grown
  rintro e w1 ⟨b, sl, zs, rfl, hb1, hb2, hr1⟩
  have S1 := Lib.hid (S0.out.below hb2)
  have HR := Lib.hid hr1
  clear hb2 hr1
  go_wp2_with (fail)
  refine (pair_n b sl zs 0 w1 HR.out (by omega)).mono ?_
  rintro e w2 ⟨s, u, r, q, rfl, hs, hu, hr2, hq2, hg, _⟩
  have S2 := S1.out.far S0.out hb1 hg
  have T1 := S2.add S1.out hs
  have T2 := S2.add S1.out hu
  obtain ⟨p1, n1, rfl⟩ := hs.formM
  obtain ⟨p2, n2, rfl⟩ := hu.formM
  have E1 := (T1.put3 0 rfl (.int .i64 r.wide) (.int .i64 r.tall) (.slice p1 r.cells.length n1)).put3 1 rfl (.int .i64 q.wide) (.int .i64 q.tall) (.slice p2 q.cells.length n2)
  have E2 := (T2.put3 0 rfl (.int .i64 r.wide) (.int .i64 r.tall) (.slice p1 r.cells.length n1)).put3 1 rfl (.int .i64 q.wide) (.int .i64 q.tall) (.slice p2 q.cells.length n2)
  have DN : Hid (DrawnP w (.returned (.tuple #[.agg #[.int .i64 r.wide, .int .i64 r.tall, .slice p1 r.cells.length n1], .agg #[.int .i64 q.wide, .int .i64 q.tall, .slice p2 q.cells.length n2]])) _) := Lib.hid ⟨_, _, r, q, rfl, (E1.own 2 rfl).sl, (E2.own 2 rfl).sl, hr2, hq2, E1.bel⟩
  have Q3 := Lib.hid (six_cells (E1.blk 0 rfl) (E1.blk 1 rfl))
  obtain ⟨a0, a1, a2, e0, e1, e2⟩ := three_cells (S2.blk 0 rfl)
  obtain ⟨b0, b1, b2, f0, f1, f2⟩ := three_cells (S2.blk 1 rfl)
  clear S2 T1 T2 E1 E2 hs hu hg
  go_wp2
  obtain ⟨q0, q1, q2, q3, q4, q5⟩ := Q3.out
  exact bodyPost_ret (by simp [results, Try.results29, go_sem, q0, q1, q2, q3, q4, q5]) rfl DN.out

end Go.Proofs.Ytedccoimdkehgaa
