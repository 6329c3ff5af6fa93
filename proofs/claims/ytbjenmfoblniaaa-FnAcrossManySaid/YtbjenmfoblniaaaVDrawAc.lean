/- Walks: DrawAcrossSum. -/
import Derived.Test.YtbjenmfoblniaaaVDrawTo
set_option linter.unusedVariables false
namespace Go.Proofs.Ytbjenmfoblniaaa
open Go.RowKit Domi

/-- A drawn region and a column. -/
def DrawnC (w : World) (e : Ending) (w' : World) : Prop :=
  ∃ s r c, e = .returned (.tuple #[.agg #[.int .i64 r.wide, .int .i64 r.tall, s], .int .i64 c]) ∧ Bl w' s r.cells ∧ RegSmall r ∧ (0 ≤ c ∧ c ≤ 1000) ∧ Below w.heap.size w w'
set_option maxRecDepth 100000 in
set_option maxHeartbeats 1000000 in
theorem DrawAcrossSum_any (v : Value) (ys : List Int) (w : World) (h : Yl w v ys) (hr : ∀ i, i < ys.length → 0 ≤ ys.getD i 0 ∧ ys.getD i 0 ≤ 255) :
    Calls Try.prog 47 #[v] w (DrawnC w) := by
  have H := Lib.hid h
  have Hr := Lib.hid hr
  have S0 := Lib.hid ((Sep.start w none).box #[.int .i64 0, .int .i64 0, .slice none 0 0] 29)
  clear h hr
  go_enter Try.func47, Try.ntmps47
  go_wp2_with (fail)
  refine (open_n v ys _ ?_ Hr.out).mono ?_
  · refine H.out.below ?_; go_grown
  rintro e w1 ⟨b, sl, zs, rfl, hb1, hb2, hr1⟩
  obtain ⟨cs1, S1⟩ := sep_open S0.out (S0.out.below hb2) hb1 hr1
  have S1 := Lib.hid S1
  have HR := Lib.hid hr1
  have hlb := rdN_lt hr1
  clear hb2 hr1
  go_wp2_with (fail)
  refine (some_n b sl zs 0 12 w1 HR.out (by omega) (by omega)).mono ?_
  rintro e w2 ⟨s, r, rfl, ho, hsm, hg, hd⟩
  obtain ⟨cs2, S2⟩ := sep_rd S1.out 1 rfl hg hd
  have S2 := Lib.hid ((S2.add2 S1.out rfl ho).box #[.int .i64 r.wide, .int .i64 r.tall, s] 29)
  have D2 := Lib.hid (rdN_alloc hd (.cells #[.int .i64 r.wide, .int .i64 r.tall, s] 29))
  obtain ⟨p1, n1, rfl⟩ := ho.formM
  have hb2 := Nat.lt_of_lt_of_le hlb hg.size
  have hl37 : r.cells.length ≤ 37 := hsm.2.2.2.2
  have hw1 := hsm.1
  have hw2 := hsm.2.1
  clear ho hg hd
  go_wp2_with (fail)
  obtain ⟨W, hW⟩ : ∃ W, W = w2.alloc (.cells #[.int .i64 r.wide, .int .i64 r.tall, .slice p1 r.cells.length n1] 29) := ⟨_, rfl⟩
  have hs2 : w2.heap.size < W.heap.size := by rw [hW]; simp
  rw [← hW] at S2 D2 ⊢
  clear hW
  obtain ⟨x0, x1, x2, _⟩ := three_cells (S2.out.blk 3 rfl)
  obtain ⟨a0, a1, a2, e0, e1, e2⟩ := three_cells (S2.out.blk 0 rfl)
  obtain ⟨m, hm⟩ : ∃ m, r.wide - 1 = m := ⟨_, rfl⟩
  have wsb : IntKind.i64.wrap (r.wide - 1) = m := by rw [← hm]; exact IntWalk.i64_in _ (by omega)
  have h3 : m < 1 ∨ m = 1 ∨ 1 < m := by omega
  have hm2 := Lib.hid hm
  have hmb : -1 ≤ m ∧ m ≤ 5 := by omega
  clear hm
  rcases h3 with h3 | h3 | h3
  all_goals
    go_region_held3 (fun w' => w'.cell? ⟨w2.heap.size, 0, none⟩ = some (.int .i64 r.wide) ∧ w'.cell? ⟨w2.heap.size, 1, none⟩ = some (.int .i64 r.tall) ∧ w'.cell? ⟨w2.heap.size, 2, none⟩ = some (.slice p1 r.cells.length n1))
      (first | with_reducible exact K5.out | with_reducible exact K4.out | with_reducible exact K3.out | with_reducible exact P4.out _ _ _ | (go_keep; done) | assumption)
      ((first
        | (go_at_call 66; refine (pick_n b sl zs 301 _ _ D4.out (by omega)).mono ?_; rintro e w5 ⟨k5, rfl, hk5, hg5, hd5⟩; (obtain ⟨cs5, S5⟩ := sep_rd S4.out 1 rfl hg5 hd5); (have S5 := Lib.hid S5); clear hg5 hd5; (have K5 := Lib.hid (Sep.c3 S5.out 3 rfl)); (have P4 := Lib.hid (fun x y z => Sep.c3 (S5.out.put3 0 rfl x y z) 3 rfl)); (have q5 : 0 ≤ k5.tdiv 19 ∧ k5.tdiv 19 ≤ 1 := tdiv19 hk5); obtain ⟨z0, z1, z2, z3, z4, z5⟩ := three_cells (S5.out.blk 0 rfl))
        | (go_at_call 66; refine (pick_n b sl zs 300 _ _ (rdN_drew D2.out) (by omega)).mono ?_; rintro e w4 ⟨k4, rfl, hk4, hg4, hd4⟩; (obtain ⟨cs4, S4⟩ := sep_rd S2.out.drew 1 rfl hg4 hd4); (have S4 := Lib.hid S4); (have D4 := Lib.hid hd4); clear hg4 hd4; (have K4 := Lib.hid (Sep.c3 S4.out 3 rfl)))))
    have hk4b : 0 ≤ k4 ∧ k4 ≤ 6 := by
      obtain ⟨p, q⟩ := hk4
      revert q
      (repeat' split) <;> intro q <;> omega
    clear hk4
    have ec : IntKind.i64.wrap (IntKind.i64.wrap (1 + k4) - IntKind.i64.wrap (k5.tdiv 19)) = 1 + k4 - k5.tdiv 19 := by
      rw [IntWalk.i64_in (k5.tdiv 19) (by omega), IntWalk.i64_in (1 + k4) (by omega)]; exact IntWalk.i64_in _ (by omega)
    have hc : 0 ≤ IntKind.i64.wrap (IntKind.i64.wrap (1 + k4) - IntKind.i64.wrap (k5.tdiv 19)) ∧ IntKind.i64.wrap (IntKind.i64.wrap (1 + k4) - IntKind.i64.wrap (k5.tdiv 19)) ≤ 1000 := by rw [ec]; omega
    generalize IntKind.i64.wrap (IntKind.i64.wrap (1 + k4) - IntKind.i64.wrap (k5.tdiv 19)) = C at *
    have E := S5.out.put3 0 rfl (.int .i64 r.wide) (.int .i64 r.tall) (.slice p1 r.cells.length n1)
    obtain ⟨q0, q1, q2, _⟩ := three_cells (E.blk 0 rfl)
    have DN : Hid (DrawnC w (.returned (.tuple #[.agg #[.int .i64 r.wide, .int .i64 r.tall, .slice p1 r.cells.length n1], .int .i64 C])) _) := Lib.hid ⟨_, r, C, rfl, (E.own 2 rfl).sl, hsm, hc, E.bel⟩
    have Q0 := Lib.hid q0
    have Q1 := Lib.hid q1
    have Q2 := Lib.hid q2
    clear q0 q1 q2 E ec hc x0 x1 x2 a0 a1 a2 e0 e1 e2 z0 z1 z2 z3 z4 z5
    go_wp2
    exact bodyPost_ret (by simp [results, Try.results47, go_sem, Q0.out, Q1.out, Q2.out]) rfl DN.out
end Go.Proofs.Ytbjenmfoblniaaa
