/- Walks: DrawAcrossMany. -/
import Derived.Test.YtbjenmfoblniaaaVDrawAc
import Derived.Test.YtbjenmfoblniaaaVWacmI
set_option linter.unusedVariables false
namespace Go.Proofs.Ytbjenmfoblniaaa
open Go.RowKit Domi

/-- A drawn region, a column and a set of rows. -/
def DrawnCS (w : World) (e : Ending) (w' : World) : Prop :=
  ∃ s r c u, e = .returned (.tuple #[.agg #[.int .i64 r.wide, .int .i64 r.tall, s], .int .i64 c, .int .i64 u]) ∧ Bl w' s r.cells ∧ RegSmall r ∧ Below w.heap.size w w'
set_option maxRecDepth 100000 in
set_option maxHeartbeats 8000000 in
theorem DrawAcrossMany_any (v : Value) (ys : List Int) (w : World) (h : Yl w v ys) (hr : ∀ i, i < ys.length → 0 ≤ ys.getD i 0 ∧ ys.getD i 0 ≤ 255) :
    Calls Try.prog 50 #[v] w (DrawnCS w) := by
  have H := Lib.hid h
  have Hr := Lib.hid hr
  have S0 := Lib.hid ((Sep.start w none).box #[.int .i64 0, .int .i64 0, .slice none 0 0] 29)
  clear h hr
  go_enter Try.func50, Try.ntmps50
  go_wp2_with (fail)
  refine (open_n v ys _ ?_ Hr.out).mono ?_
  · refine H.out.below ?_; go_grown
  rintro e w1 ⟨b, sl, zs, rfl, hb1, hb2, hr1⟩
  obtain ⟨cs1, S1⟩ := sep_open S0.out (S0.out.below hb2) hb1 hr1
  have S1 := Lib.hid S1
  have HR := Lib.hid hr1
  have hlb := rdN_lt hr1
  clear hb2 hr1
  go_wp2_with (fail)
  refine (some_n b sl zs 0 12 w1 HR.out (by omega) (by omega)).mono ?_
  rintro e w2 ⟨s, r, rfl, ho, hsm, hg, hd⟩
  obtain ⟨wd, tl, cl⟩ := r
  obtain ⟨t, rfl⟩ := Int.eq_ofNat_of_zero_le (show (0 : Int) ≤ tl from hsm.2.2.1)
  have ht6 : t ≤ 6 := by have := show (t : Int) ≤ 6 from hsm.2.2.2.1; omega
  have ho : Own w2 w1.heap.size 4 s (cl.map Value.bool) := ho
  dsimp only
  obtain ⟨cs2, S2⟩ := sep_rd S1.out 1 rfl hg hd
  have S2 := Lib.hid ((S2.add2 S1.out rfl ho).box #[.int .i64 wd, .int .i64 (t : Int), s] 29)
  have D2 := Lib.hid (rdN_alloc hd (.cells #[.int .i64 wd, .int .i64 (t : Int), s] 29))
  obtain ⟨p1, n1, rfl⟩ := ho.formM
  have hb2 := Nat.lt_of_lt_of_le hlb hg.size
  have hl37 : cl.length ≤ 37 := hsm.2.2.2.2
  obtain ⟨q, hq0, hq1, hq2, hq3⟩ := pow_in ht6
  have wq1 : IntKind.i64.wrap (q : Int) = (q : Int) := IntWalk.i64_in _ (by omega)
  have hw1 : 0 ≤ wd := hsm.1
  have hw2 : wd ≤ 6 := hsm.2.1
  clear ho hg hd
  go_wp2_with (fail)
  rename_i KK hKK
  obtain ⟨W, hW⟩ : ∃ W, W = w2.alloc (.cells #[.int .i64 wd, .int .i64 (t : Int), .slice p1 cl.length n1] 29) := ⟨_, rfl⟩
  have hs2 : w2.heap.size < W.heap.size := by rw [hW]; simp
  rw [← hW] at S2 D2 ⊢
  clear hW
  obtain ⟨x0, x1, x2, _⟩ := three_cells (S2.out.blk 3 rfl)
  obtain ⟨a0, a1, a2, e0, e1, e2⟩ := three_cells (S2.out.blk 0 rfl)
  obtain ⟨m, hm⟩ : ∃ m, wd - 1 = m := ⟨_, rfl⟩
  have wsb : IntKind.i64.wrap (wd - 1) = m := by rw [← hm]; exact IntWalk.i64_in _ (by omega)
  have h3 : m < 1 ∨ 1 ≤ m := by omega
  have hm2 := Lib.hid hm
  have hmb : -1 ≤ m ∧ m ≤ 5 := by omega
  clear hm
  have h5 : (t : Int) ≤ 6 := by omega
  have h5' : (0 : Int) ≤ (t : Int) := by omega
  have h5a : ¬ (6 : Int) < (t : Int) := by omega
  have h5b : ¬ (t : Int) < 0 := by omega
  rcases h3 with h3 | h3
  all_goals try (have h3b : ¬ m < 1 := by omega)
  all_goals
    go_region_held3 (fun w' => w'.cell? ⟨w2.heap.size, 0, none⟩ = some (.int .i64 wd) ∧ w'.cell? ⟨w2.heap.size, 1, none⟩ = some (.int .i64 (t : Int)) ∧ w'.cell? ⟨w2.heap.size, 2, none⟩ = some (.slice p1 cl.length n1))
      (first | with_reducible exact K7.out | with_reducible exact K6.out | with_reducible exact K5.out | with_reducible exact K4.out | with_reducible exact P4.out _ _ _ | (go_keep; done) | assumption)
      ((first
        | (go_at_call 66; refine (pick_n b sl zs 303 _ _ D6.out (by omega)).mono ?_; rintro e w7 ⟨k7, rfl, hk7, hg7, hd7⟩; (obtain ⟨cs7, S7⟩ := sep_rd S6.out 1 rfl hg7 hd7); (have S7 := Lib.hid S7); (have D7 := Lib.hid hd7); clear hg7 hd7 hk7; (have K7 := Lib.hid (Sep.c3 S7.out 3 rfl)); (have P4 := Lib.hid (fun x y z => Sep.c3 (S7.out.put3 0 rfl x y z) 3 rfl)); obtain ⟨z0, z1, z2, z3, z4, z5⟩ := three_cells (S7.out.blk 0 rfl))
        | (go_at_call 66; refine (pick_n b sl zs 302 _ _ D5.out (by omega)).mono ?_; rintro e w6 ⟨k6, rfl, hk6, hg6, hd6⟩; (obtain ⟨cs6, S6⟩ := sep_rd S5.out 1 rfl hg6 hd6); (have S6 := Lib.hid S6); (have D6 := Lib.hid hd6); clear hg6 hd6 hk6; (have K6 := Lib.hid (Sep.c3 S6.out 3 rfl)))
        | (go_at_call 66; refine (pick_n b sl zs 301 _ _ D4.out (by omega)).mono ?_; rintro e w5 ⟨k5, rfl, hk5, hg5, hd5⟩; (obtain ⟨cs5, S5⟩ := sep_rd S4.out 1 rfl hg5 hd5); (have S5 := Lib.hid S5); (have D5 := Lib.hid hd5); clear hg5 hd5 hk5; (have K5 := Lib.hid (Sep.c3 S5.out 3 rfl)))
        | (go_at_call 66; refine (pick_n b sl zs 300 _ _ (rdN_drew D2.out) (by omega)).mono ?_; rintro e w4 ⟨k4, rfl, hk4, hg4, hd4⟩; (obtain ⟨cs4, S4⟩ := sep_rd S2.out.drew 1 rfl hg4 hd4); (have S4 := Lib.hid S4); (have D4 := Lib.hid hd4); clear hg4 hd4 hk4; (have K4 := Lib.hid (Sep.c3 S4.out 3 rfl)))))
    all_goals
      generalize IntKind.i64.wrap (IntKind.i64.wrap (1 + k4) - IntKind.i64.wrap (k5.tdiv 19)) = C at *
      generalize IntKind.i64.wrap (k6 + IntKind.i64.wrap (IntKind.i64.wrap (k7.tdiv 39) * 64)) = U at *
      have E := S7.out.put3 0 rfl (.int .i64 wd) (.int .i64 (t : Int)) (.slice p1 cl.length n1)
      obtain ⟨q0, q1, q2, _⟩ := three_cells (E.blk 0 rfl)
      have DN : Hid (DrawnCS w (.returned (.tuple #[.agg #[.int .i64 wd, .int .i64 (t : Int), .slice p1 cl.length n1], .int .i64 C, .int .i64 U])) _) := Lib.hid ⟨_, ⟨wd, (t : Int), cl⟩, C, U, rfl, (E.own 2 rfl).sl, hsm, E.bel⟩
      have Q0 := Lib.hid q0
      have Q1 := Lib.hid q1
      have Q2 := Lib.hid q2
      clear q0 q1 q2 E x0 x1 x2 a0 a1 a2 e0 e1 e2 z0 z1 z2 z3 z4 z5
      refine hKK _ _ ?_
      apply wp_ret
      exact bodyPost_ret (by simp [results, Try.results50, go_sem, Q0.out, Q1.out, Q2.out]) rfl DN.out
end Go.Proofs.Ytbjenmfoblniaaa
