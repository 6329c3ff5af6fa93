/- Walks: DrawLiftOne, DrawLayOne. -/
import Derived.Test.YtnmoaecihmjnnaaVDrawSet
import Derived.Test.YtnmoaecihmjnnaaVDrawL
namespace Go.Proofs.Ytnmoaecihmjnnaa
open Go.RowKit Domi

/-- A drawn region, a list and a cell; and a direction. -/
def DrawnL1 (w : World) (e : Ending) (w' : World) : Prop := ∃ (v u : Value) (r : Reg) (L : List Int) (c : Int), e = .returned (.tuple #[v, u, .int .i64 c]) ∧ RegV w' v r ∧ Il w' u L ∧ RegSmall r ∧ L.length ≤ 37 ∧ (-2 ≤ c ∧ c ≤ 100) ∧ Below w.heap.size w w'
def DrawnL2 (w : World) (e : Ending) (w' : World) : Prop := ∃ (v u : Value) (r : Reg) (L : List Int) (c way : Int), e = .returned (.tuple #[v, u, .int .i64 c, .int .i64 way]) ∧ RegV w' v r ∧ Il w' u L ∧ RegSmall r ∧ L.length ≤ 37 ∧ (-2 ≤ c ∧ c ≤ 100) ∧ (0 ≤ way ∧ way ≤ 5) ∧ Below w.heap.size w w'
set_option maxRecDepth 100000 in
set_option maxHeartbeats 2000000 in
theorem DrawLiftOne_any (v : Value) (ys : List Int) (w : World) (h : Yl w v ys) (hr : ∀ i, i < ys.length → 0 ≤ ys.getD i 0 ∧ ys.getD i 0 ≤ 255) :
    Calls Try.prog 35 #[v] w (DrawnL1 w) := by
  have H := Lib.hid h
  have Hr := Lib.hid hr
  have S0 := Lib.hid ((Sep.start w none).box #[.int .i64 0, .int .i64 0, .slice none 0 0] 25)
  clear h hr
  go_enter Try.func35, Try.ntmps35
  go_wp2_with (fail)
  refine (open_n v ys _ ?_ Hr.out).mono ?_
  · refine H.out.below ?_; go_grown
  rintro e w1 ⟨b, sl, zs, rfl, hb1, hb2, hr1⟩
  obtain ⟨cs1, S1⟩ := sep_open S0.out (S0.out.below hb2) hb1 hr1
  have S1 := Lib.hid S1
  have HR := Lib.hid hr1
  have hlb := rdN_lt hr1
  have hwb : w.heap.size < w1.heap.size := S1.out.lt 0 rfl rfl
  clear hb2 hr1
  go_wp2_with (fail)
  refine (laid_n b sl zs 0 12 w1 HR.out (by omega) (by omega)).mono ?_
  rintro e w2 ⟨s, r, u, L, rfl, ho, hu, hsm, hl37, hg, hd⟩
  obtain ⟨cs2, S2⟩ := sep_rd S1.out 1 rfl hg hd
  have S2 := Lib.hid ((S2.add2 S1.out rfl ho).box #[.int .i64 r.wide, .int .i64 r.tall, s] 25)
  have D2 := Lib.hid (rdN_alloc hd (.cells #[.int .i64 r.wide, .int .i64 r.tall, s] 25))
  have U2 := hu.alloc (.cells #[.int .i64 r.wide, .int .i64 r.tall, s] 25)
  obtain ⟨p1, n1, rfl⟩ := ho.formM
  obtain ⟨p2, n2, rfl⟩ := hu.formM
  have hb2 := Nat.lt_of_lt_of_le hlb hg.size
  have hl37r : r.cells.length ≤ 37 := hsm.2.2.2.2
  clear ho hg hd hu
  go_wp2_with (fail)
  obtain ⟨W, hW⟩ : ∃ W, W = w2.alloc (.cells #[.int .i64 r.wide, .int .i64 r.tall, .slice p1 r.cells.length n1] 25) := ⟨_, rfl⟩
  have hs2 : w2.heap.size < W.heap.size := by rw [hW]; simp
  rw [← hW] at S2 D2 U2 ⊢
  have U2 := Lib.hid U2
  clear hW
  have wl : IntKind.i64.wrap ((L.length : Int) + 1) = (L.length : Int) + 1 := IntWalk.i64_in _ (by omega)
  obtain ⟨x0, x1, x2, _⟩ := three_cells (S2.out.blk 3 rfl)
  obtain ⟨a0, a1, a2, e0, e1, e2⟩ := three_cells (S2.out.blk 0 rfl)
  go_region_held3 (fun w' => w'.cell? ⟨w2.heap.size, 0, none⟩ = some (.int .i64 r.wide) ∧ w'.cell? ⟨w2.heap.size, 1, none⟩ = some (.int .i64 r.tall) ∧ w'.cell? ⟨w2.heap.size, 2, none⟩ = some (.slice p1 r.cells.length n1))
    (first | with_reducible exact K5.out | with_reducible exact K4.out | with_reducible exact K3.out | with_reducible exact P4.out _ _ _ | (go_keep; done) | assumption)
    ((first
      | (go_at_call 82; refine (pick_n b sl zs 501 _ _ D3.out (by omega)).mono ?_; rintro e w4 ⟨k4, rfl, hk4, hg4, hd4⟩; (have U4 := Lib.hid (U3.out.grown hg4 (fun k e => by cases e; exact hlb))); (obtain ⟨cs4, S4⟩ := sep_rd S3.out 1 rfl hg4 hd4); (have S4 := Lib.hid S4); clear hg4 hd4; (have K4 := Lib.hid (Sep.c3 S4.out 3 rfl)); (have q4 : 0 ≤ k4.tdiv 19 ∧ k4.tdiv 19 ≤ 1 := tdiv19 hk4); (have P4 := Lib.hid (fun x y z => Sep.c3 (S4.out.put3 0 rfl x y z) 3 rfl)); obtain ⟨z0, z1, z2, z3, z4, z5⟩ := three_cells (S4.out.blk 0 rfl))
      | (go_at_call 82; refine (pick_n b sl zs 500 _ _ (rdN_drew D2.out) (by omega)).mono ?_; rintro e w3 ⟨k3, rfl, hk3, hg3, hd3⟩; (have U3 := Lib.hid (U2.out.drew.grown hg3 (fun k e => by cases e; exact hlb))); (have D3 := Lib.hid hd3); (obtain ⟨cs3, S3⟩ := sep_rd S2.out.drew 1 rfl hg3 hd3); (have S3 := Lib.hid S3); clear hg3 hd3; (have K3 := Lib.hid (Sep.c3 S3.out 3 rfl)))))
  have ec : IntKind.i64.wrap (k3 - IntKind.i64.wrap (k4.tdiv 19)) = k3 - k4.tdiv 19 := by
    rw [IntWalk.i64_in (k4.tdiv 19) (by omega)]; exact IntWalk.i64_in _ (by omega)
  have hc : -2 ≤ IntKind.i64.wrap (k3 - IntKind.i64.wrap (k4.tdiv 19)) ∧ IntKind.i64.wrap (k3 - IntKind.i64.wrap (k4.tdiv 19)) ≤ 100 := by rw [ec]; omega
  generalize IntKind.i64.wrap (k3 - IntKind.i64.wrap (k4.tdiv 19)) = C at *
  have E := S4.out.put3 0 rfl (.int .i64 r.wide) (.int .i64 r.tall) (.slice p1 r.cells.length n1)
  obtain ⟨q0, q1, q2, _⟩ := three_cells (E.blk 0 rfl)
  have DN : Hid (DrawnL1 w (.returned (.tuple #[.agg #[.int .i64 r.wide, .int .i64 r.tall, .slice p1 r.cells.length n1], .slice p2 L.length n2, .int .i64 C])) _) := Lib.hid ⟨_, _, r, L, C, rfl, ⟨_, rfl, (E.own 2 rfl).sl⟩, own_il (((U4.out.setCell hwb _).setCell hwb _).setCell hwb _), hsm, hl37, hc, E.bel⟩
  have Q0 := Lib.hid q0
  have Q1 := Lib.hid q1
  have Q2 := Lib.hid q2
  clear q0 q1 q2 E wl ec hc x0 x1 x2 a0 a1 a2 e0 e1 e2 z0 z1 z2 z3 z4 z5
  go_wp2
  exact bodyPost_ret (by simp [results, Try.results35, go_sem, Q0.out, Q1.out, Q2.out]) rfl DN.out
set_option maxRecDepth 100000 in
set_option maxHeartbeats 2000000 in
theorem DrawLayOne_any (v : Value) (ys : List Int) (w : World) (h : Yl w v ys) (hr : ∀ i, i < ys.length → 0 ≤ ys.getD i 0 ∧ ys.getD i 0 ≤ 255) :
    Calls Try.prog 42 #[v] w (DrawnL2 w) := by
  have H := Lib.hid h
  have Hr := Lib.hid hr
  have S0 := Lib.hid ((Sep.start w none).box #[.int .i64 0, .int .i64 0, .slice none 0 0] 25)
  clear h hr
  go_enter Try.func42, Try.ntmps42
  go_wp2_with (fail)
  refine (open_n v ys _ ?_ Hr.out).mono ?_
  · refine H.out.below ?_; go_grown
  rintro e w1 ⟨b, sl, zs, rfl, hb1, hb2, hr1⟩
  obtain ⟨cs1, S1⟩ := sep_open S0.out (S0.out.below hb2) hb1 hr1
  have S1 := Lib.hid S1
  have HR := Lib.hid hr1
  have hlb := rdN_lt hr1
  have hwb : w.heap.size < w1.heap.size := S1.out.lt 0 rfl rfl
  clear hb2 hr1
  go_wp2_with (fail)
  refine (laid_n b sl zs 0 12 w1 HR.out (by omega) (by omega)).mono ?_
  rintro e w2 ⟨s, r, u, L, rfl, ho, hu, hsm, hl37, hg, hd⟩
  obtain ⟨cs2, S2⟩ := sep_rd S1.out 1 rfl hg hd
  have S2 := Lib.hid ((S2.add2 S1.out rfl ho).box #[.int .i64 r.wide, .int .i64 r.tall, s] 25)
  have D2 := Lib.hid (rdN_alloc hd (.cells #[.int .i64 r.wide, .int .i64 r.tall, s] 25))
  have U2 := hu.alloc (.cells #[.int .i64 r.wide, .int .i64 r.tall, s] 25)
  obtain ⟨p1, n1, rfl⟩ := ho.formM
  obtain ⟨p2, n2, rfl⟩ := hu.formM
  have hb2 := Nat.lt_of_lt_of_le hlb hg.size
  have hl37r : r.cells.length ≤ 37 := hsm.2.2.2.2
  clear ho hg hd hu
  go_wp2_with (fail)
  obtain ⟨W, hW⟩ : ∃ W, W = w2.alloc (.cells #[.int .i64 r.wide, .int .i64 r.tall, .slice p1 r.cells.length n1] 25) := ⟨_, rfl⟩
  have hs2 : w2.heap.size < W.heap.size := by rw [hW]; simp
  rw [← hW] at S2 D2 U2 ⊢
  have U2 := Lib.hid U2
  clear hW
  refine (pick_n b sl zs 500 _ _ D2.out (by omega)).mono ?_
  rintro e w3 ⟨k3, rfl, hk3, hg3, hd3⟩
  have U3 := Lib.hid (U2.out.grown hg3 (fun k e => by cases e; exact hlb))
  have D3 := Lib.hid hd3
  obtain ⟨cs3, S3⟩ := sep_rd S2.out 1 rfl hg3 hd3
  have S3 := Lib.hid S3
  obtain ⟨k3, rfl⟩ := Int.eq_ofNat_of_zero_le hk3.1
  have hk3' : k3 ≤ L.length := by omega
  clear hg3 hd3 hk3 S2 D2 U2
  have hs3 := S3.out.lt 3 rfl rfl
  have UI := Lib.hid (own_il U3.out)
  go_wp2_with (fail)
  go_loop [9, 10] (fun c i => ∃ c' k : Nat, c' ≤ L.length ∧ k ≤ 6 ∧ c = .int .i64 c' ∧ i = .int .i64 k) (fun _ i => 6 - (intOf i).toNat)
  case atStart => exact ⟨k3, 0, hk3', by omega, rfl, rfl⟩
  case round =>
    obtain ⟨c, k, hc, hk, rfl, rfl⟩ := hrel
    by_cases hgo : k < 6 ∧ c < L.length ∧ L.getD c 0 ≠ 0
    · obtain ⟨g1, g2, g3⟩ := hgo
      obtain ⟨ub, uo, uc, hue, hub, huc, -, -⟩ := Il.pos UI.out (by omega)
      obtain ⟨rfl, rfl⟩ : p2 = some ⟨ub, uo, none⟩ ∧ n2 = uc := by simpa using hue
      have huk := huc w3 (Below.refl _ _) c g2
      clear hue huc
      obtain ⟨x, hx⟩ : ∃ x, L.getD c 0 = x := ⟨_, rfl⟩
      rw [hx] at huk g3
      clear hx
      have hxe : (x != 0) = true := by simpa using g3
      have hL1 : 0 < L.length := by omega
      have hmod : ((c : Int) + 1) % (L.length : Int) = (((c + 1) % L.length : Nat) : Int) := by push_cast; rfl
      have hml : (c + 1) % L.length < L.length := Nat.mod_lt _ hL1
      go_wp2
      go_round
      case rel => exact ⟨(c + 1) % L.length, k + 1, by omega, by omega, by rw [← hmod], by go_num⟩
      case measure => simp [intOf]; omega
    · have hfin : Hid (c ≤ L.length) := Lib.hid hc
      obtain ⟨x0, x1, x2, _⟩ := three_cells (S3.out.blk 3 rfl)
      obtain ⟨a0, a1, a2, e0, e1, e2⟩ := three_cells (S3.out.blk 0 rfl)
      by_cases g1 : k < 6
      · by_cases g2 : c < L.length
        · have g3 : L.getD c 0 = 0 := by
            by_cases e : L.getD c 0 = 0
            · exact e
            · exact absurd ⟨g1, g2, e⟩ hgo
          obtain ⟨ub, uo, uc, hue, hub, huc, -, -⟩ := Il.pos UI.out (by omega)
          obtain ⟨rfl, rfl⟩ : p2 = some ⟨ub, uo, none⟩ ∧ n2 = uc := by simpa using hue
          have huk := huc w3 (Below.refl _ _) c g2
          rw [g3] at huk
          clear hue huc hgo g3
          go_wp2_with (fail)
          go_region_held3 (fun w' => w'.cell? ⟨w2.heap.size, 0, none⟩ = some (.int .i64 r.wide) ∧ w'.cell? ⟨w2.heap.size, 1, none⟩ = some (.int .i64 r.tall) ∧ w'.cell? ⟨w2.heap.size, 2, none⟩ = some (.slice p1 r.cells.length n1))
            (first | with_reducible exact K4.out | with_reducible exact P4.out _ _ _ | (go_keep; done) | assumption)
            ((first
              | (go_at_call 82; refine (pick_n b sl zs 501 _ _ (rdN_drew D3.out) (by omega)).mono ?_; rintro e w4 ⟨k4, rfl, hk4, hg4, hd4⟩; (have U4 := Lib.hid (U3.out.drew.grown hg4 (fun k e => by cases e; exact hlb))); (obtain ⟨cs4, S4⟩ := sep_rd S3.out.drew 1 rfl hg4 hd4); (have S4 := Lib.hid S4); clear hg4 hd4; (have K4 := Lib.hid (Sep.c3 S4.out 3 rfl)); (have P4 := Lib.hid (fun x y z => Sep.c3 (S4.out.put3 0 rfl x y z) 3 rfl)); obtain ⟨z0, z1, z2, z3, z4, z5⟩ := three_cells (S4.out.blk 0 rfl))))
          have E := S4.out.put3 0 rfl (.int .i64 r.wide) (.int .i64 r.tall) (.slice p1 r.cells.length n1)
          obtain ⟨q0, q1, q2, _⟩ := three_cells (E.blk 0 rfl)
          have DN : Hid (DrawnL2 w (.returned (.tuple #[.agg #[.int .i64 r.wide, .int .i64 r.tall, .slice p1 r.cells.length n1], .slice (some ⟨ub, uo, none⟩) L.length n2, .int .i64 c, .int .i64 k4])) _) := Lib.hid ⟨_, _, r, L, c, k4, rfl, ⟨_, rfl, (E.own 2 rfl).sl⟩, own_il (((U4.out.setCell hwb _).setCell hwb _).setCell hwb _), hsm, hl37, by have := hfin.out; omega, by omega, E.bel⟩
          have Q0 := Lib.hid q0
          have Q1 := Lib.hid q1
          have Q2 := Lib.hid q2
          clear q0 q1 q2 E x0 x1 x2 a0 a1 a2 e0 e1 e2 z0 z1 z2 z3 z4 z5
          go_wp2
          exact bodyPost_ret (by simp [results, Try.results42, go_sem, Q0.out, Q1.out, Q2.out]) rfl DN.out
        · clear hgo
          go_wp2_with (fail)
          go_region_held3 (fun w' => w'.cell? ⟨w2.heap.size, 0, none⟩ = some (.int .i64 r.wide) ∧ w'.cell? ⟨w2.heap.size, 1, none⟩ = some (.int .i64 r.tall) ∧ w'.cell? ⟨w2.heap.size, 2, none⟩ = some (.slice p1 r.cells.length n1))
            (first | with_reducible exact K4.out | with_reducible exact P4.out _ _ _ | (go_keep; done) | assumption)
            ((first
              | (go_at_call 82; refine (pick_n b sl zs 501 _ _ (rdN_drew D3.out) (by omega)).mono ?_; rintro e w4 ⟨k4, rfl, hk4, hg4, hd4⟩; (have U4 := Lib.hid (U3.out.drew.grown hg4 (fun k e => by cases e; exact hlb))); (obtain ⟨cs4, S4⟩ := sep_rd S3.out.drew 1 rfl hg4 hd4); (have S4 := Lib.hid S4); clear hg4 hd4; (have K4 := Lib.hid (Sep.c3 S4.out 3 rfl)); (have P4 := Lib.hid (fun x y z => Sep.c3 (S4.out.put3 0 rfl x y z) 3 rfl)); obtain ⟨z0, z1, z2, z3, z4, z5⟩ := three_cells (S4.out.blk 0 rfl))))
          have E := S4.out.put3 0 rfl (.int .i64 r.wide) (.int .i64 r.tall) (.slice p1 r.cells.length n1)
          obtain ⟨q0, q1, q2, _⟩ := three_cells (E.blk 0 rfl)
          have DN : Hid (DrawnL2 w (.returned (.tuple #[.agg #[.int .i64 r.wide, .int .i64 r.tall, .slice p1 r.cells.length n1], .slice p2 L.length n2, .int .i64 c, .int .i64 k4])) _) := Lib.hid ⟨_, _, r, L, c, k4, rfl, ⟨_, rfl, (E.own 2 rfl).sl⟩, own_il (((U4.out.setCell hwb _).setCell hwb _).setCell hwb _), hsm, hl37, by have := hfin.out; omega, by omega, E.bel⟩
          have Q0 := Lib.hid q0
          have Q1 := Lib.hid q1
          have Q2 := Lib.hid q2
          clear q0 q1 q2 E x0 x1 x2 a0 a1 a2 e0 e1 e2 z0 z1 z2 z3 z4 z5
          go_wp2
          exact bodyPost_ret (by simp [results, Try.results42, go_sem, Q0.out, Q1.out, Q2.out]) rfl DN.out
      · clear hgo
        go_wp2_with (fail)
        go_region_held3 (fun w' => w'.cell? ⟨w2.heap.size, 0, none⟩ = some (.int .i64 r.wide) ∧ w'.cell? ⟨w2.heap.size, 1, none⟩ = some (.int .i64 r.tall) ∧ w'.cell? ⟨w2.heap.size, 2, none⟩ = some (.slice p1 r.cells.length n1))
          (first | with_reducible exact K4.out | with_reducible exact P4.out _ _ _ | (go_keep; done) | assumption)
          ((first
            | (go_at_call 82; refine (pick_n b sl zs 501 _ _ (rdN_drew D3.out) (by omega)).mono ?_; rintro e w4 ⟨k4, rfl, hk4, hg4, hd4⟩; (have U4 := Lib.hid (U3.out.drew.grown hg4 (fun k e => by cases e; exact hlb))); (obtain ⟨cs4, S4⟩ := sep_rd S3.out.drew 1 rfl hg4 hd4); (have S4 := Lib.hid S4); clear hg4 hd4; (have K4 := Lib.hid (Sep.c3 S4.out 3 rfl)); (have P4 := Lib.hid (fun x y z => Sep.c3 (S4.out.put3 0 rfl x y z) 3 rfl)); obtain ⟨z0, z1, z2, z3, z4, z5⟩ := three_cells (S4.out.blk 0 rfl))))
        have E := S4.out.put3 0 rfl (.int .i64 r.wide) (.int .i64 r.tall) (.slice p1 r.cells.length n1)
        obtain ⟨q0, q1, q2, _⟩ := three_cells (E.blk 0 rfl)
        have DN : Hid (DrawnL2 w (.returned (.tuple #[.agg #[.int .i64 r.wide, .int .i64 r.tall, .slice p1 r.cells.length n1], .slice p2 L.length n2, .int .i64 c, .int .i64 k4])) _) := Lib.hid ⟨_, _, r, L, c, k4, rfl, ⟨_, rfl, (E.own 2 rfl).sl⟩, own_il (((U4.out.setCell hwb _).setCell hwb _).setCell hwb _), hsm, hl37, by have := hfin.out; omega, by omega, E.bel⟩
        have Q0 := Lib.hid q0
        have Q1 := Lib.hid q1
        have Q2 := Lib.hid q2
        clear q0 q1 q2 E x0 x1 x2 a0 a1 a2 e0 e1 e2 z0 z1 z2 z3 z4 z5
        go_wp2
        exact bodyPost_ret (by simp [results, Try.results42, go_sem, Q0.out, Q1.out, Q2.out]) rfl DN.out

end Go.Proofs.Ytnmoaecihmjnnaa
