/- Walks: l20Pair. -/
import Derived.Test.YtedccoimdkehgaaDrawS
set_option linter.unusedVariables false
set_option linter.unusedSimpArgs false
namespace Go.Proofs.Ytedccoimdkehgaa
open Go.RowKit Domi

def zC : Array Value := #[.int .i64 0, .int .i64 0, .slice none 0 0]
/-- Two drawn regions. -/
def PairN (w : World) (b : Nat) (sl : Value) (ys : List Int) (N : Nat) (e : Ending) (w' : World) : Prop :=
  ∃ s u r q, e = .returned (.tuple #[.agg #[.int .i64 r.wide, .int .i64 r.tall, s], .agg #[.int .i64 q.wide, .int .i64 q.tall, u]]) ∧ Own w' w.heap.size 4 s (r.cells.map Value.bool) ∧ Own w' w.heap.size 4 u (q.cells.map Value.bool) ∧
    RegSmall r ∧ RegSmall q ∧ w.grownBy w' (some b) ∧ RdN w' b sl ys (N + 300)

theorem own_high {w w' : World} {S : List It} {row : Option Nat} (h : Sep w row w' S) (i : Nat) {e : TypeId} {v : Value} {xs : List Value} (hi : S[i]? = some (.row e v xs)) : Own w' w.heap.size e v xs := by
  have h1 := h.own i hi
  refine ⟨h1.1, ?_⟩
  rcases h1.2 with h2 | ⟨g, cap, cur, rfl, _, r⟩
  · exact .inl h2
  · exact .inr ⟨g, cap, cur, rfl, h.ge i hi rfl, r⟩

def PairL (w : World) (b : Nat) (sl : Value) (ys : List Int) (N : Nat) (r : Reg) (s : Value) (X4 X5 : Nat) (i : Value) (wr : World) : Prop :=
  ∃ (k : Nat) (v : Value) (l : List Bool), i = .int .i64 k ∧ l.length = k ∧ k ≤ r.cells.length ∧
    Dr w b sl ys (N + 201 + k) wr [.box w.heap.size #[.int .i64 0, .int .i64 0, .slice none 0 0] 25, .box (w.heap.size + 1) #[.int .i64 0, .int .i64 0, .slice none 0 0] 25,
      .row 4 s (r.cells.map Value.bool), .box X4 #[.int .i64 r.wide, .int .i64 r.tall, s] 25, .box X5 #[.int .i64 r.wide, .int .i64 r.tall, v] 25, .row 4 v (l.map Value.bool)]

theorem pair_done {w w2 : World} {b : Nat} {sl : Value} {ys : List Int} {N M : Nat} {r q : Reg} {s u : Value} {X4 X5 : Nat}
    (D2 : Dr w b sl ys M w2 [.box w.heap.size #[.int .i64 r.wide, .int .i64 r.tall, s] 25, .box (w.heap.size + 1) #[.int .i64 q.wide, .int .i64 q.tall, u] 25,
      .row 4 s (r.cells.map Value.bool), .box X4 #[.int .i64 r.wide, .int .i64 r.tall, s] 25, .box X5 #[.int .i64 q.wide, .int .i64 q.tall, u] 25, .row 4 u (q.cells.map Value.bool)]) (hM : M ≤ N + 300) (hr : RegSmall r) (hq : RegSmall q) :
    PairN w b sl ys N (.returned (.tuple #[.agg #[.int .i64 r.wide, .int .i64 r.tall, s], .agg #[.int .i64 q.wide, .int .i64 q.tall, u]])) w2 :=
  ⟨s, u, r, q, rfl, own_high D2.s 2 rfl, own_high D2.s 5 rfl, hr, hq, D2.s.g, rdN_mono D2.r hM⟩
theorem pairL_next {w wr w4 w5 : World} {b : Nat} {sl : Value} {ys : List Int} {N : Nat} {r : Reg} {s : Value} {X4 X5 k : Nat} {v : Value} {l : List Bool} {c : Bool} {B g cap : Nat} {o : Obj}
    (D : Dr w b sl ys (N + 201 + k) wr [.box w.heap.size #[.int .i64 0, .int .i64 0, .slice none 0 0] 25, .box (w.heap.size + 1) #[.int .i64 0, .int .i64 0, .slice none 0 0] 25,
      .row 4 s (r.cells.map Value.bool), .box X4 #[.int .i64 r.wide, .int .i64 r.tall, s] 25, .box X5 #[.int .i64 r.wide, .int .i64 r.tall, v] 25, .row 4 v (l.map Value.bool)])
    (hg4 : wr.drew.grownBy w4 (some b)) (hr4 : RdN w4 b sl ys (N + 201 + k + 1)) (A5 : App (w4.alloc o) B 4 v (l.map Value.bool) (.bool c) g cap w5) (hl : l.length = k) (hk : k + 1 ≤ r.cells.length) :
    PairL w b sl ys N r s X4 X5 (.int .i64 ((k : Int) + 1)) (w5.setCell ⟨X5, 2, none⟩ (.slice (some ⟨g, 0, none⟩) (l.length + 1) cap)) := by
  refine ⟨k + 1, .slice (some ⟨g, 0, none⟩) (l.length + 1) cap, l ++ [c], by simp, by simp [hl], hk, ?_⟩
  have := ((((D.drew.picked hg4 hr4).alloc o).app 5 rfl A5).put 4 rfl 2 (.slice (some ⟨g, 0, none⟩) (l.length + 1) cap))
  simpa [Nat.add_assoc] using this

set_option maxRecDepth 100000 in
set_option maxHeartbeats 1000000 in
theorem pair_n (b : Nat) (sl : Value) (ys : List Int) (N : Nat) (w : World) (h : RdN w b sl ys N) (hN : N < 50000) :
    Calls Try.prog 58 #[.pointer (some ⟨b, 0, none⟩)] w (PairN w b sl ys N) := by
  have H := Lib.hid h
  have hb := rdN_lt h
  have D0 := Lib.hid (((Dr.start h).box #[.int .i64 0, .int .i64 0, .slice none 0 0] 25).box #[.int .i64 0, .int .i64 0, .slice none 0 0] 25)
  clear h
  go_enter Try.func58, Try.ntmps58
  go_wp2_with (fail)
  refine (region_n b sl ys N 12 _ D0.out.r (by omega) (by omega) (by simp; omega)).mono ?_
  rintro e w1 ⟨s, r, rfl, ho1, hr1, hg1, hd1⟩
  have D1 := Lib.hid ((D0.out.row hg1 hd1 ho1).box #[.int .i64 r.wide, .int .i64 r.tall, s] 25)
  obtain ⟨p1, n1, rfl⟩ := ho1.formM
  have sz1 := hg1.size
  simp at sz1
  clear ho1 hg1 hd1 D0
  go_wp2_with (fail)
  refine (region_n b sl ys (N + 100) 12 _ D1.out.r (by omega) (by omega) (by simp; omega)).mono ?_
  rintro e w2 ⟨u, q, rfl, ho2, hr2, hg2, hd2⟩
  have D2 := Lib.hid ((D1.out.row hg2 hd2 ho2).box #[.int .i64 q.wide, .int .i64 q.tall, u] 25)
  obtain ⟨p2, n2, rfl⟩ := ho2.formM
  clear ho2 hg2 hd2 D1
  go_wp2_with (fail)
  refine (pick_n b sl ys (N + 100 + 100) 4 _ D2.out.r (by omega)).mono ?_
  rintro e w3 ⟨k, rfl, ⟨hk, hk'⟩, hg3, hd3⟩
  have D3 := Lib.hid (show Dr w b sl ys (N + 201) w3 [.box w.heap.size #[.int .i64 0, .int .i64 0, .slice none 0 0] 25, .box (w.heap.size + 1) #[.int .i64 0, .int .i64 0, .slice none 0 0] 25,
      .row 4 _ (r.cells.map Value.bool), .box w1.heap.size #[.int .i64 r.wide, .int .i64 r.tall, _] 25, .row 4 _ (q.cells.map Value.bool), .box w2.heap.size #[.int .i64 q.wide, .int .i64 q.tall, _] 25] from by simpa using (D2.out.picked hg3 hd3).mono (Nat.le_refl _))
  clear hg3 hd3 D2 hk'
  by_cases hk0 : 0 < k
  · obtain ⟨x0, x1, x2, _⟩ := three_cells (D3.out.s.blk 3 rfl)
    go_wp2_with (fail)
    refine (sRegionValid_any _ r _ ?_).mono ?_
    · exact ⟨_, rfl, (D3.out.s.own 2 rfl).sl⟩
    rintro e w4 ⟨rfl, hb4⟩
    have D4 := Lib.hid (D3.out.below hb4)
    clear hb4 x0 x1 x2
    cases hv : r.valid
    · clear D3
      obtain ⟨x0, x1, x2, _⟩ := three_cells (D4.out.s.blk 3 rfl)
      obtain ⟨y0, y1, y2, _⟩ := three_cells (D4.out.s.blk 5 rfl)
      obtain ⟨a0, a1, a2, e0, e1, e2⟩ := three_cells (D4.out.s.blk 0 rfl)
      obtain ⟨b0, b1, b2, f0, f1, f2⟩ := three_cells (D4.out.s.blk 1 rfl)
      have E1 := Lib.hid (D4.out.put3 0 rfl (.int .i64 r.wide) (.int .i64 r.tall) (.slice p1 r.cells.length n1))
      have E3 := Lib.hid (E1.out.put3 1 rfl (.int .i64 q.wide) (.int .i64 q.tall) (.slice p2 q.cells.length n2))
      have K1 := Lib.hid (six_cells (E1.out.drew.s.blk 3 rfl) (E1.out.drew.s.blk 5 rfl))
      have K3 := Lib.hid (six_cells (E3.out.drew.s.blk 3 rfl) (E3.out.drew.s.blk 5 rfl))
      have Q3 := Lib.hid (six_cells (E3.out.drew.s.blk 0 rfl) (E3.out.drew.s.blk 1 rfl))
      have G3 := Lib.hid (pair_done (N := N) (E3.out.drew.pick [0, 1, 2, 3, 5, 4] (by decide) rfl) (by omega) hr1 hr2)
      go_wp2_with (fail)
      go_region_held3 (fun w' => w'.cell? ⟨w1.heap.size, 0, none⟩ = some (.int .i64 r.wide) ∧ w'.cell? ⟨w1.heap.size, 1, none⟩ = some (.int .i64 r.tall) ∧ w'.cell? ⟨w1.heap.size, 2, none⟩ = some (.slice p1 r.cells.length n1) ∧ w'.cell? ⟨w2.heap.size, 0, none⟩ = some (.int .i64 q.wide) ∧ w'.cell? ⟨w2.heap.size, 1, none⟩ = some (.int .i64 q.tall) ∧ w'.cell? ⟨w2.heap.size, 2, none⟩ = some (.slice p2 q.cells.length n2)) (first | with_reducible exact K1.out  | with_reducible exact K3.out | go_keep | assumption) (fail)
      clear K1 K3 E1 E3
      go_wp2
      obtain ⟨q0, q1, q2, q3, q4, q5⟩ := Q3.out
      exact bodyPost_ret (by simp [results, Try.results58, go_sem, q0, q1, q2, q3, q4, q5]) rfl G3.out
    · obtain ⟨v1, v2, v3, v4⟩ := Reg.valid_iff.1 hv
      have hr36 : r.cells.length ≤ 36 := by have := area_in v1 v2; omega
      clear D3 v3 v4
      obtain ⟨x0, x1, x2, _⟩ := three_cells (D4.out.s.blk 3 rfl)
      obtain ⟨y0, y1, y2, f0, f1, f2⟩ := three_cells (D4.out.s.blk 5 rfl)
      have L0 : Hid (PairL w b sl ys N r (.slice p1 r.cells.length n1) w1.heap.size w2.heap.size (.int .i64 0) (((w4.setCell ⟨w2.heap.size, 0, none⟩ (.int .i64 r.wide)).setCell ⟨w2.heap.size, 1, none⟩ (.int .i64 r.tall)).setCell ⟨w2.heap.size, 2, none⟩ (.slice none 0 0))) :=
        ⟨0, .slice none 0 0, [], rfl, rfl, by omega, ((D4.out.put3 5 rfl (.int .i64 r.wide) (.int .i64 r.tall) (.slice none 0 0)).nil 4).pick [0, 1, 2, 3, 5, 6] (by decide) rfl⟩
      go_wp2_with (fail)
      go_loopw [6] (fun i wr => PairL w b sl ys N r (.slice p1 r.cells.length n1) w1.heap.size w2.heap.size i wr) (fun i _ => r.cells.length - (intOf i).toNat)
      case atStart => exact L0.out
      case round =>
        clear L0 D4 x0 x1 x2 y0 y1 y2 f0 f1 f2
        obtain ⟨j, v, l, rfl, hl, hj, D⟩ := hrel
        have HD := Lib.hid D
        have HL := Lib.hid hl
        obtain ⟨va, vc, rfl⟩ := (D.s.own 5 rfl).formM
        obtain ⟨x0, x1, x2, _⟩ := three_cells (D.s.blk 3 rfl)
        obtain ⟨y0, y1, y2, f0, f1, f2⟩ := three_cells (D.s.blk 4 rfl)
        have s5 := D.s.lt 4 rfl rfl
        clear D hl
        by_cases hlt : j < r.cells.length
        · go_wp2_with (fail)
          go_region_law (first | (go_simp; go_at_call 64; refine (pick_n b sl ys (N + 201 + j) 2 _ HD.out.drew.r (by omega)).mono ?_; rintro e w6 ⟨k4, rfl, hk4, hg4, hr4⟩; (have D6 := HD.out.drew.picked hg4 hr4); (obtain ⟨y0', y1', y2', f0', f1', f2'⟩ := three_cells (D6.s.blk 4 rfl)); have s6 := D6.s.lt 4 rfl rfl; have HD6 := Lib.hid D6; have hg4' := Lib.hid hg4; have hr4' := Lib.hid hr4; clear hg4 hr4 D6) | (refine step_app elem_bools 0 (.slice va l.length vc) (l.map Value.bool) ?_ w6.heap.size (.bool (k4 == 0)) (.tmp 31) (.tmp 35) (by rfl) (by rfl) (by rfl) (by rfl) (heap_alloc_new _ _) (by rfl) ?_ ?_ ?_; exact Own.alloc (HD6.out.s.own 5 rfl) _; (rw [List.length_map, HL.out]; omega); (exact Nat.zero_le _); intro g cap w7 A7; (have D7 := (HD6.out.alloc _).app 5 rfl A7); (obtain ⟨y0'', y1'', y2'', f0'', f1'', f2''⟩ := three_cells (D7.s.blk 4 rfl)); have A7' := Lib.hid A7; clear A7 D7))
          all_goals
            have NX := Lib.hid (pairL_next HD.out hg4'.out hr4'.out A7'.out HL.out (by omega))
            go_wp2
            go_roundw
            case rel => exact NX.out
            case measure => simp [intOf]; omega
        · have hq : RegSmall ⟨r.wide, r.tall, l⟩ := ⟨hr1.1, hr1.2.1, hr1.2.2.1, hr1.2.2.2.1, by have := HL.out; show l.length ≤ 37; omega⟩
          clear x0 x1 x2 y0 y1 y2 f0 f1 f2
          obtain ⟨x0, x1, x2, _⟩ := three_cells (HD.out.s.blk 3 rfl)
          obtain ⟨y0, y1, y2, _⟩ := three_cells (HD.out.s.blk 4 rfl)
          go_wp2_with (fail)
          clear x0 x1 x2 y0 y1 y2
          obtain ⟨x0, x1, x2, _⟩ := three_cells (HD.out.s.blk 3 rfl)
          obtain ⟨y0, y1, y2, _⟩ := three_cells (HD.out.s.blk 4 rfl)
          obtain ⟨a0, a1, a2, e0, e1, e2⟩ := three_cells (HD.out.s.blk 0 rfl)
          obtain ⟨b0, b1, b2, f0, f1, f2⟩ := three_cells (HD.out.s.blk 1 rfl)
          have E1 := Lib.hid (HD.out.put3 0 rfl (.int .i64 r.wide) (.int .i64 r.tall) (.slice p1 r.cells.length n1))
          have E3 := Lib.hid (E1.out.put3 1 rfl (.int .i64 (⟨r.wide, r.tall, l⟩ : Reg).wide) (.int .i64 (⟨r.wide, r.tall, l⟩ : Reg).tall) (.slice va l.length vc))
          have K1 := Lib.hid (six_cells (E1.out.drew.s.blk 3 rfl) (E1.out.drew.s.blk 4 rfl))
          have K3 := Lib.hid (six_cells (E3.out.drew.s.blk 3 rfl) (E3.out.drew.s.blk 4 rfl))
          have Q3 := Lib.hid (six_cells (E3.out.drew.s.blk 0 rfl) (E3.out.drew.s.blk 1 rfl))
          have G3 := Lib.hid (pair_done (N := N) (E3.out.drew.pick [0, 1, 2, 3, 4, 5] (by decide) rfl) (by omega) hr1 hq)
          go_wp2_with (fail)
          go_region_held3 (fun w' => w'.cell? ⟨w1.heap.size, 0, none⟩ = some (.int .i64 r.wide) ∧ w'.cell? ⟨w1.heap.size, 1, none⟩ = some (.int .i64 r.tall) ∧ w'.cell? ⟨w1.heap.size, 2, none⟩ = some (.slice p1 r.cells.length n1) ∧ w'.cell? ⟨w2.heap.size, 0, none⟩ = some (.int .i64 (⟨r.wide, r.tall, l⟩ : Reg).wide) ∧ w'.cell? ⟨w2.heap.size, 1, none⟩ = some (.int .i64 (⟨r.wide, r.tall, l⟩ : Reg).tall) ∧ w'.cell? ⟨w2.heap.size, 2, none⟩ = some (.slice va l.length vc)) (first | with_reducible exact K1.out  | with_reducible exact K3.out | go_keep | assumption) (fail)
          clear K1 K3 E1 E3
          go_wp2
          obtain ⟨q0, q1, q2, q3, q4, q5⟩ := Q3.out
          exact bodyPost_ret (by simp [results, Try.results58, go_sem, q0, q1, q2, q3, q4, q5]) rfl G3.out
  · obtain ⟨x0, x1, x2, _⟩ := three_cells (D3.out.s.blk 3 rfl)
    obtain ⟨y0, y1, y2, _⟩ := three_cells (D3.out.s.blk 5 rfl)
    obtain ⟨a0, a1, a2, e0, e1, e2⟩ := three_cells (D3.out.s.blk 0 rfl)
    obtain ⟨b0, b1, b2, f0, f1, f2⟩ := three_cells (D3.out.s.blk 1 rfl)
    have E1 := Lib.hid (D3.out.put3 0 rfl (.int .i64 r.wide) (.int .i64 r.tall) (.slice p1 r.cells.length n1))
    have E3 := Lib.hid (E1.out.put3 1 rfl (.int .i64 q.wide) (.int .i64 q.tall) (.slice p2 q.cells.length n2))
    have K1 := Lib.hid (six_cells (E1.out.drew.s.blk 3 rfl) (E1.out.drew.s.blk 5 rfl))
    have K3 := Lib.hid (six_cells (E3.out.drew.s.blk 3 rfl) (E3.out.drew.s.blk 5 rfl))
    have Q3 := Lib.hid (six_cells (E3.out.drew.s.blk 0 rfl) (E3.out.drew.s.blk 1 rfl))
    have G3 := Lib.hid (pair_done (N := N) (E3.out.drew.pick [0, 1, 2, 3, 5, 4] (by decide) rfl) (by omega) hr1 hr2)
    go_wp2_with (fail)
    go_region_held3 (fun w' => w'.cell? ⟨w1.heap.size, 0, none⟩ = some (.int .i64 r.wide) ∧ w'.cell? ⟨w1.heap.size, 1, none⟩ = some (.int .i64 r.tall) ∧ w'.cell? ⟨w1.heap.size, 2, none⟩ = some (.slice p1 r.cells.length n1) ∧ w'.cell? ⟨w2.heap.size, 0, none⟩ = some (.int .i64 q.wide) ∧ w'.cell? ⟨w2.heap.size, 1, none⟩ = some (.int .i64 q.tall) ∧ w'.cell? ⟨w2.heap.size, 2, none⟩ = some (.slice p2 q.cells.length n2)) (first | with_reducible exact K1.out  | with_reducible exact K3.out | go_keep | assumption) (fail)
    clear K1 K3 E1 E3
    go_wp2
    obtain ⟨q0, q1, q2, q3, q4, q5⟩ := Q3.out
    exact bodyPost_ret (by simp [results, Try.results58, go_sem, q0, q1, q2, q3, q4, q5]) rfl G3.out

end Go.Proofs.Ytedccoimdkehgaa
