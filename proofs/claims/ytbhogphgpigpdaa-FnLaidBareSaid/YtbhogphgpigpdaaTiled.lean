/- Walks: l20Tiled: a drawn region that has a tiling. -/
import Derived.Test.YtbhogphgpigpdaaWone
import Derived.Test.YtbhogphgpigpdaaDrawS
namespace Go.Proofs.Ytbhogphgpigpdaa
open Go.RowKit Domi

/-- A drawn region, its cells of the call's own. -/
def DrawnN (w : World) (b : Nat) (sl : Value) (ys : List Int) (M : Nat) (e : Ending) (w' : World) : Prop :=
  ∃ s r, e = .returned (.agg #[.int .i64 r.wide, .int .i64 r.tall, s]) ∧ Own w' w.heap.size 4 s (r.cells.map Value.bool) ∧ RegSmall r ∧ w.grownBy w' (some b) ∧ RdN w' b sl ys M
theorem Dr.fresh {w0 w w' : World} {b : Nat} {sl : Value} {ys : List Int} {N : Nat} {S : List It} (h : Dr w0 b sl ys N w S) (hb : Below w.heap.size w w') {e : TypeId} {v : Value} {xs : List Value} (ho : Own w' w.heap.size e v xs) : Dr w0 b sl ys N w' (S ++ [.row e v xs]) :=
  h.row (grown_below hb (some b)) (h.below hb).r ho
theorem Dr.weak {w0 w : World} {b : Nat} {sl : Value} {ys : List Int} {N M : Nat} {S : List It} (h : Dr w0 b sl ys N w S) (hM : N ≤ M) : Dr w0 b sl ys M w S := ⟨h.s, rdN_mono h.r hM, h.r0⟩
theorem drawn_n {w w' : World} {b : Nat} {sl : Value} {ys : List Int} {M : Nat} {r : Reg} {s : Value} {S : List It} (h : Dr w b sl ys M w' S) (i : Nat) (hi : S[i]? = some (.row 4 s (r.cells.map Value.bool))) (hr : RegSmall r) :
    DrawnN w b sl ys M (.returned (.agg #[.int .i64 r.wide, .int .i64 r.tall, s])) w' := ⟨s, r, rfl, h.s.high i hi, hr, h.s.g, h.r⟩
theorem sLayOne_q (v u : Value) (r : Reg) (L : List Int) (c way : Int) (w : World) (h : RegV w v r) (hu : Il w u L) (q : List Int × Bool) (hq : layOne r L c way = q) :
    Calls Try.prog 55 #[v, u, .int .i64 c, .int .i64 way] w (RetLB q w) := by rw [← hq]; exact sLayOne_any v u r L c way w h hu
theorem layOne_len {r : Reg} {L : List Int} {c way : Int} {q : List Int × Bool} (h : layOne r L c way = q) (hq : q.2 = true) : q.1.length = L.length := by
  subst h
  unfold layOne at *
  split at hq
  · split at hq
    · rename_i h1 h2; rw [if_pos h1, if_pos h2]; simp [layL]
    · cases hq
  · cases hq

def TlS (w : World) (r : Reg) (s : Value) (X : Nat) (v : Value) (L : List Int) : List It :=
  [.box w.heap.size #[.int .i64 0, .int .i64 0, .slice none 0 0] 29, .row 4 s (r.cells.map Value.bool), .box X #[.int .i64 r.wide, .int .i64 r.tall, s] 29, .row 3 v (L.map (Value.int .i64))]
section
variable {w wr w' : World} {b : Nat} {sl : Value} {ys : List Int} {N : Nat} {r : Reg} {s : Value} {X : Nat} {v u : Value} {L M : List Int} {p : It}
theorem tlS_next (h : Dr w b sl ys N wr (TlS w r s X v L)) (hb : Below wr.heap.size wr w') (ho : Own w' wr.heap.size 3 u (M.map (Value.int .i64))) :
    Dr w b sl ys N w' (TlS w r s X u M) := by
  have := (h.fresh hb ho).pick [0, 1, 2, 4] (by decide) (by simp [TlS])
  simpa [TlS] using this
theorem tlS_next1 (h : Dr w b sl ys N wr (TlS w r s X v L ++ [p])) (hb : Below wr.heap.size wr w') (ho : Own w' wr.heap.size 3 u (M.map (Value.int .i64))) :
    Dr w b sl ys N w' (TlS w r s X u M) := by
  have := (h.fresh hb ho).pick [0, 1, 2, 5] (by decide) (by simp [TlS])
  simpa [TlS] using this
theorem tlS_skip1 (h : Dr w b sl ys N wr (TlS w r s X v L ++ [p])) (hb : Below wr.heap.size wr w') : Dr w b sl ys N w' (TlS w r s X v L) := by
  have := (h.below hb).pick [0, 1, 2, 3] (by decide) (by simp [TlS])
  simpa [TlS] using this
end
/-- One of four numbers, picked. -/
theorem four_cell {w : World} {g : Nat} {k : Int} (h : w.heap[g]? = some (.cells #[.int .i64 1, .int .i64 2, .int .i64 3, .int .i64 4] 3 (0, 0))) (hk : 0 ≤ k ∧ (k < 4 ∨ k = 0)) : w.cell? ⟨g, k.toNat, none⟩ = some (.int .i64 (k + 1)) := by
  rw [cell_of_row w g _ _ _ _ h]
  have : k = 0 ∨ k = 1 ∨ k = 2 ∨ k = 3 := by omega
  rcases this with rfl | rfl | rfl | rfl <;> rfl

set_option maxRecDepth 100000 in
set_option maxHeartbeats 4000000 in
theorem tiled_n (b : Nat) (sl : Value) (ys : List Int) (N : Nat) (n : Int) (w : World) (h : RdN w b sl ys N) (hN : N < 60000) (hn : n ≤ 1000000) :
    Calls Try.prog 99 #[.pointer (some ⟨b, 0, none⟩), .int .i64 n] w (DrawnN w b sl ys (N + 200)) := by
  have hb := rdN_lt h
  have D0 := Lib.hid ((Dr.start h).box #[.int .i64 0, .int .i64 0, .slice none 0 0] 29)
  clear h
  go_enter Try.func99, Try.ntmps99
  go_wp2_with (fail)
  refine (region_n b sl ys N n _ D0.out.r (by omega) hn (by simp; omega)).mono ?_
  rintro e w1 ⟨s, r, rfl, ho1, hr1, hg1, hd1⟩
  have D1 := Lib.hid ((D0.out.row hg1 hd1 ho1).box #[.int .i64 r.wide, .int .i64 r.tall, s] 29)
  obtain ⟨p1, n1, rfl⟩ := ho1.formM
  clear ho1 hg1 hd1 D0
  go_wp2_with (fail)
  refine (sRegionValid_any _ r _ ⟨_, rfl, (D1.out.s.own 1 rfl).sl⟩).mono ?_
  rintro e w2 ⟨rfl, hb2⟩
  have D2 := Lib.hid (D1.out.below hb2)
  clear hb2 D1
  generalize w1.heap.size = X at *
  obtain ⟨x0, x1, x2, _⟩ := three_cells (D2.out.s.blk 2 rfl)
  cases hv : r.valid
  · obtain ⟨a0, a1, a2, e0, e1, e2⟩ := three_cells (D2.out.s.blk 0 rfl)
    have E1 := Lib.hid (D2.out.put3 0 rfl (.int .i64 r.wide) (.int .i64 r.tall) (.slice p1 r.cells.length n1))
    obtain ⟨q0, q1, q2, _⟩ := three_cells (E1.out.s.blk 0 rfl)
    have Q0 := Lib.hid q0
    have Q1 := Lib.hid q1
    have Q2 := Lib.hid q2
    have DN := Lib.hid (drawn_n (E1.out.weak (M := N + 200) (by omega)) 1 rfl hr1)
    clear q0 q1 q2
    go_wp2
    exact bodyPost_ret (by simp [results, Try.results99, go_sem, Q0.out, Q1.out, Q2.out]) rfl DN.out
  · go_wp2_with (fail)
    refine (sLaidBare_any _ r _ ⟨_, rfl, (D2.out.s.own 1 rfl).sl⟩).mono ?_
    rintro e w3 ⟨u, rfl, ho, hb3⟩
    rw [bareL_yes hv] at ho
    have D3 := Lib.hid (D2.out.fresh hb3 ho)
    have hl36 : r.cells.length ≤ 36 := by
      obtain ⟨b1, b2, b3, b4⟩ := Reg.valid_iff.1 hv
      have := area_in b1 b2
      omega
    have hl1 : 0 < r.cells.length := by
      obtain ⟨b1, b2, b3, b4⟩ := Reg.valid_iff.1 hv
      have := area_in b1 b2
      omega
    obtain ⟨ua, uc, hue⟩ := ho.formM
    rw [List.length_replicate] at hue
    subst hue
    clear ho hb3 D2 x0 x1 x2
    go_wp2_with (fail)
    go_loopw [6, 7] (fun u i wr => ∃ (k : Nat) (a : Option Addr) (c : Nat) (L : List Int), k ≤ r.cells.length ∧ i = .int .i64 k ∧ u = .slice a r.cells.length c ∧ L.length = r.cells.length ∧ Dr w b sl ys (N + 100 + k) wr (TlS w r (.slice p1 r.cells.length n1) X u L)) (fun _ i _ => r.cells.length - (intOf i).toNat)
    case atStart => exact ⟨0, ua, uc, _, Nat.zero_le _, rfl, rfl, by simp, D3.out⟩
    case round =>
      clear D3
      obtain ⟨k, a, c, L, hk, rfl, rfl, hlen, D⟩ := hrel
      have HD := Lib.hid D
      have HN := Lib.hid hlen
      clear D hlen
      obtain ⟨x0, x1, x2, _⟩ := three_cells (HD.out.s.blk 2 rfl)
      have sX := HD.out.s.lt 2 rfl rfl
      by_cases hlt : k < r.cells.length
      · have DB := Lib.hid (HD.out.box #[.int .i64 1, .int .i64 2, .int .i64 3, .int .i64 4] 3)
        go_wp2_with (fail)
        go_region_held3 (fun w' => w'.cell? ⟨X, 0, none⟩ = some (.int .i64 r.wide) ∧ w'.cell? ⟨X, 1, none⟩ = some (.int .i64 r.tall) ∧ w'.cell? ⟨X, 2, none⟩ = some (.slice p1 r.cells.length n1))
          (first | with_reducible exact K5.out | with_reducible exact K4.out | (go_keep; done) | assumption)
          ((first
            | (go_at_call 55; refine (sLayOne_q _ _ r L _ _ _ ?_ ?_ _ rfl).mono ?_; exact ⟨_, rfl, (D4.out.s.own 1 rfl).sl⟩; exact own_il (D4.out.s.own 3 rfl); rintro e w5 ⟨v5, rfl, ho5, hb5⟩; (have K5 := Lib.hid (Sep.c3 (D4.out.below hb5).s 2 rfl)); (have HO5 := Lib.hid ho5); (have HB5 := Lib.hid hb5); clear hb5 ho5)
            | (go_at_call 65; refine (pick_n b sl ys (N + 100 + k) 4 _ DB.out.drew.r (by omega)).mono ?_; rintro e w4 ⟨k4, rfl, hk4, hg4, hr4⟩; (have D4 := Lib.hid (DB.out.drew.picked hg4 hr4)); clear hg4 hr4; (have K4 := Lib.hid (Sep.c3 D4.out.s 2 rfl)); (have c4 := four_cell (D4.out.s.blk 4 rfl) hk4); have z4 := D4.out.s.lt 4 rfl rfl)
            | (go_at_call 65; refine (pick_n b sl ys (N + 100 + k) 4 _ HD.out.drew.r (by omega)).mono ?_; rintro e w4 ⟨k4, rfl, hk4, hg4, hr4⟩; (have D4 := Lib.hid ((HD.out.drew.picked hg4 hr4).box #[.int .i64 1, .int .i64 2, .int .i64 3, .int .i64 4] 3)); (have K4 := Lib.hid (Sep.c3 (HD.out.drew.picked hg4 hr4).s 2 rfl)); clear hg4 hr4; (have c4 := four_cell (D4.out.s.blk 4 rfl) hk4); have z4 := D4.out.s.lt 4 rfl rfl)))
        all_goals
          obtain ⟨q, hq⟩ : ∃ q, layOne r L (k : Int) (k4 + 1) = q := ⟨_, rfl⟩
          rw [hq] at HO5 ⊢
          have HQ := Lib.hid hq
          clear hq x0 x1 x2 sX K4 K5 c4 z4
          cases hq2 : q.2
          · have D6 := Lib.hid (tlS_skip1 D4.out HB5.out)
            go_wp2
            go_roundw
            case rel => exact ⟨k + 1, a, c, L, by omega, by go_num, rfl, HN.out, by simpa [Nat.add_assoc] using D6.out⟩
            case measure => simp [intOf]; omega
          · have D6 := Lib.hid (tlS_next1 D4.out HB5.out HO5.out)
            obtain ⟨a5, c5, hv5⟩ := HO5.out.formM
            have hql := (layOne_len HQ.out hq2).trans HN.out
            rw [hql] at hv5
            subst hv5
            have HQL := Lib.hid hql
            clear hql
            go_wp2
            go_roundw
            case rel => exact ⟨k + 1, a5, c5, q.1, by omega, by go_num, rfl, HQL.out, by simpa [Nat.add_assoc] using D6.out⟩
            case measure => simp [intOf]; omega
      · have e : k = r.cells.length := by omega
        subst e
        have D3 := Lib.hid (HD.out.weak (M := N + 150) (by omega))
        clear HD
        go_wp2_with (fail)
        clear x0 x1 x2 sX
        go_loopw [6, 10] (fun u i wr => ∃ (k : Nat) (a : Option Addr) (c : Nat) (L : List Int), k ≤ r.cells.length ∧ i = .int .i64 k ∧ u = .slice a r.cells.length c ∧ L.length = r.cells.length ∧ Dr w b sl ys (N + 150) wr (TlS w r (.slice p1 r.cells.length n1) X u L)) (fun _ i _ => r.cells.length - (intOf i).toNat)
        case atStart => exact ⟨0, a, c, L, Nat.zero_le _, rfl, rfl, HN.out, D3.out⟩
        case round =>
          clear D3 HN
          obtain ⟨k, a, c, L, hk, rfl, rfl, hlen, D⟩ := hrel
          have HD := Lib.hid D
          have HN := Lib.hid hlen
          clear D hlen
          by_cases hlt : k < r.cells.length
          · go_wp2_with (fail)
            go_loopw [6, 11] (fun u i wr => ∃ (m : Nat) (a : Option Addr) (c : Nat) (L : List Int), 1 ≤ m ∧ m ≤ 3 ∧ i = .int .i64 m ∧ u = .slice a r.cells.length c ∧ L.length = r.cells.length ∧ Dr w b sl ys (N + 150) wr (TlS w r (.slice p1 r.cells.length n1) X u L)) (fun _ i _ => 4 - (intOf i).toNat)
            case atStart => exact ⟨1, a, c, L, by omega, by omega, rfl, rfl, HN.out, HD.out⟩
            case round =>
              clear HD HN
              obtain ⟨m, a, c, L, hm1, hm3, rfl, rfl, hlen, D⟩ := hrel
              have HD := Lib.hid D
              have HN := Lib.hid hlen
              clear D hlen
              by_cases hm : m < 3
              · have hm2 : (m : Int) ≤ 2 := by omega
                obtain ⟨x0, x1, x2, _⟩ := three_cells (HD.out.s.blk 2 rfl)
                go_wp2_with (fail)
                obtain ⟨q, hq⟩ : ∃ q, layOne r L (k : Int) (m : Int) = q := ⟨_, rfl⟩
                refine (sLayOne_q _ _ r L _ _ _ ⟨_, rfl, (HD.out.s.own 1 rfl).sl⟩ (own_il (HD.out.s.own 3 rfl)) q hq).mono ?_
                rintro e w5 ⟨v5, rfl, ho5, hb5⟩
                have HQ := Lib.hid hq
                have HO5 := Lib.hid ho5
                have HB5 := Lib.hid hb5
                clear hq ho5 hb5 x0 x1 x2
                cases hq2 : q.2
                · have D6 := Lib.hid (HD.out.below HB5.out)
                  go_wp2
                  go_roundw
                  case rel => exact ⟨m + 1, a, c, L, by omega, by omega, by go_num, rfl, HN.out, D6.out⟩
                  case measure => simp [intOf]; omega
                · have D6 := Lib.hid (tlS_next HD.out HB5.out HO5.out)
                  obtain ⟨a5, c5, hv5⟩ := HO5.out.formM
                  have hql := (layOne_len HQ.out hq2).trans HN.out
                  rw [hql] at hv5
                  subst hv5
                  have HQL := Lib.hid hql
                  clear hql
                  go_wp2
                  go_roundw
                  case rel => exact ⟨m + 1, a5, c5, q.1, by omega, by omega, by go_num, rfl, HQL.out, D6.out⟩
                  case measure => simp [intOf]; omega
              · have hm2 : ¬ (m : Int) ≤ 2 := by omega
                go_wp2
                go_roundw
                case rel => exact ⟨k + 1, a, c, L, by omega, by go_num, rfl, HN.out, HD.out⟩
                case measure => simp [intOf]; omega
          · have e : k = r.cells.length := by omega
            subst e
            obtain ⟨x0, x1, x2, _⟩ := three_cells (HD.out.s.blk 2 rfl)
            have D7 := Lib.hid ((HD.out.box #[.int .i64 r.wide, .int .i64 r.tall, .slice none 0 0] 29).nil 4)
            clear HD
            go_wp2_with (fail)
            clear x0 x1 x2
            obtain ⟨g, cg, hge, _, hg2, hg3, hg4⟩ := (D7.out.s.own 3 rfl).formN (by rw [List.length_map, HN.out]; exact hl1)
            rw [List.length_map, HN.out] at hge
            obtain ⟨rfl, hcg⟩ : a = some ⟨g, 0, none⟩ ∧ c = cg := by simpa using hge
            subst hcg
            clear hge
            obtain ⟨W7, hW7⟩ : ∃ W, W = wr.alloc (.cells #[.int .i64 r.wide, .int .i64 r.tall, .slice none 0 0] 29) := ⟨_, rfl⟩
            rw [← hW7] at D7 ⊢
            clear hW7
            generalize wr.heap.size = Y at *
            go_loopw [15] (fun i w8 => ∃ (k : Nat) (a2 : Option Addr) (c2 : Nat) (l : List Bool), k ≤ r.cells.length ∧ i = .int .i64 k ∧ l.length = k ∧ Dr w b sl ys (N + 150) w8 (TlS w r (.slice p1 r.cells.length n1) X (.slice (some ⟨g, 0, none⟩) r.cells.length c) L ++ [.box Y #[.int .i64 r.wide, .int .i64 r.tall, .slice a2 k c2] 29, .row 4 (.slice a2 k c2) (l.map Value.bool)])) (fun i _ => r.cells.length - (intOf i).toNat)
            case atStart => exact ⟨0, none, 0, [], Nat.zero_le _, rfl, rfl, by simpa [TlS] using D7.out⟩
            case round =>
              clear D7
              obtain ⟨_, a2, c2, l, hk, rfl, rfl, D⟩ := hrel
              have HD := Lib.hid D
              clear D
              obtain ⟨y0, y1, y2, f0, f1, f2⟩ := three_cells (HD.out.s.blk 4 rfl)
              have sY := HD.out.s.lt 4 rfl rfl
              by_cases hlt : l.length < r.cells.length
              · obtain ⟨u1, u2, u3⟩ := own_num (HD.out.s.own 3 rfl) (j := l.length) (by have := HN.out; omega)
                obtain ⟨x, hx⟩ : ∃ x, L.getD l.length 0 = x := ⟨_, rfl⟩
                rw [hx] at u1
                clear hx
                go_wp2_with (fail)
                go_region_law (refine step_app elem_bools 0 (.slice a2 l.length c2) (l.map Value.bool) ?_ wr.heap.size (.bool (x != 0)) (.tmp 77) (.tmp 83) (by rfl) (by rfl) (by rfl) (by rfl) (heap_alloc_new _ _) (by rfl) ?_ ?_ ?_; exact Own.alloc (HD.out.s.drew.own 5 rfl) _; (rw [List.length_map]; omega); (exact Nat.zero_le _); intro g2 cap w7 A7; (have D8 := Lib.hid ((HD.out.drew.alloc _).app 5 rfl A7)); (obtain ⟨z0, z1, z2, e0, e1, e2⟩ := three_cells (D8.out.s.blk 4 rfl)); clear A7)
                all_goals
                  have D9 := Lib.hid (D8.out.put 4 rfl 2 (.slice (some ⟨g2, 0, none⟩) (l.length + 1) cap))
                  go_wp2
                  go_roundw
                  case rel => exact ⟨l.length + 1, some ⟨g2, 0, none⟩, cap, l ++ [x != 0], by omega, by go_num, by simp, by simpa [TlS] using D9.out⟩
                  case measure => simp [intOf]; omega
              · have hq : RegSmall ⟨r.wide, r.tall, l⟩ := ⟨hr1.1, hr1.2.1, hr1.2.2.1, hr1.2.2.2.1, by show l.length ≤ 37; omega⟩
                obtain ⟨b0, b1, b2, e0, e1, e2⟩ := three_cells (HD.out.s.blk 0 rfl)
                have E1 := Lib.hid (HD.out.put3 0 rfl (.int .i64 r.wide) (.int .i64 r.tall) (.slice a2 l.length c2))
                obtain ⟨q0, q1, q2, _⟩ := three_cells (E1.out.s.blk 0 rfl)
                have Q0 := Lib.hid q0
                have Q1 := Lib.hid q1
                have Q2 := Lib.hid q2
                have DN := Lib.hid (drawn_n (E1.out.weak (M := N + 200) (by omega)) 5 rfl hq)
                clear q0 q1 q2
                go_wp2
                exact bodyPost_ret (by simp [results, Try.results99, go_sem, Q0.out, Q1.out, Q2.out]) rfl DN.out
end Go.Proofs.Ytbhogphgpigpdaa
