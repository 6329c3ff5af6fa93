/- Walks: l20Laid: a drawn region and a list of dominoes on it. -/
import Derived.Test.YtklifibiadiinaaDoorVSome
import Derived.Test.YtklifibiadiinaaDoorVWcompB
set_option linter.unusedVariables false
namespace Go.Proofs.YtklifibiadiinaaDoor
open Go.RowKit Domi

theorem compl_le (r : Reg) : ∀ (n : Nat) (L : List Int), (compl n r L).1.length ≤ L.length := by
  intro n
  induction n with
  | zero => intro L; simp [compl]
  | succ n ih =>
    intro L
    unfold compl
    cases firstN r L with
    | none => exact Nat.le_refl _
    | some k =>
      simp only
      split
      · exact Nat.le_trans (ih _) (by rw [layL_len]; exact Nat.le_refl _)
      · split
        · exact Nat.le_trans (ih _) (by rw [layL_len]; exact Nat.le_refl _)
        · simp
theorem completeR_le (r : Reg) (L : List Int) : (completeR r L).1.length ≤ L.length := by
  unfold completeR; split
  · exact compl_le r 40 L
  · simp
theorem bareL_le (r : Reg) : (bareL r).length ≤ r.cells.length := by
  unfold bareL; split <;> simp
theorem firstR_le (r : Reg) : (firstR r).1.length ≤ r.cells.length := Nat.le_trans (completeR_le r _) (bareL_le r)
theorem layOne_le (r : Reg) (L : List Int) (c way : Int) : (layOne r L c way).1.length ≤ L.length := by
  unfold layOne; split
  · split
    · rw [layL_len]; exact Nat.le_refl _
    · exact Nat.le_refl _
  · simp
theorem liftOne_le (r : Reg) (L : List Int) (c : Int) : (liftOne r L c).1.length ≤ L.length := by
  unfold liftOne; split
  · split
    · rw [liftL_len]; exact Nat.le_refl _
    · exact Nat.le_refl _
  · simp

def LaidN (w : World) (b : Nat) (sl : Value) (ys : List Int) (M : Nat) (e : Ending) (w' : World) : Prop :=
  ∃ (s : Value) (r : Reg) (u : Value) (L : List Int), e = .returned (.tuple #[.agg #[.int .i64 r.wide, .int .i64 r.tall, s], u]) ∧ Own w' w.heap.size 4 s (r.cells.map Value.bool) ∧ Own w' w.heap.size 3 u (L.map (Value.int .i64)) ∧ RegSmall r ∧ L.length ≤ 37 ∧ w.grownBy w' (some b) ∧ RdN w' b sl ys M
/-- The list of the draw, in the midst. -/
def LaidC (w : World) (b : Nat) (sl : Value) (ys : List Int) (N : Nat) (r : Reg) (s : Value) (X : Nat) (u : Value) (wx : World) : Prop :=
  ∃ (a : Option Addr) (c : Nat) (L : List Int), u = .slice a L.length c ∧ L.length ≤ r.cells.length ∧ Dr w b sl ys N wx (TlS w r s X (.slice a L.length c) L)
theorem laidC_new {w wr w' : World} {b : Nat} {sl : Value} {ys : List Int} {N M : Nat} {r : Reg} {s : Value} {X : Nat} {v u : Value} {L K : List Int} (h : Dr w b sl ys N wr (TlS w r s X v L)) (hb : Below wr.heap.size wr w') (ho : Own w' wr.heap.size 3 u (K.map (Value.int .i64))) (hl : K.length ≤ r.cells.length) (hM : N ≤ M) : LaidC w b sl ys M r s X u w' := by
  obtain ⟨a, c, rfl⟩ := ho.formM
  exact ⟨a, c, K, rfl, hl, (tlS_next h hb ho).weak hM⟩

set_option maxRecDepth 100000 in
set_option maxHeartbeats 4000000 in
theorem laid_n (b : Nat) (sl : Value) (ys : List Int) (N : Nat) (n : Int) (w : World) (h : RdN w b sl ys N) (hN : N < 40000) (hn : 0 ≤ n ∧ n ≤ 100000) :
    Calls Tryd.prog 24 #[.pointer (some ⟨b, 0, none⟩), .int .i64 n] w (LaidN w b sl ys (N + 500)) := by
  have hb := rdN_lt h
  have D0 := Lib.hid ((Dr.start h).box #[.int .i64 0, .int .i64 0, .slice none 0 0] 25)
  clear h
  go_enter Tryd.func24, Tryd.ntmps24
  go_wp2_with (fail)
  refine (some_n b sl ys N (2 * n) _ D0.out.r (by omega) (by omega)).mono ?_
  rintro e w1 ⟨s, r, rfl, ho1, hr1, hg1, hd1⟩
  have D1 := Lib.hid ((D0.out.row hg1 hd1 ho1).box #[.int .i64 r.wide, .int .i64 r.tall, s] 25)
  obtain ⟨p1, n1, rfl⟩ := ho1.formM
  clear ho1 hg1 hd1 D0
  go_wp2_with (fail)
  obtain ⟨q0, hq0⟩ : ∃ q, firstR r = q := ⟨_, rfl⟩
  have hq0l : q0.1.length ≤ r.cells.length := by rw [← hq0]; exact firstR_le r
  refine (sTilingFirst_any _ r _ ⟨_, rfl, (D1.out.s.own 1 rfl).sl⟩).mono ?_
  rw [hq0]
  obtain ⟨q, c0⟩ := q0
  rintro e w2 ⟨u2, rfl, ho2, hb2⟩
  have D2 := Lib.hid (D1.out.fresh hb2 ho2)
  clear hq0 hb2 D1
  generalize w1.heap.size = X at *
  obtain ⟨ua, uc, rfl⟩ := ho2.formM
  clear ho2
  have D2 : Hid (Dr w b sl ys (N + 300) w2 (TlS w r (.slice p1 r.cells.length n1) X (.slice ua q.length uc) q)) := D2
  have hq0l : q.length ≤ r.cells.length := hq0l
  have hr37 : r.cells.length ≤ 37 := hr1.2.2.2.2
  go_upto_region 3 with (fail)
  go_cut [32] (fun s32 wx => ∃ c, s32 = .bool c ∧ Dr w b sl ys (N + 301) wx (TlS w r (.slice p1 r.cells.length n1) X (.slice ua q.length uc) q))
  case first =>
    cases c0
    · go_wp2
      go_meet
      exact ⟨true, rfl, D2.out.weak (by omega)⟩
    · go_wp2_with (fail)
      refine (pick_n b sl ys (N + 300) 3 _ D2.out.r (by omega)).mono ?_
      rintro e w3 ⟨k3, rfl, hk3, hg3, hr3⟩
      have D3 := Lib.hid (D2.out.picked hg3 hr3)
      clear hg3 hr3
      go_wp2
      go_meet
      exact ⟨k3 == 0, rfl, D3.out⟩
  case rest =>
    obtain ⟨c, rfl, hD⟩ := hcut
    have D3 := Lib.hid hD
    clear hD D2
    go_upto_if 32 with (fail)
    go_cut [7] (fun s7 wx => LaidC w b sl ys (N + 400) r (.slice p1 r.cells.length n1) X s7 wx)
    case first =>
      cases c
      · go_wp2
        go_meet
        exact ⟨ua, uc, q, rfl, hq0l, D3.out.weak (by omega)⟩
      · obtain ⟨x0, x1, x2, _⟩ := three_cells (D3.out.s.blk 2 rfl)
        go_wp2_with (fail)
        refine (sLaidBare_any _ r _ ⟨_, rfl, (D3.out.s.own 1 rfl).sl⟩).mono ?_
        rintro e w4 ⟨u4, rfl, ho4, hb4⟩
        have C4 := Lib.hid (laidC_new D3.out hb4 ho4 (bareL_le r) (Nat.le_refl _))
        clear ho4 hb4 x0 x1 x2 D3
        obtain ⟨a4, c4, L4, rfl, hl4, hD4⟩ := C4.out
        have D4 := Lib.hid hD4
        clear hD4 C4
        go_wp2_with (fail)
        refine (pick_n b sl ys (N + 301) 16 _ D4.out.r (by omega)).mono ?_
        rintro e w5 ⟨k5, rfl, hk5, hg5, hr5⟩
        have D5 := Lib.hid (D4.out.picked hg5 hr5)
        obtain ⟨k5, rfl⟩ := Int.eq_ofNat_of_zero_le hk5.1
        have hk5' : k5 ≤ 15 := by omega
        clear hg5 hr5 D4 hk5
        go_wp2_with (fail)
        go_loopw [7, 9] (fun u i wr => ∃ (j M : Nat) (a : Option Addr) (c : Nat) (L : List Int), j ≤ 15 ∧ i = .int .i64 j ∧ M + 2 * j ≤ N + 340 ∧ u = .slice a L.length c ∧ L.length ≤ r.cells.length ∧ Dr w b sl ys M wr (TlS w r (.slice p1 r.cells.length n1) X (.slice a L.length c) L)) (fun _ i _ => (intOf i).toNat)
        case atStart => exact ⟨k5, N + 302, a4, c4, L4, hk5', rfl, by omega, rfl, hl4, D5.out⟩
        case round =>
          clear D5
          obtain ⟨j, M, a, c, L, hj, rfl, hM, rfl, hl, hD⟩ := hrel
          have HD := Lib.hid hD
          clear hD
          by_cases hj0 : 0 < j
          · by_cases hL0 : 0 < L.length
            · obtain ⟨x0, x1, x2, _⟩ := three_cells (HD.out.s.blk 2 rfl)
              have sX := HD.out.s.lt 2 rfl rfl
              go_wp2_with (fail)
              go_region_held3 (fun w' => w'.cell? ⟨X, 0, none⟩ = some (.int .i64 r.wide) ∧ w'.cell? ⟨X, 1, none⟩ = some (.int .i64 r.tall) ∧ w'.cell? ⟨X, 2, none⟩ = some (.slice p1 r.cells.length n1))
                (first | with_reducible exact K8.out | with_reducible exact K7.out | with_reducible exact K6.out | (go_keep; done) | assumption)
                ((first
                  | (go_at_call 48; refine (sLayOne_any _ _ r L k6 (1 + k7) _ ⟨_, rfl, (D7.out.s.own 1 rfl).sl⟩ (own_il (D7.out.s.own 3 rfl))).mono ?_; rintro e w8 ⟨v8, rfl, ho8, hb8⟩; (have C8 := Lib.hid (laidC_new D7.out hb8 ho8 (Nat.le_trans (layOne_le r L _ _) hl) (Nat.le_refl _))); (have D8 := Lib.hid (D7.out.below hb8)); (have K8 := Lib.hid (Sep.c3 D8.out.s 2 rfl)); clear ho8 hb8)
                  | (go_at_call 36; refine (pick_n b sl ys (M + 1) 4 _ D6.out.r (by omega)).mono ?_; rintro e w7 ⟨k7, rfl, hk7, hg7, hr7⟩; (have D7 := Lib.hid (D6.out.picked hg7 hr7)); (have K7 := Lib.hid (Sep.c3 D7.out.s 2 rfl)); (have wl : IntKind.i64.wrap (1 + k7) = 1 + k7 := IntWalk.i64_in _ (by omega)); clear hg7 hr7)
                  | (go_at_call 36; refine (pick_n b sl ys M (L.length : Int) _ HD.out.drew.r (by omega)).mono ?_; rintro e w6 ⟨k6, rfl, hk6, hg6, hr6⟩; (have D6 := Lib.hid (HD.out.drew.picked hg6 hr6)); (have K6 := Lib.hid (Sep.c3 D6.out.s 2 rfl)); clear hg6 hr6)))
              clear x0 x1 x2 sX K6 K7 K8
              obtain ⟨q8, hq8⟩ : ∃ q, layOne r L k6 (1 + k7) = q := ⟨_, rfl⟩
              rw [hq8]
              clear hq8
              cases hq82 : q8.2
              · go_wp2
                go_roundw
                case rel => exact ⟨j - 1, M + 2, a, c, L, by omega, by go_num, by omega, rfl, hl, D8.out⟩
                case measure => simp [intOf]; omega
              · obtain ⟨a9, c9, L9, rfl, hl9, hD9⟩ := C8.out
                have D9 := Lib.hid hD9
                clear hD9
                go_wp2
                go_roundw
                case rel => exact ⟨j - 1, M + 2, a9, c9, L9, by omega, by go_num, by omega, rfl, hl9, D9.out⟩
                case measure => simp [intOf]; omega
            · skip
              go_wp2_with (fail)
              refine (pick_n b sl ys M 2 _ HD.out.r (by omega)).mono ?_
              rintro e w6 ⟨k6, rfl, hk6, hg6, hr6⟩
              have D6 := Lib.hid (HD.out.picked hg6 hr6)
              clear hg6 hr6
              by_cases hk0 : k6 = 0
              · subst hk0
                obtain ⟨x0, x1, x2, _⟩ := three_cells (D6.out.s.blk 2 rfl)
                go_wp2_with (fail)
                refine (sComplete_any _ _ r L _ ⟨_, rfl, (D6.out.s.own 1 rfl).sl⟩ (own_il (D6.out.s.own 3 rfl))).mono ?_
                rintro e w7 ⟨v7, rfl, ho7, hb7⟩
                have C7 := Lib.hid (laidC_new (M := N + 400) D6.out hb7 ho7 (Nat.le_trans (completeR_le r L) hl) (by omega))
                have D7 := Lib.hid (D6.out.below hb7)
                clear ho7 hb7 x0 x1 x2
                obtain ⟨q7, hq7⟩ : ∃ q, completeR r L = q := ⟨_, rfl⟩
                rw [hq7]
                clear hq7
                cases hq72 : q7.2
                · go_wp2
                  go_meet
                  exact ⟨a, c, L, rfl, hl, D7.out.weak (by omega)⟩
                · obtain ⟨a9, c9, L9, rfl, hl9, hD9⟩ := C7.out
                  have D9 := Lib.hid hD9
                  clear hD9
                  go_wp2
                  go_meet
                  exact ⟨a9, c9, L9, rfl, hl9, D9.out⟩
              · have hke : (k6 == 0) = false := by simpa using hk0
                go_wp2
                go_meet
                exact ⟨a, c, L, rfl, hl, D6.out.weak (by omega)⟩
          · skip
            go_wp2_with (fail)
            refine (pick_n b sl ys M 2 _ HD.out.r (by omega)).mono ?_
            rintro e w6 ⟨k6, rfl, hk6, hg6, hr6⟩
            have D6 := Lib.hid (HD.out.picked hg6 hr6)
            clear hg6 hr6
            by_cases hk0 : k6 = 0
            · subst hk0
              obtain ⟨x0, x1, x2, _⟩ := three_cells (D6.out.s.blk 2 rfl)
              go_wp2_with (fail)
              refine (sComplete_any _ _ r L _ ⟨_, rfl, (D6.out.s.own 1 rfl).sl⟩ (own_il (D6.out.s.own 3 rfl))).mono ?_
              rintro e w7 ⟨v7, rfl, ho7, hb7⟩
              have C7 := Lib.hid (laidC_new (M := N + 400) D6.out hb7 ho7 (Nat.le_trans (completeR_le r L) hl) (by omega))
              have D7 := Lib.hid (D6.out.below hb7)
              clear ho7 hb7 x0 x1 x2
              obtain ⟨q7, hq7⟩ : ∃ q, completeR r L = q := ⟨_, rfl⟩
              rw [hq7]
              clear hq7
              cases hq72 : q7.2
              · go_wp2
                go_meet
                exact ⟨a, c, L, rfl, hl, D7.out.weak (by omega)⟩
              · obtain ⟨a9, c9, L9, rfl, hl9, hD9⟩ := C7.out
                have D9 := Lib.hid hD9
                clear hD9
                go_wp2
                go_meet
                exact ⟨a9, c9, L9, rfl, hl9, D9.out⟩
            · have hke : (k6 == 0) = false := by simpa using hk0
              go_wp2
              go_meet
              exact ⟨a, c, L, rfl, hl, D6.out.weak (by omega)⟩
    case rest =>
      obtain ⟨a, c2, L, rfl, hl, hD⟩ := hcut
      have D4 := Lib.hid hD
      clear hD D3
      go_wp2_with (fail)
      go_loopw [7, 14] (fun u i wr => ∃ (k M : Nat) (a : Option Addr) (c : Nat) (L : List Int), k ≤ 37 ∧ i = .int .i64 k ∧ M ≤ N + 400 + k ∧ u = .slice a L.length c ∧ L.length ≤ r.cells.length ∧ Dr w b sl ys M wr (TlS w r (.slice p1 r.cells.length n1) X (.slice a L.length c) L)) (fun _ i _ => 40 - (intOf i).toNat)
      case atStart => exact ⟨0, N + 400, a, c2, L, by omega, rfl, by omega, rfl, hl, D4.out⟩
      case round =>
        clear D4
        obtain ⟨k, M, a, c, L, hk, rfl, hM, rfl, hl, hD⟩ := hrel
        have HD := Lib.hid hD
        clear hD
        by_cases hlt : k < L.length
        · go_wp2_with (fail)
          refine (pick_n b sl ys M 12 _ HD.out.r (by omega)).mono ?_
          rintro e w6 ⟨k6, rfl, hk6, hg6, hr6⟩
          have D6 := Lib.hid (HD.out.picked hg6 hr6)
          clear hg6 hr6
          by_cases hk0 : k6 = 0
          · subst hk0
            obtain ⟨x0, x1, x2, _⟩ := three_cells (D6.out.s.blk 2 rfl)
            go_wp2_with (fail)
            refine (sLiftOne_any _ _ r L k _ ⟨_, rfl, (D6.out.s.own 1 rfl).sl⟩ (own_il (D6.out.s.own 3 rfl))).mono ?_
            rintro e w7 ⟨v7, rfl, ho7, hb7⟩
            have C7 := Lib.hid (laidC_new (M := M + 1) D6.out hb7 ho7 (Nat.le_trans (liftOne_le r L _) hl) (by omega))
            have D7 := Lib.hid (D6.out.below hb7)
            clear ho7 hb7 x0 x1 x2
            obtain ⟨q7, hq7⟩ : ∃ q, liftOne r L k = q := ⟨_, rfl⟩
            rw [hq7]
            clear hq7
            cases hq72 : q7.2
            · go_wp2
              go_roundw
              case rel => exact ⟨k + 1, M + 1, a, c, L, by omega, by go_num, by omega, rfl, hl, D7.out⟩
              case measure => simp [intOf]; omega
            · obtain ⟨a9, c9, L9, rfl, hl9, hD9⟩ := C7.out
              have D9 := Lib.hid hD9
              clear hD9
              go_wp2
              go_roundw
              case rel => exact ⟨k + 1, M + 1, a9, c9, L9, by omega, by go_num, by omega, rfl, hl9, D9.out⟩
              case measure => simp [intOf]; omega
          · have hke : (k6 == 0) = false := by simpa using hk0
            go_wp2
            go_roundw
            case rel => exact ⟨k + 1, M + 1, a, c, L, by omega, by go_num, by omega, rfl, hl, D6.out⟩
            case measure => simp [intOf]; omega
        · go_wp2_with (fail)
          refine (odd_n b sl ys M (2 * n) _ HD.out.r (by omega) (by omega)).mono ?_
          rintro e w6 ⟨c6, rfl, hg6, hr6⟩
          have D6 := Lib.hid (HD.out.picked hg6 hr6)
          clear hg6 hr6
          cases c6
          · have HF := D6
            obtain ⟨a0, a1, a2, e0, e1, e2⟩ := three_cells (HF.out.s.blk 0 rfl)
            obtain ⟨y0, y1, y2, _⟩ := three_cells (HF.out.s.blk 2 rfl)
            have E1 := Lib.hid (HF.out.put3 0 rfl (.int .i64 r.wide) (.int .i64 r.tall) (.slice p1 r.cells.length n1))
            obtain ⟨q0, q1, q2, _⟩ := three_cells (E1.out.s.blk 0 rfl)
            have Q0 := Lib.hid q0
            have Q1 := Lib.hid q1
            have Q2 := Lib.hid q2
            have DN : Hid (LaidN w b sl ys (N + 500) (.returned (.tuple #[.agg #[.int .i64 r.wide, .int .i64 r.tall, .slice p1 r.cells.length n1], .slice a L.length c])) _) := Lib.hid ⟨_, r, _, L, rfl, E1.out.s.high 1 rfl, E1.out.s.high 3 rfl, hr1, by omega, E1.out.s.g, rdN_mono E1.out.r (by omega)⟩
            clear q0 q1 q2
            go_wp2
            exact bodyPost_ret (by simp [results, Tryd.results24, go_sem, Q0.out, Q1.out, Q2.out]) rfl DN.out
          · by_cases hL0 : 0 < L.length
            · obtain ⟨g, cg, hge, _, hg2, hg3, hg4⟩ := (D6.out.s.own 3 rfl).formN (by rw [List.length_map]; exact hL0)
              rw [List.length_map] at hge
              obtain ⟨rfl, hcg⟩ : a = some ⟨g, 0, none⟩ ∧ c = cg := by simpa using hge
              subst hcg
              clear hge
              go_wp2_with (fail)
              refine (pick_n b sl ys (M + 1) (L.length : Int) _ D6.out.r (by omega)).mono ?_
              rintro e w7 ⟨k7, rfl, hk7, hg7, hr7⟩
              have D7 := Lib.hid (D6.out.picked hg7 hr7)
              obtain ⟨k7, rfl⟩ := Int.eq_ofNat_of_zero_le hk7.1
              have hk7L : k7 < L.length := by omega
              clear hg7 hr7
              go_wp2_with (fail)
              refine (pick_n b sl ys (M + 2) 6 _ D7.out.r (by omega)).mono ?_
              rintro e w8 ⟨k8, rfl, hk8, hg8, hr8⟩
              have D8 := Lib.hid (D7.out.picked hg8 hr8)
              clear hg8 hr8
              obtain ⟨z0, z1, z2⟩ := own_num (D8.out.s.own 3 rfl) (j := k7) hk7L
              have HF := Lib.hid (D8.out.set 3 rfl k7 (.int .i64 k8))
              rw [show List.set (List.map (Value.int IntKind.i64) L) k7 (Value.int IntKind.i64 k8) = List.map (Value.int IntKind.i64) (L.set k7 k8) by rw [List.map_set]] at HF
              obtain ⟨a0, a1, a2, e0, e1, e2⟩ := three_cells (HF.out.s.blk 0 rfl)
              obtain ⟨y0, y1, y2, _⟩ := three_cells (HF.out.s.blk 2 rfl)
              have E1 := Lib.hid (HF.out.put3 0 rfl (.int .i64 r.wide) (.int .i64 r.tall) (.slice p1 r.cells.length n1))
              obtain ⟨q0, q1, q2, _⟩ := three_cells (E1.out.s.blk 0 rfl)
              have Q0 := Lib.hid q0
              have Q1 := Lib.hid q1
              have Q2 := Lib.hid q2
              have DN : Hid (LaidN w b sl ys (N + 500) (.returned (.tuple #[.agg #[.int .i64 r.wide, .int .i64 r.tall, .slice p1 r.cells.length n1], .slice (some ⟨g, 0, none⟩) L.length c])) _) := Lib.hid ⟨_, r, _, L.set k7 k8, rfl, E1.out.s.high 1 rfl, E1.out.s.high 3 rfl, hr1, by (rw [List.length_set]; omega), E1.out.s.g, rdN_mono E1.out.r (by omega)⟩
              clear q0 q1 q2
              go_wp2
              exact bodyPost_ret (by simp [results, Tryd.results24, go_sem, Q0.out, Q1.out, Q2.out]) rfl DN.out
            · have HF := D6
              obtain ⟨a0, a1, a2, e0, e1, e2⟩ := three_cells (HF.out.s.blk 0 rfl)
              obtain ⟨y0, y1, y2, _⟩ := three_cells (HF.out.s.blk 2 rfl)
              have E1 := Lib.hid (HF.out.put3 0 rfl (.int .i64 r.wide) (.int .i64 r.tall) (.slice p1 r.cells.length n1))
              obtain ⟨q0, q1, q2, _⟩ := three_cells (E1.out.s.blk 0 rfl)
              have Q0 := Lib.hid q0
              have Q1 := Lib.hid q1
              have Q2 := Lib.hid q2
              have DN : Hid (LaidN w b sl ys (N + 500) (.returned (.tuple #[.agg #[.int .i64 r.wide, .int .i64 r.tall, .slice p1 r.cells.length n1], .slice a L.length c])) _) := Lib.hid ⟨_, r, _, L, rfl, E1.out.s.high 1 rfl, E1.out.s.high 3 rfl, hr1, by omega, E1.out.s.g, rdN_mono E1.out.r (by omega)⟩
              clear q0 q1 q2
              go_wp2
              exact bodyPost_ret (by simp [results, Tryd.results24, go_sem, Q0.out, Q1.out, Q2.out]) rfl DN.out
end Go.Proofs.YtklifibiadiinaaDoor
