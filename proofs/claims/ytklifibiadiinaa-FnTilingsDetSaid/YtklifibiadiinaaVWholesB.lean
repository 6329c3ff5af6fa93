/- Walks: holes, HolesMany of the program. -/
import Derived.Test.YtklifibiadiinaaVWholes
import Derived.Laws.EntriesVeiled
set_option linter.unusedVariables false
namespace Go.Proofs.Ytklifibiadiinaa
open Go.RowKit Domi

theorem rootsN_le {r : Reg} (c : Nat) : rootsN (E8 r) r.fr c ≤ c := num_le _ _

/-- The variables of the search, made one after the other. -/
theorem hole_boxes {w W : World} (F : Value) {R : Array Value} {tR : TypeId} {a b : Value} {gR gW gT : Nat} {cs : Array Value} {n : Nat} (S : Sep w none W [.box gR R tR, .box gW #[a] 3, .box gT #[b] 3]) (hcs : Hid (cs = Array.replicate n (.bool false))) (hn : n ≤ 9223372036854775807) :
    Hid (Sep w none (((W.alloc (.cells cs 4)).alloc (.cells #[.slice (some ⟨W.heap.size, 0, none⟩) n n] 22)).alloc (.cells #[F] 85))
      [.box gR R tR, .box gW #[a] 3, .box gT #[b] 3, .row 4 (.slice (some ⟨W.heap.size, 0, none⟩) n n) ((List.replicate n false).map Value.bool), .box (W.heap.size + 1) #[.slice (some ⟨W.heap.size, 0, none⟩) n n] 22, .box (W.heap.size + 1 + 1) #[F] 85]) := Lib.hid (by
  have := ((S.made (e := 4) hcs hn).box #[.slice (some ⟨W.heap.size, 0, none⟩) n n] 22).box #[F] 85
  rw [show List.replicate n (Value.bool false) = (List.replicate n false).map Value.bool by simp] at this
  simpa using this)

set_option maxRecDepth 100000 in
set_option maxHeartbeats 4000000 in
theorem holes_any (v : Value) (r : Reg) (w : World) (h : RegV w v r) (hv : r.valid = true) :
    Calls Try.prog 68 #[v] w (Ret (.int .i64 r.holes) w) := by
  obtain ⟨b1, b2, b3, b4⟩ := Reg.valid_iff.1 hv
  obtain ⟨a, cap, rfl, hs, hlc, hcm⟩ := h.opened
  have RV : ∀ w', Below w.heap.size w w' → RegV w' (.agg #[.int .i64 r.wide, .int .i64 r.tall, .slice a r.cells.length cap]) r := fun w' hb => ⟨_, rfl, hs.below hb⟩
  have S0 := Lib.hid ((Sep.start w none).box #[.int .i64 r.wide, .int .i64 r.tall, .slice a r.cells.length cap] 28)
  have hA := area_in' b1 b2
  have hN := n2_int (r := r) (by omega) (by omega)
  have hA0 : 0 ≤ (r.wide + 2) * (r.tall + 2) := by omega
  have HNN := Lib.hid hN
  have HN64 := Lib.hid (show r.n2 ≤ 9223372036854775807 by omega)
  clear hs h b4
  go_enter Try.func68, Try.ntmps68
  go_wp2_with (fail)
  go_region
  · obtain ⟨W, hW⟩ : ∃ W, W = (((w.alloc (.cells #[.int .i64 r.wide, .int .i64 r.tall, .slice a r.cells.length cap] 28)).alloc (.cells #[.int .i64 (r.wide + 2)] 3)).alloc (.cells #[.int .i64 (r.tall + 2)] 3)).drew := ⟨_, rfl⟩
    have S1 : Hid (Sep w none W [.box w.heap.size #[.int .i64 r.wide, .int .i64 r.tall, .slice a r.cells.length cap] 28, .box (w.heap.size + 1) #[.int .i64 (r.wide + 2)] 3, .box (w.heap.size + 1 + 1) #[.int .i64 (r.tall + 2)] 3]) := Lib.hid (by
      have := (((S0.out.box #[.int .i64 (r.wide + 2)] 3).box #[.int .i64 (r.tall + 2)] 3).drew).pick [0, 1, 2] (by decide) rfl
      rw [← hW] at this
      simpa using this)
    rw [← hW]
    clear hW S0
    generalize w.heap.size + 1 + 1 = gT at *
    generalize w.heap.size + 1 = gW at *
    generalize hgR : w.heap.size = gR at S1 ⊢
    have c0 := cell_of_one (S1.out.blk 1 rfl)
    have c1 := cell_of_one (S1.out.blk 2 rfl)
    have s0 := S1.out.lt 1 rfl rfl
    have s1 := S1.out.lt 2 rfl rfl
    go_wp2_with (at_make; refine list_make elem_bools (.bool false) zero_bool rfl r.n2 (.tmp 18) (.tmp 18) rfl rfl ((r.wide + 2) * (r.tall + 2)) ?_ ?_ HNN.out.symm ?_ ?_ ?_; rfl; rfl; omega; omega; intro cs hcs; have S2 := hole_boxes (.func (.func 94) #[] #[.pointer (some ⟨gW, 0, none⟩), .pointer (some ⟨gT, 0, none⟩), .pointer (some ⟨W.heap.size + 1, 0, none⟩), .pointer (some ⟨gR, 0, none⟩), .pointer (some ⟨W.heap.size + 1 + 1, 0, none⟩)]) S1.out hcs HN64.out; have k1 := cell_of_one (S2.out.blk 2 rfl))
    have S3 := Lib.hid (S2.out.pick [1, 2, 4, 3, 0, 5] (by decide) rfl)
    clear c0 c1 s0 s1 k1 S1 S2
    obtain ⟨W3, hW3⟩ : ∃ W3, W3 = (((W.alloc (.cells cs 4)).alloc (.cells #[.slice (some ⟨W.heap.size, 0, none⟩) r.n2 r.n2] 22)).alloc (.cells #[(.func (.func 94) #[] #[.pointer (some ⟨gW, 0, none⟩), .pointer (some ⟨gT, 0, none⟩), .pointer (some ⟨W.heap.size + 1, 0, none⟩), .pointer (some ⟨gR, 0, none⟩), .pointer (some ⟨W.heap.size + 1 + 1, 0, none⟩)])] 85)) := ⟨_, rfl⟩
    rw [← hW3] at S3 ⊢
    have S4 : Hid (Sep w none W3 (HoS r (.slice a r.cells.length cap) gW gT (W.heap.size + 1) gR (W.heap.size + 1 + 1) W.heap.size (List.replicate r.n2 false))) := S3
    clear S3 hW3 hcs
    generalize W.heap.size + 1 + 1 = gF at *
    generalize W.heap.size + 1 = gM at *
    generalize W.heap.size = gm at *
    go_wp2_with (fail)
    go_loopw [7, 22] (fun n i wr => ∃ (y c : Nat) (M : List Bool), (y : Int) ≤ r.tall + 2 ∧ (c : Int) = y * (r.wide + 2) ∧ i = .int .i64 y ∧ n = .int .i64 ((rootsN (E8 r) r.fr c : Int) - 1) ∧ Sep w none wr (HoS r (.slice a r.cells.length cap) gW gT gM gR gF gm M) ∧ Marked (E8 r) r.fr r.n2 M c) (fun _ i _ => (r.tall + 2 - intOf i).toNat)
    case atStart => exact ⟨0, 0, _, by omega, by simp, rfl, rfl, S4.out, .start⟩
    case round =>
      clear S4
      obtain ⟨y, c, M, hy, hc, rfl, rfl, S, hM⟩ := hrel
      have HS := Lib.hid S
      have HM := Lib.hid hM
      have HC := Lib.hid hc
      have hr := rootsN_le (r := r) c
      clear S hM
      by_cases hlt : (y : Int) < r.tall + 2
      · obtain ⟨c0, c1, c2, ⟨c3, c4, c5⟩, c6⟩ := hoS_cells HS.out
        have hcb : c ≤ 64 := by
          have := xy_lt (w := r.wide + 2) (t := r.tall + 2) (x := 0) (y := (y : Int)) (by omega) (by omega) (by omega) (by omega)
          omega
        clear hc
        go_wp2_with (fail)
        clear c0 c1 c2 c3 c4 c5 c6
        go_loopw [7, 26] (fun n i w2 => ∃ (x d : Nat) (M : List Bool), (x : Int) ≤ r.wide + 2 ∧ (d : Int) = y * (r.wide + 2) + x ∧ i = .int .i64 x ∧ n = .int .i64 ((rootsN (E8 r) r.fr d : Int) - 1) ∧ Sep w none w2 (HoS r (.slice a r.cells.length cap) gW gT gM gR gF gm M) ∧ Marked (E8 r) r.fr r.n2 M d) (fun _ i _ => (r.wide + 2 - intOf i).toNat)
        case atStart => exact ⟨0, c, M, by omega, by have := HC.out; simp; omega, rfl, rfl, HS.out, HM.out⟩
        case round =>
          clear HS HM HC hr hcb
          obtain ⟨x, d, M1, hx, hd, rfl, rfl, S, hM⟩ := hrel
          have HS := Lib.hid S
          have HM := Lib.hid hM
          have HD := Lib.hid hd
          have hr := rootsN_le (r := r) d
          clear S hM hd
          by_cases hlx : (x : Int) < r.wide + 2
          · obtain ⟨d', hp, hcl, hcn, hn3, hmul, hk0⟩ := hole_place hv (x := x) (y := y) (by omega) (by omega)
            have e : d' = d := by have := hp.2.2.2.2; have := HD.out; omega
            subst e
            obtain ⟨u1, u2, u3⟩ := own_bool (HS.out.own 3 rfl) (j := d') (by rw [HM.out.1]; exact hcl)
            have HP := Lib.hid hp
            rw [← hcn] at u1 u2
            obtain ⟨c0, c1, c2, ⟨c3, c4, c5⟩, c6⟩ := hoS_cells HS.out
            cases hmet : M1.getD (y * (r.wide + 2) + x).toNat false
            · rw [hmet] at u1
              rw [hcn] at hmet
              have HT := Lib.hid hmet
              clear hmet hp hcn
              cases hat : r.at_ ((x : Int) - 1) ((y : Int) - 1)
              · have HF := Lib.hid (show r.fr d' = true by rw [HP.out.fr (by omega) (by omega), hat]; rfl)
                have HA := Lib.hid hat
                clear hat
                go_wp2_with (fail)
                refine (at_is _ r _ _ _ (RV _ HS.out.bel) hv (by omega) (by omega) false HA.out).mono ?_
                rintro e w3 ⟨rfl, hb⟩
                have HS3 := Lib.hid (HS.out.below hb)
                clear hb c0 c1 c2 c3 c4 c5 c6 u1 u2 u3 HS
                obtain ⟨c0, c1, c2, ⟨c3, c4, c5⟩, c6⟩ := hoS_cells HS3.out
                go_wp2_with (fail)
                refine (hole_any (w0 := w) hv RV HM.out.1 (by omega) (by omega) HS3.out).mono ?_
                rintro e w4 ⟨rfl, M4, hD4, hS4⟩
                have HS4 := Lib.hid hS4
                have HN := Lib.hid (HM.out.next (fun _ _ e => e.symm) (fun _ _ e => e.2.1) HF.out HT.out (hD4.congr fun k _ => ⟨fun h => h.uniq HP.out, fun e => by subst e; exact HP.out⟩))
                have hR := Lib.hid (rootsN_yes HF.out HN.out.2)
                clear hS4 hD4 c0 c1 c2 c3 c4 c5 c6
                go_wp2
                go_roundw
                case rel => exact ⟨x + 1, d' + 1, M4, by omega, by have := HD.out; omega, by go_num, by rw [hR.out]; go_num, HS4.out, HN.out.1⟩
                case measure => simp [intOf]; omega
              · have HF := Lib.hid (show r.fr d' = false by rw [HP.out.fr (by omega) (by omega), hat]; rfl)
                have HA := Lib.hid hat
                have hR := Lib.hid (rootsN_no (E := E8 r) (.inl HF.out))
                have HN := Lib.hid (HM.out.skip (fun _ _ e => e.symm) (fun _ _ e => e.2.1) (.inl HF.out))
                clear hat
                go_wp2_with (fail)
                refine (at_is _ r _ _ _ (RV _ HS.out.bel) hv (by omega) (by omega) true HA.out).mono ?_
                rintro e w3 ⟨rfl, hb⟩
                have HS3 := Lib.hid (HS.out.below hb)
                clear hb c0 c1 c2 c3 c4 c5 c6 u1 u2 u3 HS
                go_wp2
                go_roundw
                case rel => exact ⟨x + 1, d' + 1, M1, by omega, by have := HD.out; omega, by go_num, by rw [hR.out], HS3.out, HN.out⟩
                case measure => simp [intOf]; omega
            · rw [hmet] at u1
              rw [hcn] at hmet
              have hR := Lib.hid (rootsN_no (fr := r.fr) (.inr (HM.out.met hmet)))
              have HN := Lib.hid (HM.out.skip (fun _ _ e => e.symm) (fun _ _ e => e.2.1) (.inr hmet))
              clear hmet hp hcn
              go_wp2
              go_roundw
              case rel => exact ⟨x + 1, d' + 1, M1, by omega, by have := HD.out; omega, by go_num, by rw [hR.out], HS.out, HN.out⟩
              case measure => simp [intOf]; omega
          · have e : (x : Int) = r.wide + 2 := by omega
            have HC2 := Lib.hid (show (d : Int) = ((y + 1 : Nat) : Int) * (r.wide + 2) by have := HD.out; rw [e] at this; rw [this]; push_cast; rw [Int.add_mul]; omega)
            clear e
            go_wp2
            go_roundw
            case rel => exact ⟨y + 1, d, M1, by omega, HC2.out, by go_num, rfl, HS.out, HM.out⟩
            case measure => simp [intOf]; omega
      · have e : (y : Int) = r.tall + 2 := by omega
        have e2 : c = r.n2 := by rw [e, Int.mul_comm] at hc; omega
        clear hc
        go_wp2
        go_ret
        exact ⟨ret_int (by unfold Reg.holes; first | rfl | rw [e2]), HS.out.bel⟩
  · obtain ⟨W, hW⟩ : ∃ W, W = (((w.alloc (.cells #[.int .i64 r.wide, .int .i64 r.tall, .slice a r.cells.length cap] 28)).alloc (.cells #[.int .i64 (r.tall + 2)] 3)).alloc (.cells #[.int .i64 (r.wide + 2)] 3)).drew := ⟨_, rfl⟩
    have S1 : Hid (Sep w none W [.box w.heap.size #[.int .i64 r.wide, .int .i64 r.tall, .slice a r.cells.length cap] 28, .box (w.heap.size + 1 + 1) #[.int .i64 (r.wide + 2)] 3, .box (w.heap.size + 1) #[.int .i64 (r.tall + 2)] 3]) := Lib.hid (by
      have := (((S0.out.box #[.int .i64 (r.tall + 2)] 3).box #[.int .i64 (r.wide + 2)] 3).drew).pick [0, 2, 1] (by decide) rfl
      rw [← hW] at this
      simpa using this)
    rw [← hW]
    clear hW S0
    generalize w.heap.size + 1 + 1 = gW at *
    generalize w.heap.size + 1 = gT at *
    generalize hgR : w.heap.size = gR at S1 ⊢
    have c0 := cell_of_one (S1.out.blk 1 rfl)
    have c1 := cell_of_one (S1.out.blk 2 rfl)
    have s0 := S1.out.lt 1 rfl rfl
    have s1 := S1.out.lt 2 rfl rfl
    go_wp2_with (at_make; refine list_make elem_bools (.bool false) zero_bool rfl r.n2 (.tmp 18) (.tmp 18) rfl rfl ((r.wide + 2) * (r.tall + 2)) ?_ ?_ HNN.out.symm ?_ ?_ ?_; rfl; rfl; omega; omega; intro cs hcs; have S2 := hole_boxes (.func (.func 94) #[] #[.pointer (some ⟨gW, 0, none⟩), .pointer (some ⟨gT, 0, none⟩), .pointer (some ⟨W.heap.size + 1, 0, none⟩), .pointer (some ⟨gR, 0, none⟩), .pointer (some ⟨W.heap.size + 1 + 1, 0, none⟩)]) S1.out hcs HN64.out; have k1 := cell_of_one (S2.out.blk 2 rfl))
    have S3 := Lib.hid (S2.out.pick [1, 2, 4, 3, 0, 5] (by decide) rfl)
    clear c0 c1 s0 s1 k1 S1 S2
    obtain ⟨W3, hW3⟩ : ∃ W3, W3 = (((W.alloc (.cells cs 4)).alloc (.cells #[.slice (some ⟨W.heap.size, 0, none⟩) r.n2 r.n2] 22)).alloc (.cells #[(.func (.func 94) #[] #[.pointer (some ⟨gW, 0, none⟩), .pointer (some ⟨gT, 0, none⟩), .pointer (some ⟨W.heap.size + 1, 0, none⟩), .pointer (some ⟨gR, 0, none⟩), .pointer (some ⟨W.heap.size + 1 + 1, 0, none⟩)])] 85)) := ⟨_, rfl⟩
    rw [← hW3] at S3 ⊢
    have S4 : Hid (Sep w none W3 (HoS r (.slice a r.cells.length cap) gW gT (W.heap.size + 1) gR (W.heap.size + 1 + 1) W.heap.size (List.replicate r.n2 false))) := S3
    clear S3 hW3 hcs
    generalize W.heap.size + 1 + 1 = gF at *
    generalize W.heap.size + 1 = gM at *
    generalize W.heap.size = gm at *
    go_wp2_with (fail)
    go_loopw [7, 22] (fun n i wr => ∃ (y c : Nat) (M : List Bool), (y : Int) ≤ r.tall + 2 ∧ (c : Int) = y * (r.wide + 2) ∧ i = .int .i64 y ∧ n = .int .i64 ((rootsN (E8 r) r.fr c : Int) - 1) ∧ Sep w none wr (HoS r (.slice a r.cells.length cap) gW gT gM gR gF gm M) ∧ Marked (E8 r) r.fr r.n2 M c) (fun _ i _ => (r.tall + 2 - intOf i).toNat)
    case atStart => exact ⟨0, 0, _, by omega, by simp, rfl, rfl, S4.out, .start⟩
    case round =>
      clear S4
      obtain ⟨y, c, M, hy, hc, rfl, rfl, S, hM⟩ := hrel
      have HS := Lib.hid S
      have HM := Lib.hid hM
      have HC := Lib.hid hc
      have hr := rootsN_le (r := r) c
      clear S hM
      by_cases hlt : (y : Int) < r.tall + 2
      · obtain ⟨c0, c1, c2, ⟨c3, c4, c5⟩, c6⟩ := hoS_cells HS.out
        have hcb : c ≤ 64 := by
          have := xy_lt (w := r.wide + 2) (t := r.tall + 2) (x := 0) (y := (y : Int)) (by omega) (by omega) (by omega) (by omega)
          omega
        clear hc
        go_wp2_with (fail)
        clear c0 c1 c2 c3 c4 c5 c6
        go_loopw [7, 26] (fun n i w2 => ∃ (x d : Nat) (M : List Bool), (x : Int) ≤ r.wide + 2 ∧ (d : Int) = y * (r.wide + 2) + x ∧ i = .int .i64 x ∧ n = .int .i64 ((rootsN (E8 r) r.fr d : Int) - 1) ∧ Sep w none w2 (HoS r (.slice a r.cells.length cap) gW gT gM gR gF gm M) ∧ Marked (E8 r) r.fr r.n2 M d) (fun _ i _ => (r.wide + 2 - intOf i).toNat)
        case atStart => exact ⟨0, c, M, by omega, by have := HC.out; simp; omega, rfl, rfl, HS.out, HM.out⟩
        case round =>
          clear HS HM HC hr hcb
          obtain ⟨x, d, M1, hx, hd, rfl, rfl, S, hM⟩ := hrel
          have HS := Lib.hid S
          have HM := Lib.hid hM
          have HD := Lib.hid hd
          have hr := rootsN_le (r := r) d
          clear S hM hd
          by_cases hlx : (x : Int) < r.wide + 2
          · obtain ⟨d', hp, hcl, hcn, hn3, hmul, hk0⟩ := hole_place hv (x := x) (y := y) (by omega) (by omega)
            have e : d' = d := by have := hp.2.2.2.2; have := HD.out; omega
            subst e
            obtain ⟨u1, u2, u3⟩ := own_bool (HS.out.own 3 rfl) (j := d') (by rw [HM.out.1]; exact hcl)
            have HP := Lib.hid hp
            rw [← hcn] at u1 u2
            obtain ⟨c0, c1, c2, ⟨c3, c4, c5⟩, c6⟩ := hoS_cells HS.out
            cases hmet : M1.getD (y * (r.wide + 2) + x).toNat false
            · rw [hmet] at u1
              rw [hcn] at hmet
              have HT := Lib.hid hmet
              clear hmet hp hcn
              cases hat : r.at_ ((x : Int) - 1) ((y : Int) - 1)
              · have HF := Lib.hid (show r.fr d' = true by rw [HP.out.fr (by omega) (by omega), hat]; rfl)
                have HA := Lib.hid hat
                clear hat
                go_wp2_with (fail)
                refine (at_is _ r _ _ _ (RV _ HS.out.bel) hv (by omega) (by omega) false HA.out).mono ?_
                rintro e w3 ⟨rfl, hb⟩
                have HS3 := Lib.hid (HS.out.below hb)
                clear hb c0 c1 c2 c3 c4 c5 c6 u1 u2 u3 HS
                obtain ⟨c0, c1, c2, ⟨c3, c4, c5⟩, c6⟩ := hoS_cells HS3.out
                go_wp2_with (fail)
                refine (hole_any (w0 := w) hv RV HM.out.1 (by omega) (by omega) HS3.out).mono ?_
                rintro e w4 ⟨rfl, M4, hD4, hS4⟩
                have HS4 := Lib.hid hS4
                have HN := Lib.hid (HM.out.next (fun _ _ e => e.symm) (fun _ _ e => e.2.1) HF.out HT.out (hD4.congr fun k _ => ⟨fun h => h.uniq HP.out, fun e => by subst e; exact HP.out⟩))
                have hR := Lib.hid (rootsN_yes HF.out HN.out.2)
                clear hS4 hD4 c0 c1 c2 c3 c4 c5 c6
                go_wp2
                go_roundw
                case rel => exact ⟨x + 1, d' + 1, M4, by omega, by have := HD.out; omega, by go_num, by rw [hR.out]; go_num, HS4.out, HN.out.1⟩
                case measure => simp [intOf]; omega
              · have HF := Lib.hid (show r.fr d' = false by rw [HP.out.fr (by omega) (by omega), hat]; rfl)
                have HA := Lib.hid hat
                have hR := Lib.hid (rootsN_no (E := E8 r) (.inl HF.out))
                have HN := Lib.hid (HM.out.skip (fun _ _ e => e.symm) (fun _ _ e => e.2.1) (.inl HF.out))
                clear hat
                go_wp2_with (fail)
                refine (at_is _ r _ _ _ (RV _ HS.out.bel) hv (by omega) (by omega) true HA.out).mono ?_
                rintro e w3 ⟨rfl, hb⟩
                have HS3 := Lib.hid (HS.out.below hb)
                clear hb c0 c1 c2 c3 c4 c5 c6 u1 u2 u3 HS
                go_wp2
                go_roundw
                case rel => exact ⟨x + 1, d' + 1, M1, by omega, by have := HD.out; omega, by go_num, by rw [hR.out], HS3.out, HN.out⟩
                case measure => simp [intOf]; omega
            · rw [hmet] at u1
              rw [hcn] at hmet
              have hR := Lib.hid (rootsN_no (fr := r.fr) (.inr (HM.out.met hmet)))
              have HN := Lib.hid (HM.out.skip (fun _ _ e => e.symm) (fun _ _ e => e.2.1) (.inr hmet))
              clear hmet hp hcn
              go_wp2
              go_roundw
              case rel => exact ⟨x + 1, d' + 1, M1, by omega, by have := HD.out; omega, by go_num, by rw [hR.out], HS.out, HN.out⟩
              case measure => simp [intOf]; omega
          · have e : (x : Int) = r.wide + 2 := by omega
            have HC2 := Lib.hid (show (d : Int) = ((y + 1 : Nat) : Int) * (r.wide + 2) by have := HD.out; rw [e] at this; rw [this]; push_cast; rw [Int.add_mul]; omega)
            clear e
            go_wp2
            go_roundw
            case rel => exact ⟨y + 1, d, M1, by omega, HC2.out, by go_num, rfl, HS.out, HM.out⟩
            case measure => simp [intOf]; omega
      · have e : (y : Int) = r.tall + 2 := by omega
        have e2 : c = r.n2 := by rw [e, Int.mul_comm] at hc; omega
        clear hc
        go_wp2
        go_ret
        exact ⟨ret_int (by unfold Reg.holes; first | rfl | rw [e2]), HS.out.bel⟩

set_option maxHeartbeats 400000 in
theorem HolesMany_any (v : Value) (r : Reg) (w : World) (h : RegV w v r) : Calls Try.prog 34 #[v] w (Ret (.int .i64 r.holesR) w) := by
  obtain ⟨a, cap, rfl, hs, hlc, hcm⟩ := h.opened
  have Hs := Lib.hid hs
  clear hs h
  go_enter Try.func34, Try.ntmps34
  go_wp2_with (fail)
  refine (RegionValid_any _ r _ ⟨_, rfl, Hs.out.below (by go_grown)⟩).mono ?_
  rintro e w1 ⟨rfl, hb⟩
  have R1 := Lib.hid ((RB.new Hs.out).on hb)
  have Hb := Lib.hid (show Below w.heap.size w w1 from Below.trans (by go_grown) (hb.mono (by simp)))
  clear hb
  cases hv : r.valid
  · go_wp2
    go_ret
    exact ⟨ret_int (holesR_no hv).symm, Hb.out⟩
  · obtain ⟨c0, c1, c2⟩ := R1.out.c3
    go_wp2_with (fail)
    refine (holes_any _ r _ R1.out.v hv).mono ?_
    rintro e w2 ⟨rfl, hb⟩
    have HB := Lib.hid (Hb.out.trans (hb.mono Hb.out.size))
    clear hb c0 c1 c2
    go_wp2
    go_ret
    exact ⟨ret_int (holesR_yes hv).symm, HB.out⟩

end Go.Proofs.Ytklifibiadiinaa
