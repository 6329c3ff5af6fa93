/- Walks: parts, PartsOf, PartsMany of the program. -/
import Derived.Test.YtklifibiadiinaaVWk
import Derived.Test.YtklifibiadiinaaZa
import Derived.Test.YtklifibiadiinaaVLaw
set_option linter.unusedVariables false
namespace Go.Proofs.Ytklifibiadiinaa
open Go.RowKit Domi

theorem own_int {w : World} {B : Nat} {e : TypeId} {g n c : Nat} {L : List Int} (h : Own w B e (.slice (some ⟨g, 0, none⟩) n c) (L.map (Value.int .i64))) {j : Nat} (hj : j < L.length) :
    w.cell? ⟨g, j, none⟩ = some (.int .i64 (L.getD j 0)) ∧ w.frozen? ⟨g, j, none⟩ = false ∧ g < w.heap.size := by
  have hn : n = L.length := by obtain ⟨_, _, _, hn, _⟩ := h.block; simpa using hn
  obtain ⟨h1, h2, h3⟩ := h.cell j (by omega)
  refine ⟨?_, h2, h3⟩
  rw [h1, List.getElem?_map, List.getElem?_eq_getElem hj, ← Domi.get_at L 0 j hj]; rfl

/-- The items of the walk of parts. -/
def PtS (w : World) (r : Reg) (s : Value) (g : Nat) (L : List Int) : List It :=
  [.box w.heap.size #[.int .i64 r.wide, .int .i64 r.tall, s] 28, .row 3 (.slice (some ⟨g, 0, none⟩) r.cells.length r.cells.length) (L.map (Value.int .i64))]
theorem ptS_set {w wr : World} {r : Reg} {s : Value} {g : Nat} {L : List Int} (h : Sep w none wr (PtS w r s g L)) (k : Nat) (x : Int) : Sep w none (wr.setCell ⟨g, k, none⟩ (.int .i64 x)) (PtS w r s g (L.set k x)) := by
  have := h.set 1 rfl k (.int .i64 x)
  rw [← List.map_set] at this
  exact this
theorem ptS_box {w wr : World} {r : Reg} {s : Value} {g : Nat} {L : List Int} (h : Sep w none wr (PtS w r s g L)) : wr.cell? ⟨w.heap.size, 0, none⟩ = some (.int .i64 r.wide) ∧ wr.cell? ⟨w.heap.size, 1, none⟩ = some (.int .i64 r.tall) ∧ wr.cell? ⟨w.heap.size, 2, none⟩ = some s :=
  h.c3 0 rfl

set_option maxRecDepth 100000 in
set_option maxHeartbeats 2000000 in
theorem parts_own (v : Value) (r : Reg) (w : World) (h : RegV w v r) (hv : r.valid = true) :
    Calls Try.prog 112 #[v] w (RetO 3 (r.parts.map (Value.int .i64)) w) := by
  obtain ⟨ba, oa, cap, rfl, hs, hba, hcs, hlc, hcm, hl1, hlen, b3, b1, b2⟩ := h.valid_opened hv
  have Hs := Lib.hid hs
  have Hcs := Lib.hid hcs
  have Hn := Lib.hid b3
  have S0 := Lib.hid ((Sep.start w none).box #[.int .i64 r.wide, .int .i64 r.tall, .slice (some ⟨ba, oa, none⟩) r.cells.length cap] 28)
  clear hs h b3 hcs
  go_enter Try.func112, Try.ntmps112
  go_wp2_with (at_make; refine list_make elem_ints (.int .i64 0) zero_int rfl r.cells.length (.tmp 11) (.tmp 11) rfl rfl (r.cells.length : Int) ?_ ?_ rfl ?_ ?_ ?_; rfl; rfl; omega; omega; intro cs hcs)
  have S1 : Hid (Sep w none ((w.alloc (.cells #[.int .i64 r.wide, .int .i64 r.tall, .slice (some ⟨ba, oa, none⟩) r.cells.length cap] 28)).alloc (.cells cs 3)) (PtS w r (.slice (some ⟨ba, oa, none⟩) r.cells.length cap) (w.heap.size + 1) (List.replicate r.cells.length 0))) := Lib.hid (by
    have := S0.out.made (e := 3) hcs (by omega)
    rw [show List.replicate r.cells.length (Value.int .i64 0) = (List.replicate r.cells.length (0 : Int)).map (Value.int .i64) by simp] at this
    simpa [PtS] using this)
  clear hcs S0
  go_loopw [16] (fun i wr => ∃ k : Nat, k ≤ r.cells.length ∧ i = .int .i64 k ∧ Sep w none wr (PtS w r (.slice (some ⟨ba, oa, none⟩) r.cells.length cap) (w.heap.size + 1) (fillL (self1 r) 0 r.cells.length k))) (fun i _ => r.cells.length - (intOf i).toNat)
  case atStart => exact ⟨0, Nat.zero_le _, rfl, by rw [fillL_zero]; exact S1.out⟩
  case round =>
    clear S1
    obtain ⟨k, hk, rfl, S⟩ := hrel
    by_cases hlt : k < r.cells.length
    · have hck := Hcs.out wr S.bel k hlt
      obtain ⟨u1, u2, u3⟩ := own_int (S.own 1 rfl) (j := k) (by rw [fillL_length]; exact hlt)
      have N1 := Lib.hid (ptS_set S k (-1))
      have N2 := Lib.hid (ptS_set (ptS_set S k (-1)) k k)
      clear S
      cases hf : r.cells.getD k false
      · rw [hf] at hck
        have e : Hid ((fillL (self1 r) 0 r.cells.length k).set k (-1) = fillL (self1 r) 0 r.cells.length (k + 1)) := Lib.hid (by rw [← fillL_set]; congr 1; unfold self1 Reg.f; rw [hf]; rfl)
        clear hf
        go_wp2
        go_roundw
        case rel => exact ⟨k + 1, by omega, by go_num, by rw [← e.out]; exact N1.out⟩
        case measure => simp [intOf]; omega
      · rw [hf] at hck
        have e : Hid (((fillL (self1 r) 0 r.cells.length k).set k (-1)).set k k = fillL (self1 r) 0 r.cells.length (k + 1)) := Lib.hid (by rw [List.set_set, ← fillL_set]; congr 1; unfold self1 Reg.f; rw [hf]; rfl)
        clear hf
        go_wp2
        go_roundw
        case rel => exact ⟨k + 1, by omega, by go_num, by rw [← e.out]; exact N2.out⟩
        case measure => simp [intOf]; omega
    · have e : k = r.cells.length := by omega
      rw [e, fillL_full] at S
      have S2 := Lib.hid (show Sep w none wr (PtS w r (.slice (some ⟨ba, oa, none⟩) r.cells.length cap) (w.heap.size + 1) (selfL r)) from S)
      clear S
      subst e
      obtain ⟨x0, x1, x2⟩ := ptS_box S2.out
      go_wp2_with (fail)
      clear x0 x1 x2
      go_loopw [33] (fun i wr => ∃ (t : Nat) (L : List Int), t ≤ r.cells.length ∧ i = .int .i64 t ∧ Sep w none wr (PtS w r (.slice (some ⟨ba, oa, none⟩) r.cells.length cap) (w.heap.size + 1) L) ∧ Inv r L ∧ min t r.cells.length ≤ num r.cells.length (fun k => val r L k = least (E4 r) k)) (fun i _ => r.cells.length - (intOf i).toNat)
      case atStart => exact ⟨0, selfL r, Nat.zero_le _, rfl, S2.out, selfL_inv r, by simp⟩
      case round =>
        clear S2
        obtain ⟨t, P, ht, rfl, S, hI, hN⟩ := hrel
        have HI := Lib.hid hI
        have HN := Lib.hid hN
        have HS := Lib.hid S
        clear hI hN S
        by_cases hlt : t < r.cells.length
        · obtain ⟨x0, x1, x2⟩ := ptS_box HS.out
          go_wp2_with (fail)
          clear x0 x1 x2
          go_loopw [38] (fun i w2 => ∃ (c : Nat) (L : List Int), c ≤ r.cells.length ∧ i = .int .i64 c ∧ Sep w none w2 (PtS w r (.slice (some ⟨ba, oa, none⟩) r.cells.length cap) (w.heap.size + 1) L) ∧ PJ r P L (fun k _ => k < c)) (fun i _ => r.cells.length - (intOf i).toNat)
          case atStart => exact ⟨0, P, Nat.zero_le _, rfl, HS.out, (PJ.start HI.out).weak (fun _ _ _ h => absurd h (Nat.not_lt_zero _))⟩
          case round =>
            clear HS
            obtain ⟨c, L, hc, rfl, S, hJ⟩ := hrel
            have HS := Lib.hid S
            have HJ := Lib.hid hJ
            clear S hJ
            by_cases hcl : c < r.cells.length
            · have hcn : (c : Int) < r.wide * r.tall := by have := Hn.out; omega
              go_wp2_with (fail)
              go_loopw [7] (fun i w3 => ∃ (m : Nat) (L : List Int), m ≤ 4 ∧ i = .int .i64 ((m : Int) + 1) ∧ Sep w none w3 (PtS w r (.slice (some ⟨ba, oa, none⟩) r.cells.length cap) (w.heap.size + 1) L) ∧ PJ r P L (DI r c m)) (fun i _ => 5 - (intOf i).toNat)
              case atStart => exact ⟨0, L, by omega, rfl, HS.out, HJ.out.cell⟩
              case round =>
                clear HS HJ
                obtain ⟨m, L, hm, rfl, S, hJ⟩ := hrel
                have HS := Lib.hid S
                have HJ := Lib.hid hJ
                clear S hJ
                by_cases hm4 : m < 4
                · obtain ⟨x0, x1, x2⟩ := ptS_box HS.out
                  have hst := stepI_in (r := r) (c := (c : Int)) (way := (m : Int) + 1) (by omega) (by omega) hcn
                  go_wp2_with (fail)
                  refine (step_any _ r c ((m : Int) + 1) _ ⟨_, rfl, Hs.out.below HS.out.bel⟩ hv (by omega) hcn).mono ?_
                  rintro e w4 ⟨rfl, hb⟩
                  have HS := Lib.hid (HS.out.below hb)
                  clear hb x0 x1 x2
                  by_cases hneg : stepI r c ((m : Int) + 1) < 0
                  · have NJ := Lib.hid (HJ.out.skip (fun j hj => by omega))
                    have hn1 : stepI r c ((m : Int) + 1) = -1 := by omega
                    rw [hn1]
                    clear hst hneg hn1
                    go_wp2
                    go_roundw
                    case rel => exact ⟨m + 1, L, by omega, by go_num, HS.out, NJ.out⟩
                    case measure => simp [intOf]; omega
                  · obtain ⟨j, hj⟩ : ∃ j : Nat, stepI r c ((m : Int) + 1) = (j : Int) := ⟨(stepI r c ((m : Int) + 1)).toNat, by omega⟩
                    have hjl : j < r.cells.length := by have := Hn.out; omega
                    have lL := HJ.out.inv.len
                    obtain ⟨u1, u2, u3⟩ := own_int (HS.out.own 1 rfl) (j := c) (by rw [lL]; exact hcl)
                    obtain ⟨y1, y2, _⟩ := own_int (HS.out.own 1 rfl) (j := j) (by rw [lL]; exact hjl)
                    clear lL
                    rw [hj]
                    cases hfc : r.f c
                    · have NJ := Lib.hid (HJ.out.skip (fun j hj e => by have := e.1; rw [hfc] at this; cases this))
                      rw [HJ.out.inv.no c hcl hfc] at u1
                      clear hst hneg hj hfc
                      go_wp2
                      go_roundw
                      case rel => exact ⟨m + 1, L, by omega, by go_num, HS.out, NJ.out⟩
                      case measure => simp [intOf]; omega
                    · obtain ⟨q1, q2, _⟩ := HJ.out.inv.yes c hfc
                      cases hfj : r.f j
                      · have NJ := Lib.hid (HJ.out.skip (fun i hi e => by have h1 := e.2.1; have : i = j := by omega
                                                                          subst this; rw [hfj] at h1; cases h1))
                        rw [HJ.out.inv.no j hjl hfj] at y1
                        clear hst hneg hj hfc hfj
                        generalize L.getD c 0 = x at *
                        go_wp2
                        go_roundw
                        case rel => exact ⟨m + 1, L, by omega, by go_num, HS.out, NJ.out⟩
                        case measure => simp [intOf]; omega
                      · obtain ⟨q3, q4, _⟩ := HJ.out.inv.yes j hfj
                        have hLc : ∀ (K : Later w4) (b o : Nat), b < w4.heap.size → K.x.cell? ⟨b, o, none⟩ = w4.cell? ⟨b, o, none⟩ := Later.cell
                        have hLf : ∀ (K : Later w4) (b o : Nat), b < w4.heap.size → K.x.frozen? ⟨b, o, none⟩ = w4.frozen? ⟨b, o, none⟩ := Later.frozen
                        rcases Int.lt_or_le (L.getD j 0) (L.getD c 0) with hxy | hxy
                        · have NJ := Lib.hid (HJ.out.take hm4 hj hfc hfj (x := L.getD j 0) (.inr ⟨rfl, Int.le_of_lt hxy⟩))
                          have T := Lib.hid (fun K : Later w4 => ptS_set (HS.out.later K) c (L.getD j 0))
                          clear hst hneg hj hfc hfj
                          have hmn : IntKind.i64 = IntKind.i64 := rfl
                          generalize L.getD c 0 = x at *
                          generalize L.getD j 0 = y at *
                          clear hmn
                          go_wp2_with (fail)
                          refine wp_region_later 12 (by kernel_rfl) (by kernel_rfl) ?_
                          simp only [List.take_succ_cons, List.take_zero, List.drop_succ_cons, List.drop_zero]
                          repeat (go_big_quiet_step (fail))
                          refine wpQuiet_nil ?_
                          intro K
                          go_wp2
                          go_roundw
                          case rel => exact ⟨m + 1, _, by omega, by go_num, T.out K, NJ.out⟩
                          case measure => simp [intOf]; omega
                        · have NJ := Lib.hid (HJ.out.take hm4 hj hfc hfj (x := L.getD c 0) (.inl ⟨rfl, hxy⟩))
                          have T := Lib.hid (fun K : Later w4 => ptS_set (HS.out.later K) c (L.getD c 0))
                          clear hst hneg hj hfc hfj
                          have hmn : IntKind.i64 = IntKind.i64 := rfl
                          generalize L.getD c 0 = x at *
                          generalize L.getD j 0 = y at *
                          clear hmn
                          go_wp2_with (fail)
                          refine wp_region_later 12 (by kernel_rfl) (by kernel_rfl) ?_
                          simp only [List.take_succ_cons, List.take_zero, List.drop_succ_cons, List.drop_zero]
                          repeat (go_big_quiet_step (fail))
                          refine wpQuiet_nil ?_
                          intro K
                          go_wp2
                          go_roundw
                          case rel => exact ⟨m + 1, _, by omega, by go_num, T.out K, NJ.out⟩
                          case measure => simp [intOf]; omega
                · have e4 : m = 4 := by omega
                  subst e4
                  have NJ := Lib.hid HJ.out.cells
                  go_wp2
                  go_roundw
                  case rel => exact ⟨c + 1, L, by omega, by go_num, HS.out, NJ.out⟩
                  case measure => simp [intOf]; omega
            · have e : c = r.cells.length := by omega
              subst e
              have NI := Lib.hid HJ.out.inv
              have NN := Lib.hid (HJ.out.round hv HI.out (fun _ _ e => e.lt.1) HN.out)
              go_wp2
              go_roundw
              case rel => exact ⟨t + 1, L, by omega, by go_num, HS.out, NI.out, NN.out⟩
              case measure => simp [intOf]; omega
        · have e : t = r.cells.length := by omega
          subst e
          have hL := parts_done HI.out HN.out
          subst hL
          go_wp2
          go_ret
          exact ⟨_, rfl, HS.out.high 1 rfl, HS.out.bel⟩

theorem parts_any (v : Value) (r : Reg) (w : World) (h : RegV w v r) (hv : r.valid = true) :
    Calls Try.prog 112 #[v] w (RetI r.parts w) := by
  refine (parts_own v r w h hv).mono ?_
  rintro e w1 ⟨u, rfl, ho, hb⟩
  exact ⟨u, rfl, ho.sl, hb⟩
end Go.Proofs.Ytklifibiadiinaa
