/- Walks: the reference's PartsOf. -/
import Derived.Test.YtdggcfpkbmdllaaVWparts
import Derived.Test.YtdggcfpkbmdllaaZc
set_option linter.unusedVariables false
namespace Go.Proofs.Ytdggcfpkbmdllaa
open Go.RowKit Domi

/-- The items: the argument, and the list. -/
def PsS (w : World) (r : Reg) (s v : Value) (L : List Int) : List It :=
  [.box w.heap.size #[.int .i64 r.wide, .int .i64 r.tall, s] 28, .row 3 v (L.map (Value.int .i64))]
theorem psS_set {w wr : World} {r : Reg} {s : Value} {g n c : Nat} {L : List Int} (h : Sep w none wr (PsS w r s (.slice (some ⟨g, 0, none⟩) n c) L)) (k : Nat) (x : Int) : Sep w none (wr.setCell ⟨g, k, none⟩ (.int .i64 x)) (PsS w r s (.slice (some ⟨g, 0, none⟩) n c) (L.set k x)) := by
  have := h.set 1 rfl k (.int .i64 x)
  rw [← List.map_set] at this
  exact this
theorem psS_app {w wr w' : World} {r : Reg} {s v : Value} {L : List Int} (h : Sep w none wr (PsS w r s v L)) {B g cap : Nat} {x : Int} (A : App wr B 3 v (L.map (Value.int .i64)) (.int .i64 x) g cap w') : Sep w none w' (PsS w r s (.slice (some ⟨g, 0, none⟩) (L.length + 1) cap) (L ++ [x])) := by
  have := h.app 1 rfl A
  simpa [PsS] using this
theorem getD_append_last (L : List Int) (x : Int) : (L ++ [x]).getD L.length 0 = x := by simp [List.getD_eq_getElem?_getD]
theorem set_append_last (L : List Int) (x y : Int) : (L ++ [x]).set L.length y = L ++ [y] := by simp

set_option maxRecDepth 100000 in
set_option maxHeartbeats 4000000 in
theorem sPartsOf_ow (v : Value) (r : Reg) (w : World) (h : RegV w v r) (hv : r.valid = true) :
    Calls Try.prog 106 #[v] w (fun e w' => ∃ u, e = .returned u ∧ Ow w' w.heap.size 3 u (r.parts.map (Value.int .i64)) ∧ Below w.heap.size w w') := by
  obtain ⟨ba, oa, cap, rfl, hs, hba, hcs, hlc, hcm, hl1, hlen, b3, b1, b2⟩ := h.valid_opened hv
  have Hs := Lib.hid hs
  have Hcs := Lib.hid hcs
  have Hn := Lib.hid b3
  obtain ⟨s, hsl⟩ : ∃ s, s = Value.slice (some ⟨ba, oa, none⟩) r.cells.length cap := ⟨_, rfl⟩
  have S0 : Hid (Sep w none _ (PsS w r s (.slice (some ⟨w.heap.size + 1, 0, none⟩) 0 0) [])) := Lib.hid (by
    have := ((Sep.start w none).box #[.int .i64 r.wide, .int .i64 r.tall, s] 28).empty 3
    simpa [PsS] using this)
  rw [hsl] at S0
  clear hs h b3 hcs hsl
  go_enter Try.func106, Try.ntmps106
  go_wp2_with (fail)
  refine (sRegionValid_any _ r _ ⟨_, rfl, Hs.out.below S0.out.bel⟩).mono ?_
  rintro e w1 ⟨rfl, hb⟩
  rw [hv]
  have S1 := Lib.hid (S0.out.below hb)
  clear hb S0
  go_wp2_with (fail)
  go_loopw [3, 4] (fun v3 i wr => ∃ (a : Option Addr) (c : Nat) (L : List Int), L.length ≤ r.cells.length ∧ i = .int .i64 L.length ∧ L = (List.range L.length).map (self1 r) ∧ v3 = .slice a L.length c ∧ Sep w none wr (PsS w r (.slice (some ⟨ba, oa, none⟩) r.cells.length cap) (.slice a L.length c) L)) (fun _ i _ => r.cells.length - (intOf i).toNat)
  case atStart => exact ⟨_, 0, [], Nat.zero_le _, rfl, rfl, rfl, S1.out⟩
  case round =>
    clear S1
    obtain ⟨a, c3, L, hk, rfl, hLs, rfl, S⟩ := hrel
    obtain ⟨x0, x1, x2⟩ := S.c3 0 rfl
    by_cases hlt : L.length < r.cells.length
    · have hck := Hcs.out wr S.bel L.length hlt
      have HS := Lib.hid S
      have sz := S.lt 0 rfl rfl
      have szb : ba < wr.heap.size := Nat.lt_of_lt_of_le hba S.g.size
      have hsn : L ++ [self1 r L.length] = (List.range (L.length + 1)).map (self1 r) := by rw [List.range_succ, List.map_append, ← hLs]; rfl
      clear S hLs
      cases hf : r.cells.getD L.length false
      all_goals
        rw [hf] at hck
      · have hs1 : self1 r L.length = -1 := by unfold self1 Reg.f; rw [hf]; rfl
        rw [hs1] at hsn
        have HSN := Lib.hid hsn
        clear hsn hs1
        go_wp2_with (at_builtin; refine list_app elem_ints 0 (.slice a L.length c3) (L.map (Value.int .i64)) ?_ wr.heap.size (.int .i64 (-1)) (.tmp 19) (.tmp 20) rfl rfl rfl rfl (heap_alloc_new _ _) rfl ?_ ?_ ?_; exact Own.alloc (HS.out.own 1 rfl) _; (rw [List.length_map]; omega); (exact Nat.zero_le _); intro g c2 w5 A5; (have S5 := psS_app (HS.out.alloc _) A5); (have y := S5.c3 0 rfl); (have hc5 := Hcs.out w5 S5.bel L.length hlt); (rw [hf] at hc5); (obtain ⟨y0, y1, y2⟩ := y); (have S5' := Lib.hid S5); clear A5 S5)
        exact ⟨⟨some ⟨g, 0, none⟩, c2, L ++ [-1], by simp; omega, by simp, by simpa using HSN.out, by simp, by simpa using S5'.out⟩, by simp [intOf]; omega⟩
      · have hs1 : self1 r L.length = (L.length : Int) := by unfold self1 Reg.f; rw [hf]; rfl
        rw [hs1] at hsn
        have HSN := Lib.hid hsn
        clear hsn hs1
        go_wp2_with (at_builtin; refine list_app elem_ints 0 (.slice a L.length c3) (L.map (Value.int .i64)) ?_ wr.heap.size (.int .i64 (-1)) (.tmp 19) (.tmp 20) rfl rfl rfl rfl (heap_alloc_new _ _) rfl ?_ ?_ ?_; exact Own.alloc (HS.out.own 1 rfl) _; (rw [List.length_map]; omega); (exact Nat.zero_le _); intro g c2 w5 A5; (have S5 := psS_app (HS.out.alloc _) A5); (have y := S5.c3 0 rfl); (have hc5 := Hcs.out w5 S5.bel L.length hlt); (rw [hf] at hc5); (obtain ⟨y0, y1, y2⟩ := y); (have uu := own_int (S5.own 1 rfl) (j := L.length) (by simp)); (have S5' := Lib.hid (psS_set S5 L.length (L.length : Int))); (have uf := uu.2.1); (have ug := uu.2.2); (have u5 := uu.1); clear A5 S5 uu)
        have S6 := S5'.out
        rw [set_append_last] at S6
        exact ⟨⟨some ⟨g, 0, none⟩, c2, L ++ [(L.length : Int)], by simp; omega, by simp, by simpa using HSN.out, by simp, by simpa using S6⟩, by simp [intOf]; omega⟩
    · have e : L.length = r.cells.length := by omega
      obtain ⟨g, c4, hv3, _, hg3, hc1, hc2⟩ := (S.own 1 rfl).formN (by simp; omega)
      simp only [List.length_map, Value.slice.injEq] at hv3 hc1
      obtain ⟨rfl, -, rfl⟩ := hv3
      rw [e] at hLs
      have hL : L = selfL r := hLs
      subst hL
      rw [e] at S hc1 ⊢
      have S2 := Lib.hid S
      clear S hLs e hk hlt
      go_wp2_with (fail)
      clear x0 x1 x2
      go_loopw [5] (fun i wr => ∃ (t : Nat) (L : List Int), t ≤ r.cells.length ∧ i = .int .i64 t ∧ Sep w none wr (PsS w r (.slice (some ⟨ba, oa, none⟩) r.cells.length cap) (.slice (some ⟨g, 0, none⟩) r.cells.length c3) L) ∧ Inv r L ∧ min t r.cells.length ≤ num r.cells.length (fun k => val r L k = least (E4 r) k)) (fun i _ => r.cells.length - (intOf i).toNat)
      case atStart => exact ⟨0, selfL r, Nat.zero_le _, rfl, S2.out, selfL_inv r, by simp⟩
      case round =>
        clear S2
        obtain ⟨t, P, ht, rfl, S, hI, hN⟩ := hrel
        have HI := Lib.hid hI
        have HN := Lib.hid hN
        have HS := Lib.hid S
        clear hI hN S
        by_cases hlt : t < r.cells.length
        · go_wp2_with (fail)
          go_loopw [6] (fun i w2 => ∃ (c : Nat) (L : List Int), c ≤ r.cells.length ∧ i = .int .i64 c ∧ Sep w none w2 (PsS w r (.slice (some ⟨ba, oa, none⟩) r.cells.length cap) (.slice (some ⟨g, 0, none⟩) r.cells.length c3) L) ∧ PJ r P L (DB c)) (fun i _ => r.cells.length - (intOf i).toNat)
          case atStart => exact ⟨0, P, Nat.zero_le _, rfl, HS.out, (PJ.start HI.out).weak (fun _ _ _ h => absurd h.1 (Nat.not_lt_zero _))⟩
          case round =>
            clear HS
            obtain ⟨c, L, hc, rfl, S, hJ⟩ := hrel
            have HS := Lib.hid S
            have HJ := Lib.hid hJ
            clear S hJ
            by_cases hcl : c < r.cells.length
            · have hm1 := Int.emod_nonneg (c : Int) (b := r.wide) (by omega)
              have hm2 := Int.emod_lt_of_pos (c : Int) (b := r.wide) (by omega)
              cases hfc : r.f c
              · have HJ2 := Lib.hid ((HJ.out.noWest hv (fun j _ _ h _ => by rw [hfc] at h; cases h)).noSouth hv (fun j _ h _ => by rw [hfc] at h; cases h))
                obtain ⟨u1, u2, u3⟩ := own_int (HS.out.own 1 rfl) (j := c) (by rw [HJ.out.inv.len]; exact hcl)
                rw [HJ.out.inv.no c hcl hfc] at u1
                have HS2 := HS
                go_wp2
                go_roundw
                case rel => exact ⟨c + 1, L, by omega, by go_num, HS2.out, HJ2.out⟩
                case measure => simp [intOf]; omega
              · have HL := Lib.hid HJ.out.inv.len
                obtain ⟨u1, u2, u3⟩ := own_int (HS.out.own 1 rfl) (j := c) (by rw [HL.out]; exact hcl)
                obtain ⟨q1, q2, _⟩ := HJ.out.inv.yes c hfc
                obtain ⟨x0, x1, x2⟩ := HS.out.c3 0 rfl
                have x3 := HS.out.lt 0 rfl rfl
                by_cases hmw : 0 < (c : Int) % r.wide
                · obtain ⟨j, hj⟩ : ∃ j : Nat, j + 1 = c := ⟨c - 1, by
                    rcases Nat.eq_zero_or_pos c with h | h
                    · subst h; simp at hmw
                    · omega⟩
                  have hjl : j < r.cells.length := by omega
                  have HT := Lib.hid (show c - 1 = j by omega)
                  obtain ⟨y1, y2, _⟩ := own_int (HS.out.own 1 rfl) (j := j) (by rw [HL.out]; exact hjl)
                  have w1 : 0 ≤ (c : Int) - 1 := by omega
                  have w2 : (c : Int) - 1 < (r.cells.length : Int) := by omega
                  cases hfj : r.f j
                  · have HJ1 := Lib.hid (HJ.out.noWest hv (fun i hi _ _ h => by rw [show i = j by omega, hfj] at h; cases h))
                    rw [HJ.out.inv.no j hjl hfj, ← HT.out] at y1
                    have HS1 := HS
                    have z1 := y1
                    have v1 := w1
                    have v2 := w2
                    clear y1 w1 w2 y2 HT hfj hj hjl
                    clear u1 u2 u3 q1 q2 x0 x1 x2 x3
                    have HL := Lib.hid HJ1.out.inv.len
                    obtain ⟨u1, u2, u3⟩ := own_int (HS1.out.own 1 rfl) (j := c) (by rw [HL.out]; exact hcl)
                    obtain ⟨q1, q2, _⟩ := HJ1.out.inv.yes c hfc
                    obtain ⟨x0, x1, x2⟩ := HS1.out.c3 0 rfl
                    have x3 := HS1.out.lt 0 rfl rfl
                    by_cases hwc : r.wide ≤ (c : Int)
                    · obtain ⟨j, hj⟩ : ∃ j : Nat, (j : Int) + r.wide = c := ⟨((c : Int) - r.wide).toNat, by omega⟩
                      have hjl : j < r.cells.length := by omega
                      have HT := Lib.hid (show ((c : Int) - r.wide).toNat = j by omega)
                      obtain ⟨y1, y2, _⟩ := own_int (HS1.out.own 1 rfl) (j := j) (by rw [HL.out]; exact hjl)
                      have w1 : 0 ≤ (c : Int) - r.wide := by omega
                      have w2 : (c : Int) - r.wide < (r.cells.length : Int) := by omega
                      cases hfj : r.f j
                      · have HJ2 := Lib.hid (HJ1.out.noSouth hv (fun i hi _ h => by rw [show i = j by omega, hfj] at h; cases h))
                        rw [HJ1.out.inv.no j hjl hfj, ← HT.out] at y1
                        have HS2 := HS1
                        clear y2 HT hfj hj hjl
                        generalize (L).getD c 0 = x at *
                        go_wp2
                        go_roundw
                        case rel => exact ⟨c + 1, L, by omega, by go_num, HS2.out, HJ2.out⟩
                        case measure => simp [intOf]; omega
                      · obtain ⟨q3, q4, _⟩ := HJ1.out.inv.yes j hfj
                        rcases Int.lt_or_le ((L).getD j 0) ((L).getD c 0) with hxy | hxy
                        · have HJ2 := Lib.hid (HJ1.out.south hv hj hfc hfj (x := ((L).getD j 0)) (.inr ⟨rfl, Int.le_of_lt hxy⟩))
                          clear hj hfj
                          generalize hx : (L).getD c 0 = x at *
                          generalize hy : (L).getD j 0 = y at *
                          rw [← HT.out] at y1 y2
                          have Hx := Lib.hid hx
                          have Hy := Lib.hid hy
                          clear hx hy
                          go_wp2_with (fail)
                          have hLc : ∀ (M : Later wr) (b o : Nat), b < wr.heap.size → M.x.cell? ⟨b, o, none⟩ = wr.cell? ⟨b, o, none⟩ := Later.cell
                          have hLf : ∀ (M : Later wr) (b o : Nat), b < wr.heap.size → M.x.frozen? ⟨b, o, none⟩ = wr.frozen? ⟨b, o, none⟩ := Later.frozen
                          refine wp_region_later 14 (by kernel_rfl) (by kernel_rfl) ?_
                          simp only [List.take_succ_cons, List.take_zero, List.drop_succ_cons, List.drop_zero]
                          repeat (go_big_quiet_step (fail))
                          refine wpQuiet_nil ?_
                          intro M
                          go_wp2_with (fail)
                          clear hLc hLf
                          obtain ⟨V1, hV1⟩ : ∃ W, W = M.x.setCell ⟨g, c, none⟩ (.int .i64 y) := ⟨_, rfl⟩
                          have HSa := psS_set (HS1.out.later M) c y
                          rw [← hV1] at HSa ⊢
                          have HSa := Lib.hid HSa
                          clear hV1 M u1 u2 u3 y1 y2 x0 x1 x2
                          have lL : ((L).set c y).length = r.cells.length := by simpa using HL.out
                          obtain ⟨u1, u2, u3⟩ := own_int (HSa.out.own 1 rfl) (j := c) (by rw [lL]; exact hcl)
                          obtain ⟨y1, y2, _⟩ := own_int (HSa.out.own 1 rfl) (j := j) (by rw [lL]; exact hjl)
                          rw [getD_put _ _ _ _ (by rw [HL.out]; exact hcl), if_pos rfl] at u1
                          generalize ((L).set c y).getD j 0 = zz at *
                          obtain ⟨x0, x1, x2⟩ := HSa.out.c3 0 rfl
                          have x3 := HSa.out.lt 0 rfl rfl
                          rw [← HT.out] at y1 y2
                          clear lL
                          have hLc : ∀ (M : Later V1) (b o : Nat), b < V1.heap.size → M.x.cell? ⟨b, o, none⟩ = V1.cell? ⟨b, o, none⟩ := Later.cell
                          have hLf : ∀ (M : Later V1) (b o : Nat), b < V1.heap.size → M.x.frozen? ⟨b, o, none⟩ = V1.frozen? ⟨b, o, none⟩ := Later.frozen
                          refine wp_region_later 10 (by kernel_rfl) (by kernel_rfl) ?_
                          simp only [List.take_succ_cons, List.take_zero, List.drop_succ_cons, List.drop_zero]
                          repeat (go_big_quiet_step (fail))
                          refine wpQuiet_nil ?_
                          intro M
                          go_wp2_with (fail)
                          clear hLc hLf
                          obtain ⟨V2, hV2⟩ : ∃ W, W = M.x.setCell ⟨g, ((c : Int) - r.wide).toNat, none⟩ (.int .i64 y) := ⟨_, rfl⟩
                          have HSb := psS_set (HSa.out.later M) (((c : Int) - r.wide).toNat) y
                          rw [← hV2] at HSb ⊢
                          rw [HT.out] at HSb
                          have HS2 := Lib.hid HSb
                          clear hV2 M u1 u2 u3 y1 y2 x0 x1 x2 x3 HSb HSa HT
                          go_roundw
                          case rel => exact ⟨c + 1, _, by omega, by go_num, HS2.out, HJ2.out⟩
                          case measure => simp [intOf]; omega
                        · have HJ2 := Lib.hid (HJ1.out.south hv hj hfc hfj (x := ((L).getD c 0)) (.inl ⟨rfl, hxy⟩))
                          clear hj hfj
                          generalize hx : (L).getD c 0 = x at *
                          generalize hy : (L).getD j 0 = y at *
                          rw [← HT.out] at y1 y2
                          have Hx := Lib.hid hx
                          have Hy := Lib.hid hy
                          clear hx hy
                          go_wp2_with (fail)
                          have hLc : ∀ (M : Later wr) (b o : Nat), b < wr.heap.size → M.x.cell? ⟨b, o, none⟩ = wr.cell? ⟨b, o, none⟩ := Later.cell
                          have hLf : ∀ (M : Later wr) (b o : Nat), b < wr.heap.size → M.x.frozen? ⟨b, o, none⟩ = wr.frozen? ⟨b, o, none⟩ := Later.frozen
                          refine wp_region_later 14 (by kernel_rfl) (by kernel_rfl) ?_
                          simp only [List.take_succ_cons, List.take_zero, List.drop_succ_cons, List.drop_zero]
                          repeat (go_big_quiet_step (fail))
                          refine wpQuiet_nil ?_
                          intro M
                          go_wp2_with (fail)
                          clear hLc hLf
                          obtain ⟨V1, hV1⟩ : ∃ W, W = M.x.setCell ⟨g, c, none⟩ (.int .i64 x) := ⟨_, rfl⟩
                          have HSa := psS_set (HS1.out.later M) c x
                          rw [← hV1] at HSa ⊢
                          have HSa := Lib.hid HSa
                          clear hV1 M u1 u2 u3 y1 y2 x0 x1 x2
                          have lL : ((L).set c x).length = r.cells.length := by simpa using HL.out
                          obtain ⟨u1, u2, u3⟩ := own_int (HSa.out.own 1 rfl) (j := c) (by rw [lL]; exact hcl)
                          obtain ⟨y1, y2, _⟩ := own_int (HSa.out.own 1 rfl) (j := j) (by rw [lL]; exact hjl)
                          rw [getD_put _ _ _ _ (by rw [HL.out]; exact hcl), if_pos rfl] at u1
                          generalize ((L).set c x).getD j 0 = zz at *
                          obtain ⟨x0, x1, x2⟩ := HSa.out.c3 0 rfl
                          have x3 := HSa.out.lt 0 rfl rfl
                          rw [← HT.out] at y1 y2
                          clear lL
                          have hLc : ∀ (M : Later V1) (b o : Nat), b < V1.heap.size → M.x.cell? ⟨b, o, none⟩ = V1.cell? ⟨b, o, none⟩ := Later.cell
                          have hLf : ∀ (M : Later V1) (b o : Nat), b < V1.heap.size → M.x.frozen? ⟨b, o, none⟩ = V1.frozen? ⟨b, o, none⟩ := Later.frozen
                          refine wp_region_later 10 (by kernel_rfl) (by kernel_rfl) ?_
                          simp only [List.take_succ_cons, List.take_zero, List.drop_succ_cons, List.drop_zero]
                          repeat (go_big_quiet_step (fail))
                          refine wpQuiet_nil ?_
                          intro M
                          go_wp2_with (fail)
                          clear hLc hLf
                          obtain ⟨V2, hV2⟩ : ∃ W, W = M.x.setCell ⟨g, ((c : Int) - r.wide).toNat, none⟩ (.int .i64 x) := ⟨_, rfl⟩
                          have HSb := psS_set (HSa.out.later M) (((c : Int) - r.wide).toNat) x
                          rw [← hV2] at HSb ⊢
                          rw [HT.out] at HSb
                          have HS2 := Lib.hid HSb
                          clear hV2 M u1 u2 u3 y1 y2 x0 x1 x2 x3 HSb HSa HT
                          go_roundw
                          case rel => exact ⟨c + 1, _, by omega, by go_num, HS2.out, HJ2.out⟩
                          case measure => simp [intOf]; omega
                    · have HJ2 := Lib.hid (HJ1.out.noSouth hv (fun i hi _ _ => by omega))
                      have HS2 := HS1
                      have hwc : (c : Int) < r.wide := by omega
                      generalize (L).getD c 0 = x at *
                      go_wp2
                      go_roundw
                      case rel => exact ⟨c + 1, L, by omega, by go_num, HS2.out, HJ2.out⟩
                      case measure => simp [intOf]; omega
                  · obtain ⟨q3, q4, _⟩ := HJ.out.inv.yes j hfj
                    rcases Int.lt_or_le (L.getD j 0) (L.getD c 0) with hxy | hxy
                    · have HJ1 := Lib.hid (HJ.out.west hv hj hmw hfc hfj (x := (L.getD j 0)) (.inr ⟨rfl, Int.le_of_lt hxy⟩))
                      clear hj hfj
                      generalize hx : L.getD c 0 = xw at *
                      generalize hy : L.getD j 0 = yw at *
                      rw [← HT.out] at y1 y2
                      have Hx := Lib.hid hx
                      have Hy := Lib.hid hy
                      clear hx hy
                      go_wp2_with (fail)
                      have hLc : ∀ (K : Later wr) (b o : Nat), b < wr.heap.size → K.x.cell? ⟨b, o, none⟩ = wr.cell? ⟨b, o, none⟩ := Later.cell
                      have hLf : ∀ (K : Later wr) (b o : Nat), b < wr.heap.size → K.x.frozen? ⟨b, o, none⟩ = wr.frozen? ⟨b, o, none⟩ := Later.frozen
                      refine wp_region_later 13 (by kernel_rfl) (by kernel_rfl) ?_
                      simp only [List.take_succ_cons, List.take_zero, List.drop_succ_cons, List.drop_zero]
                      repeat (go_big_quiet_step (fail))
                      refine wpQuiet_nil ?_
                      intro K
                      have k1 := Nat.lt_of_lt_of_le u3 K.h.size
                      have k2 := Nat.lt_of_lt_of_le x3 K.h.size
                      have HSb := psS_set (psS_set (HS.out.later K) c yw) (c - 1) yw
                      rw [show (L.set c yw).set (c - 1) yw = (L.set c yw).set j yw by rw [HT.out]] at HSb
                      have HS1 := Lib.hid HSb
                      clear HSb
                      generalize (L.set c yw).set j yw = L1 at *
                      have HL := Lib.hid HJ1.out.inv.len
                      obtain ⟨u1, u2, u3⟩ := own_int (HS1.out.own 1 rfl) (j := c) (by rw [HL.out]; exact hcl)
                      obtain ⟨q1, q2, _⟩ := HJ1.out.inv.yes c hfc
                      obtain ⟨x0, x1, x2⟩ := HS1.out.c3 0 rfl
                      have x3 := HS1.out.lt 0 rfl rfl
                      by_cases hwc : r.wide ≤ (c : Int)
                      · obtain ⟨j, hj⟩ : ∃ j : Nat, (j : Int) + r.wide = c := ⟨((c : Int) - r.wide).toNat, by omega⟩
                        have hjl : j < r.cells.length := by omega
                        have HT := Lib.hid (show ((c : Int) - r.wide).toNat = j by omega)
                        obtain ⟨y1, y2, _⟩ := own_int (HS1.out.own 1 rfl) (j := j) (by rw [HL.out]; exact hjl)
                        have w1 : 0 ≤ (c : Int) - r.wide := by omega
                        have w2 : (c : Int) - r.wide < (r.cells.length : Int) := by omega
                        cases hfj : r.f j
                        · have HJ2 := Lib.hid (HJ1.out.noSouth hv (fun i hi _ h => by rw [show i = j by omega, hfj] at h; cases h))
                          rw [HJ1.out.inv.no j hjl hfj, ← HT.out] at y1
                          have HS2 := HS1
                          clear y2 HT hfj hj hjl
                          generalize (L1).getD c 0 = x at *
                          go_wp2
                          go_roundw
                          case rel => exact ⟨c + 1, L1, by omega, by go_num, HS2.out, HJ2.out⟩
                          case measure => simp [intOf]; omega
                        · obtain ⟨q3, q4, _⟩ := HJ1.out.inv.yes j hfj
                          rcases Int.lt_or_le ((L1).getD j 0) ((L1).getD c 0) with hxy | hxy
                          · have HJ2 := Lib.hid (HJ1.out.south hv hj hfc hfj (x := ((L1).getD j 0)) (.inr ⟨rfl, Int.le_of_lt hxy⟩))
                            clear hj hfj
                            generalize hx : (L1).getD c 0 = x at *
                            generalize hy : (L1).getD j 0 = y at *
                            rw [← HT.out] at y1 y2
                            have Hx := Lib.hid hx
                            have Hy := Lib.hid hy
                            clear hx hy
                            go_wp2_with (fail)
                            obtain ⟨U2, hU2⟩ : ∃ W, W = ((K.x.setCell ⟨g, c, none⟩ (.int .i64 yw)).setCell ⟨g, c - 1, none⟩ (.int .i64 yw)) := ⟨_, rfl⟩
                            rw [← hU2] at HS1 u1 u2 u3 y1 y2 x0 x1 x2 x3 ⊢
                            clear hU2 k1 k2
                            have hLc : ∀ (M : Later U2) (b o : Nat), b < U2.heap.size → M.x.cell? ⟨b, o, none⟩ = U2.cell? ⟨b, o, none⟩ := Later.cell
                            have hLf : ∀ (M : Later U2) (b o : Nat), b < U2.heap.size → M.x.frozen? ⟨b, o, none⟩ = U2.frozen? ⟨b, o, none⟩ := Later.frozen
                            refine wp_region_later 14 (by kernel_rfl) (by kernel_rfl) ?_
                            simp only [List.take_succ_cons, List.take_zero, List.drop_succ_cons, List.drop_zero]
                            repeat (go_big_quiet_step (fail))
                            refine wpQuiet_nil ?_
                            intro M
                            go_wp2_with (fail)
                            clear hLc hLf
                            obtain ⟨V1, hV1⟩ : ∃ W, W = M.x.setCell ⟨g, c, none⟩ (.int .i64 y) := ⟨_, rfl⟩
                            have HSa := psS_set (HS1.out.later M) c y
                            rw [← hV1] at HSa ⊢
                            have HSa := Lib.hid HSa
                            clear hV1 M u1 u2 u3 y1 y2 x0 x1 x2
                            have lL : ((L1).set c y).length = r.cells.length := by simpa using HL.out
                            obtain ⟨u1, u2, u3⟩ := own_int (HSa.out.own 1 rfl) (j := c) (by rw [lL]; exact hcl)
                            obtain ⟨y1, y2, _⟩ := own_int (HSa.out.own 1 rfl) (j := j) (by rw [lL]; exact hjl)
                            rw [getD_put _ _ _ _ (by rw [HL.out]; exact hcl), if_pos rfl] at u1
                            generalize ((L1).set c y).getD j 0 = zz at *
                            obtain ⟨x0, x1, x2⟩ := HSa.out.c3 0 rfl
                            have x3 := HSa.out.lt 0 rfl rfl
                            rw [← HT.out] at y1 y2
                            clear lL
                            have hLc : ∀ (M : Later V1) (b o : Nat), b < V1.heap.size → M.x.cell? ⟨b, o, none⟩ = V1.cell? ⟨b, o, none⟩ := Later.cell
                            have hLf : ∀ (M : Later V1) (b o : Nat), b < V1.heap.size → M.x.frozen? ⟨b, o, none⟩ = V1.frozen? ⟨b, o, none⟩ := Later.frozen
                            refine wp_region_later 10 (by kernel_rfl) (by kernel_rfl) ?_
                            simp only [List.take_succ_cons, List.take_zero, List.drop_succ_cons, List.drop_zero]
                            repeat (go_big_quiet_step (fail))
                            refine wpQuiet_nil ?_
                            intro M
                            go_wp2_with (fail)
                            clear hLc hLf
                            obtain ⟨V2, hV2⟩ : ∃ W, W = M.x.setCell ⟨g, ((c : Int) - r.wide).toNat, none⟩ (.int .i64 y) := ⟨_, rfl⟩
                            have HSb := psS_set (HSa.out.later M) (((c : Int) - r.wide).toNat) y
                            rw [← hV2] at HSb ⊢
                            rw [HT.out] at HSb
                            have HS2 := Lib.hid HSb
                            clear hV2 M u1 u2 u3 y1 y2 x0 x1 x2 x3 HSb HSa HT
                            go_roundw
                            case rel => exact ⟨c + 1, _, by omega, by go_num, HS2.out, HJ2.out⟩
                            case measure => simp [intOf]; omega
                          · have HJ2 := Lib.hid (HJ1.out.south hv hj hfc hfj (x := ((L1).getD c 0)) (.inl ⟨rfl, hxy⟩))
                            clear hj hfj
                            generalize hx : (L1).getD c 0 = x at *
                            generalize hy : (L1).getD j 0 = y at *
                            rw [← HT.out] at y1 y2
                            have Hx := Lib.hid hx
                            have Hy := Lib.hid hy
                            clear hx hy
                            go_wp2_with (fail)
                            obtain ⟨U2, hU2⟩ : ∃ W, W = ((K.x.setCell ⟨g, c, none⟩ (.int .i64 yw)).setCell ⟨g, c - 1, none⟩ (.int .i64 yw)) := ⟨_, rfl⟩
                            rw [← hU2] at HS1 u1 u2 u3 y1 y2 x0 x1 x2 x3 ⊢
                            clear hU2 k1 k2
                            have hLc : ∀ (M : Later U2) (b o : Nat), b < U2.heap.size → M.x.cell? ⟨b, o, none⟩ = U2.cell? ⟨b, o, none⟩ := Later.cell
                            have hLf : ∀ (M : Later U2) (b o : Nat), b < U2.heap.size → M.x.frozen? ⟨b, o, none⟩ = U2.frozen? ⟨b, o, none⟩ := Later.frozen
                            refine wp_region_later 14 (by kernel_rfl) (by kernel_rfl) ?_
                            simp only [List.take_succ_cons, List.take_zero, List.drop_succ_cons, List.drop_zero]
                            repeat (go_big_quiet_step (fail))
                            refine wpQuiet_nil ?_
                            intro M
                            go_wp2_with (fail)
                            clear hLc hLf
                            obtain ⟨V1, hV1⟩ : ∃ W, W = M.x.setCell ⟨g, c, none⟩ (.int .i64 x) := ⟨_, rfl⟩
                            have HSa := psS_set (HS1.out.later M) c x
                            rw [← hV1] at HSa ⊢
                            have HSa := Lib.hid HSa
                            clear hV1 M u1 u2 u3 y1 y2 x0 x1 x2
                            have lL : ((L1).set c x).length = r.cells.length := by simpa using HL.out
                            obtain ⟨u1, u2, u3⟩ := own_int (HSa.out.own 1 rfl) (j := c) (by rw [lL]; exact hcl)
                            obtain ⟨y1, y2, _⟩ := own_int (HSa.out.own 1 rfl) (j := j) (by rw [lL]; exact hjl)
                            rw [getD_put _ _ _ _ (by rw [HL.out]; exact hcl), if_pos rfl] at u1
                            generalize ((L1).set c x).getD j 0 = zz at *
                            obtain ⟨x0, x1, x2⟩ := HSa.out.c3 0 rfl
                            have x3 := HSa.out.lt 0 rfl rfl
                            rw [← HT.out] at y1 y2
                            clear lL
                            have hLc : ∀ (M : Later V1) (b o : Nat), b < V1.heap.size → M.x.cell? ⟨b, o, none⟩ = V1.cell? ⟨b, o, none⟩ := Later.cell
                            have hLf : ∀ (M : Later V1) (b o : Nat), b < V1.heap.size → M.x.frozen? ⟨b, o, none⟩ = V1.frozen? ⟨b, o, none⟩ := Later.frozen
                            refine wp_region_later 10 (by kernel_rfl) (by kernel_rfl) ?_
                            simp only [List.take_succ_cons, List.take_zero, List.drop_succ_cons, List.drop_zero]
                            repeat (go_big_quiet_step (fail))
                            refine wpQuiet_nil ?_
                            intro M
                            go_wp2_with (fail)
                            clear hLc hLf
                            obtain ⟨V2, hV2⟩ : ∃ W, W = M.x.setCell ⟨g, ((c : Int) - r.wide).toNat, none⟩ (.int .i64 x) := ⟨_, rfl⟩
                            have HSb := psS_set (HSa.out.later M) (((c : Int) - r.wide).toNat) x
                            rw [← hV2] at HSb ⊢
                            rw [HT.out] at HSb
                            have HS2 := Lib.hid HSb
                            clear hV2 M u1 u2 u3 y1 y2 x0 x1 x2 x3 HSb HSa HT
                            go_roundw
                            case rel => exact ⟨c + 1, _, by omega, by go_num, HS2.out, HJ2.out⟩
                            case measure => simp [intOf]; omega
                      · have HJ2 := Lib.hid (HJ1.out.noSouth hv (fun i hi _ _ => by omega))
                        have HS2 := HS1
                        have hwc : (c : Int) < r.wide := by omega
                        generalize (L1).getD c 0 = x at *
                        go_wp2
                        go_roundw
                        case rel => exact ⟨c + 1, L1, by omega, by go_num, HS2.out, HJ2.out⟩
                        case measure => simp [intOf]; omega
                    · have HJ1 := Lib.hid (HJ.out.west hv hj hmw hfc hfj (x := (L.getD c 0)) (.inl ⟨rfl, hxy⟩))
                      clear hj hfj
                      generalize hx : L.getD c 0 = xw at *
                      generalize hy : L.getD j 0 = yw at *
                      rw [← HT.out] at y1 y2
                      have Hx := Lib.hid hx
                      have Hy := Lib.hid hy
                      clear hx hy
                      go_wp2_with (fail)
                      have hLc : ∀ (K : Later wr) (b o : Nat), b < wr.heap.size → K.x.cell? ⟨b, o, none⟩ = wr.cell? ⟨b, o, none⟩ := Later.cell
                      have hLf : ∀ (K : Later wr) (b o : Nat), b < wr.heap.size → K.x.frozen? ⟨b, o, none⟩ = wr.frozen? ⟨b, o, none⟩ := Later.frozen
                      refine wp_region_later 13 (by kernel_rfl) (by kernel_rfl) ?_
                      simp only [List.take_succ_cons, List.take_zero, List.drop_succ_cons, List.drop_zero]
                      repeat (go_big_quiet_step (fail))
                      refine wpQuiet_nil ?_
                      intro K
                      have k1 := Nat.lt_of_lt_of_le u3 K.h.size
                      have k2 := Nat.lt_of_lt_of_le x3 K.h.size
                      have HSb := psS_set (psS_set (HS.out.later K) c xw) (c - 1) xw
                      rw [show (L.set c xw).set (c - 1) xw = (L.set c xw).set j xw by rw [HT.out]] at HSb
                      have HS1 := Lib.hid HSb
                      clear HSb
                      generalize (L.set c xw).set j xw = L1 at *
                      have HL := Lib.hid HJ1.out.inv.len
                      obtain ⟨u1, u2, u3⟩ := own_int (HS1.out.own 1 rfl) (j := c) (by rw [HL.out]; exact hcl)
                      obtain ⟨q1, q2, _⟩ := HJ1.out.inv.yes c hfc
                      obtain ⟨x0, x1, x2⟩ := HS1.out.c3 0 rfl
                      have x3 := HS1.out.lt 0 rfl rfl
                      by_cases hwc : r.wide ≤ (c : Int)
                      · obtain ⟨j, hj⟩ : ∃ j : Nat, (j : Int) + r.wide = c := ⟨((c : Int) - r.wide).toNat, by omega⟩
                        have hjl : j < r.cells.length := by omega
                        have HT := Lib.hid (show ((c : Int) - r.wide).toNat = j by omega)
                        obtain ⟨y1, y2, _⟩ := own_int (HS1.out.own 1 rfl) (j := j) (by rw [HL.out]; exact hjl)
                        have w1 : 0 ≤ (c : Int) - r.wide := by omega
                        have w2 : (c : Int) - r.wide < (r.cells.length : Int) := by omega
                        cases hfj : r.f j
                        · have HJ2 := Lib.hid (HJ1.out.noSouth hv (fun i hi _ h => by rw [show i = j by omega, hfj] at h; cases h))
                          rw [HJ1.out.inv.no j hjl hfj, ← HT.out] at y1
                          have HS2 := HS1
                          clear y2 HT hfj hj hjl
                          generalize (L1).getD c 0 = x at *
                          go_wp2
                          go_roundw
                          case rel => exact ⟨c + 1, L1, by omega, by go_num, HS2.out, HJ2.out⟩
                          case measure => simp [intOf]; omega
                        · obtain ⟨q3, q4, _⟩ := HJ1.out.inv.yes j hfj
                          rcases Int.lt_or_le ((L1).getD j 0) ((L1).getD c 0) with hxy | hxy
                          · have HJ2 := Lib.hid (HJ1.out.south hv hj hfc hfj (x := ((L1).getD j 0)) (.inr ⟨rfl, Int.le_of_lt hxy⟩))
                            clear hj hfj
                            generalize hx : (L1).getD c 0 = x at *
                            generalize hy : (L1).getD j 0 = y at *
                            rw [← HT.out] at y1 y2
                            have Hx := Lib.hid hx
                            have Hy := Lib.hid hy
                            clear hx hy
                            go_wp2_with (fail)
                            obtain ⟨U2, hU2⟩ : ∃ W, W = ((K.x.setCell ⟨g, c, none⟩ (.int .i64 xw)).setCell ⟨g, c - 1, none⟩ (.int .i64 xw)) := ⟨_, rfl⟩
                            rw [← hU2] at HS1 u1 u2 u3 y1 y2 x0 x1 x2 x3 ⊢
                            clear hU2 k1 k2
                            have hLc : ∀ (M : Later U2) (b o : Nat), b < U2.heap.size → M.x.cell? ⟨b, o, none⟩ = U2.cell? ⟨b, o, none⟩ := Later.cell
                            have hLf : ∀ (M : Later U2) (b o : Nat), b < U2.heap.size → M.x.frozen? ⟨b, o, none⟩ = U2.frozen? ⟨b, o, none⟩ := Later.frozen
                            refine wp_region_later 14 (by kernel_rfl) (by kernel_rfl) ?_
                            simp only [List.take_succ_cons, List.take_zero, List.drop_succ_cons, List.drop_zero]
                            repeat (go_big_quiet_step (fail))
                            refine wpQuiet_nil ?_
                            intro M
                            go_wp2_with (fail)
                            clear hLc hLf
                            obtain ⟨V1, hV1⟩ : ∃ W, W = M.x.setCell ⟨g, c, none⟩ (.int .i64 y) := ⟨_, rfl⟩
                            have HSa := psS_set (HS1.out.later M) c y
                            rw [← hV1] at HSa ⊢
                            have HSa := Lib.hid HSa
                            clear hV1 M u1 u2 u3 y1 y2 x0 x1 x2
                            have lL : ((L1).set c y).length = r.cells.length := by simpa using HL.out
                            obtain ⟨u1, u2, u3⟩ := own_int (HSa.out.own 1 rfl) (j := c) (by rw [lL]; exact hcl)
                            obtain ⟨y1, y2, _⟩ := own_int (HSa.out.own 1 rfl) (j := j) (by rw [lL]; exact hjl)
                            rw [getD_put _ _ _ _ (by rw [HL.out]; exact hcl), if_pos rfl] at u1
                            generalize ((L1).set c y).getD j 0 = zz at *
                            obtain ⟨x0, x1, x2⟩ := HSa.out.c3 0 rfl
                            have x3 := HSa.out.lt 0 rfl rfl
                            rw [← HT.out] at y1 y2
                            clear lL
                            have hLc : ∀ (M : Later V1) (b o : Nat), b < V1.heap.size → M.x.cell? ⟨b, o, none⟩ = V1.cell? ⟨b, o, none⟩ := Later.cell
                            have hLf : ∀ (M : Later V1) (b o : Nat), b < V1.heap.size → M.x.frozen? ⟨b, o, none⟩ = V1.frozen? ⟨b, o, none⟩ := Later.frozen
                            refine wp_region_later 10 (by kernel_rfl) (by kernel_rfl) ?_
                            simp only [List.take_succ_cons, List.take_zero, List.drop_succ_cons, List.drop_zero]
                            repeat (go_big_quiet_step (fail))
                            refine wpQuiet_nil ?_
                            intro M
                            go_wp2_with (fail)
                            clear hLc hLf
                            obtain ⟨V2, hV2⟩ : ∃ W, W = M.x.setCell ⟨g, ((c : Int) - r.wide).toNat, none⟩ (.int .i64 y) := ⟨_, rfl⟩
                            have HSb := psS_set (HSa.out.later M) (((c : Int) - r.wide).toNat) y
                            rw [← hV2] at HSb ⊢
                            rw [HT.out] at HSb
                            have HS2 := Lib.hid HSb
                            clear hV2 M u1 u2 u3 y1 y2 x0 x1 x2 x3 HSb HSa HT
                            go_roundw
                            case rel => exact ⟨c + 1, _, by omega, by go_num, HS2.out, HJ2.out⟩
                            case measure => simp [intOf]; omega
                          · have HJ2 := Lib.hid (HJ1.out.south hv hj hfc hfj (x := ((L1).getD c 0)) (.inl ⟨rfl, hxy⟩))
                            clear hj hfj
                            generalize hx : (L1).getD c 0 = x at *
                            generalize hy : (L1).getD j 0 = y at *
                            rw [← HT.out] at y1 y2
                            have Hx := Lib.hid hx
                            have Hy := Lib.hid hy
                            clear hx hy
                            go_wp2_with (fail)
                            obtain ⟨U2, hU2⟩ : ∃ W, W = ((K.x.setCell ⟨g, c, none⟩ (.int .i64 xw)).setCell ⟨g, c - 1, none⟩ (.int .i64 xw)) := ⟨_, rfl⟩
                            rw [← hU2] at HS1 u1 u2 u3 y1 y2 x0 x1 x2 x3 ⊢
                            clear hU2 k1 k2
                            have hLc : ∀ (M : Later U2) (b o : Nat), b < U2.heap.size → M.x.cell? ⟨b, o, none⟩ = U2.cell? ⟨b, o, none⟩ := Later.cell
                            have hLf : ∀ (M : Later U2) (b o : Nat), b < U2.heap.size → M.x.frozen? ⟨b, o, none⟩ = U2.frozen? ⟨b, o, none⟩ := Later.frozen
                            refine wp_region_later 14 (by kernel_rfl) (by kernel_rfl) ?_
                            simp only [List.take_succ_cons, List.take_zero, List.drop_succ_cons, List.drop_zero]
                            repeat (go_big_quiet_step (fail))
                            refine wpQuiet_nil ?_
                            intro M
                            go_wp2_with (fail)
                            clear hLc hLf
                            obtain ⟨V1, hV1⟩ : ∃ W, W = M.x.setCell ⟨g, c, none⟩ (.int .i64 x) := ⟨_, rfl⟩
                            have HSa := psS_set (HS1.out.later M) c x
                            rw [← hV1] at HSa ⊢
                            have HSa := Lib.hid HSa
                            clear hV1 M u1 u2 u3 y1 y2 x0 x1 x2
                            have lL : ((L1).set c x).length = r.cells.length := by simpa using HL.out
                            obtain ⟨u1, u2, u3⟩ := own_int (HSa.out.own 1 rfl) (j := c) (by rw [lL]; exact hcl)
                            obtain ⟨y1, y2, _⟩ := own_int (HSa.out.own 1 rfl) (j := j) (by rw [lL]; exact hjl)
                            rw [getD_put _ _ _ _ (by rw [HL.out]; exact hcl), if_pos rfl] at u1
                            generalize ((L1).set c x).getD j 0 = zz at *
                            obtain ⟨x0, x1, x2⟩ := HSa.out.c3 0 rfl
                            have x3 := HSa.out.lt 0 rfl rfl
                            rw [← HT.out] at y1 y2
                            clear lL
                            have hLc : ∀ (M : Later V1) (b o : Nat), b < V1.heap.size → M.x.cell? ⟨b, o, none⟩ = V1.cell? ⟨b, o, none⟩ := Later.cell
                            have hLf : ∀ (M : Later V1) (b o : Nat), b < V1.heap.size → M.x.frozen? ⟨b, o, none⟩ = V1.frozen? ⟨b, o, none⟩ := Later.frozen
                            refine wp_region_later 10 (by kernel_rfl) (by kernel_rfl) ?_
                            simp only [List.take_succ_cons, List.take_zero, List.drop_succ_cons, List.drop_zero]
                            repeat (go_big_quiet_step (fail))
                            refine wpQuiet_nil ?_
                            intro M
                            go_wp2_with (fail)
                            clear hLc hLf
                            obtain ⟨V2, hV2⟩ : ∃ W, W = M.x.setCell ⟨g, ((c : Int) - r.wide).toNat, none⟩ (.int .i64 x) := ⟨_, rfl⟩
                            have HSb := psS_set (HSa.out.later M) (((c : Int) - r.wide).toNat) x
                            rw [← hV2] at HSb ⊢
                            rw [HT.out] at HSb
                            have HS2 := Lib.hid HSb
                            clear hV2 M u1 u2 u3 y1 y2 x0 x1 x2 x3 HSb HSa HT
                            go_roundw
                            case rel => exact ⟨c + 1, _, by omega, by go_num, HS2.out, HJ2.out⟩
                            case measure => simp [intOf]; omega
                      · have HJ2 := Lib.hid (HJ1.out.noSouth hv (fun i hi _ _ => by omega))
                        have HS2 := HS1
                        have hwc : (c : Int) < r.wide := by omega
                        generalize (L1).getD c 0 = x at *
                        go_wp2
                        go_roundw
                        case rel => exact ⟨c + 1, L1, by omega, by go_num, HS2.out, HJ2.out⟩
                        case measure => simp [intOf]; omega
                · have HJ1 := Lib.hid (HJ.out.noWest hv (fun i _ h _ _ => hmw h))
                  have HS1 := HS
                  have hmw : (c : Int) % r.wide = 0 := by omega
                  clear u1 u2 u3 q1 q2 x0 x1 x2 x3
                  have HL := Lib.hid HJ1.out.inv.len
                  obtain ⟨u1, u2, u3⟩ := own_int (HS1.out.own 1 rfl) (j := c) (by rw [HL.out]; exact hcl)
                  obtain ⟨q1, q2, _⟩ := HJ1.out.inv.yes c hfc
                  obtain ⟨x0, x1, x2⟩ := HS1.out.c3 0 rfl
                  have x3 := HS1.out.lt 0 rfl rfl
                  by_cases hwc : r.wide ≤ (c : Int)
                  · obtain ⟨j, hj⟩ : ∃ j : Nat, (j : Int) + r.wide = c := ⟨((c : Int) - r.wide).toNat, by omega⟩
                    have hjl : j < r.cells.length := by omega
                    have HT := Lib.hid (show ((c : Int) - r.wide).toNat = j by omega)
                    obtain ⟨y1, y2, _⟩ := own_int (HS1.out.own 1 rfl) (j := j) (by rw [HL.out]; exact hjl)
                    have w1 : 0 ≤ (c : Int) - r.wide := by omega
                    have w2 : (c : Int) - r.wide < (r.cells.length : Int) := by omega
                    cases hfj : r.f j
                    · have HJ2 := Lib.hid (HJ1.out.noSouth hv (fun i hi _ h => by rw [show i = j by omega, hfj] at h; cases h))
                      rw [HJ1.out.inv.no j hjl hfj, ← HT.out] at y1
                      have HS2 := HS1
                      clear y2 HT hfj hj hjl
                      generalize (L).getD c 0 = x at *
                      go_wp2
                      go_roundw
                      case rel => exact ⟨c + 1, L, by omega, by go_num, HS2.out, HJ2.out⟩
                      case measure => simp [intOf]; omega
                    · obtain ⟨q3, q4, _⟩ := HJ1.out.inv.yes j hfj
                      rcases Int.lt_or_le ((L).getD j 0) ((L).getD c 0) with hxy | hxy
                      · have HJ2 := Lib.hid (HJ1.out.south hv hj hfc hfj (x := ((L).getD j 0)) (.inr ⟨rfl, Int.le_of_lt hxy⟩))
                        clear hj hfj
                        generalize hx : (L).getD c 0 = x at *
                        generalize hy : (L).getD j 0 = y at *
                        rw [← HT.out] at y1 y2
                        have Hx := Lib.hid hx
                        have Hy := Lib.hid hy
                        clear hx hy
                        go_wp2_with (fail)
                        have hLc : ∀ (M : Later wr) (b o : Nat), b < wr.heap.size → M.x.cell? ⟨b, o, none⟩ = wr.cell? ⟨b, o, none⟩ := Later.cell
                        have hLf : ∀ (M : Later wr) (b o : Nat), b < wr.heap.size → M.x.frozen? ⟨b, o, none⟩ = wr.frozen? ⟨b, o, none⟩ := Later.frozen
                        refine wp_region_later 14 (by kernel_rfl) (by kernel_rfl) ?_
                        simp only [List.take_succ_cons, List.take_zero, List.drop_succ_cons, List.drop_zero]
                        repeat (go_big_quiet_step (fail))
                        refine wpQuiet_nil ?_
                        intro M
                        go_wp2_with (fail)
                        clear hLc hLf
                        obtain ⟨V1, hV1⟩ : ∃ W, W = M.x.setCell ⟨g, c, none⟩ (.int .i64 y) := ⟨_, rfl⟩
                        have HSa := psS_set (HS1.out.later M) c y
                        rw [← hV1] at HSa ⊢
                        have HSa := Lib.hid HSa
                        clear hV1 M u1 u2 u3 y1 y2 x0 x1 x2
                        have lL : ((L).set c y).length = r.cells.length := by simpa using HL.out
                        obtain ⟨u1, u2, u3⟩ := own_int (HSa.out.own 1 rfl) (j := c) (by rw [lL]; exact hcl)
                        obtain ⟨y1, y2, _⟩ := own_int (HSa.out.own 1 rfl) (j := j) (by rw [lL]; exact hjl)
                        rw [getD_put _ _ _ _ (by rw [HL.out]; exact hcl), if_pos rfl] at u1
                        generalize ((L).set c y).getD j 0 = zz at *
                        obtain ⟨x0, x1, x2⟩ := HSa.out.c3 0 rfl
                        have x3 := HSa.out.lt 0 rfl rfl
                        rw [← HT.out] at y1 y2
                        clear lL
                        have hLc : ∀ (M : Later V1) (b o : Nat), b < V1.heap.size → M.x.cell? ⟨b, o, none⟩ = V1.cell? ⟨b, o, none⟩ := Later.cell
                        have hLf : ∀ (M : Later V1) (b o : Nat), b < V1.heap.size → M.x.frozen? ⟨b, o, none⟩ = V1.frozen? ⟨b, o, none⟩ := Later.frozen
                        refine wp_region_later 10 (by kernel_rfl) (by kernel_rfl) ?_
                        simp only [List.take_succ_cons, List.take_zero, List.drop_succ_cons, List.drop_zero]
                        repeat (go_big_quiet_step (fail))
                        refine wpQuiet_nil ?_
                        intro M
                        go_wp2_with (fail)
                        clear hLc hLf
                        obtain ⟨V2, hV2⟩ : ∃ W, W = M.x.setCell ⟨g, ((c : Int) - r.wide).toNat, none⟩ (.int .i64 y) := ⟨_, rfl⟩
                        have HSb := psS_set (HSa.out.later M) (((c : Int) - r.wide).toNat) y
                        rw [← hV2] at HSb ⊢
                        rw [HT.out] at HSb
                        have HS2 := Lib.hid HSb
                        clear hV2 M u1 u2 u3 y1 y2 x0 x1 x2 x3 HSb HSa HT
                        go_roundw
                        case rel => exact ⟨c + 1, _, by omega, by go_num, HS2.out, HJ2.out⟩
                        case measure => simp [intOf]; omega
                      · have HJ2 := Lib.hid (HJ1.out.south hv hj hfc hfj (x := ((L).getD c 0)) (.inl ⟨rfl, hxy⟩))
                        clear hj hfj
                        generalize hx : (L).getD c 0 = x at *
                        generalize hy : (L).getD j 0 = y at *
                        rw [← HT.out] at y1 y2
                        have Hx := Lib.hid hx
                        have Hy := Lib.hid hy
                        clear hx hy
                        go_wp2_with (fail)
                        have hLc : ∀ (M : Later wr) (b o : Nat), b < wr.heap.size → M.x.cell? ⟨b, o, none⟩ = wr.cell? ⟨b, o, none⟩ := Later.cell
                        have hLf : ∀ (M : Later wr) (b o : Nat), b < wr.heap.size → M.x.frozen? ⟨b, o, none⟩ = wr.frozen? ⟨b, o, none⟩ := Later.frozen
                        refine wp_region_later 14 (by kernel_rfl) (by kernel_rfl) ?_
                        simp only [List.take_succ_cons, List.take_zero, List.drop_succ_cons, List.drop_zero]
                        repeat (go_big_quiet_step (fail))
                        refine wpQuiet_nil ?_
                        intro M
                        go_wp2_with (fail)
                        clear hLc hLf
                        obtain ⟨V1, hV1⟩ : ∃ W, W = M.x.setCell ⟨g, c, none⟩ (.int .i64 x) := ⟨_, rfl⟩
                        have HSa := psS_set (HS1.out.later M) c x
                        rw [← hV1] at HSa ⊢
                        have HSa := Lib.hid HSa
                        clear hV1 M u1 u2 u3 y1 y2 x0 x1 x2
                        have lL : ((L).set c x).length = r.cells.length := by simpa using HL.out
                        obtain ⟨u1, u2, u3⟩ := own_int (HSa.out.own 1 rfl) (j := c) (by rw [lL]; exact hcl)
                        obtain ⟨y1, y2, _⟩ := own_int (HSa.out.own 1 rfl) (j := j) (by rw [lL]; exact hjl)
                        rw [getD_put _ _ _ _ (by rw [HL.out]; exact hcl), if_pos rfl] at u1
                        generalize ((L).set c x).getD j 0 = zz at *
                        obtain ⟨x0, x1, x2⟩ := HSa.out.c3 0 rfl
                        have x3 := HSa.out.lt 0 rfl rfl
                        rw [← HT.out] at y1 y2
                        clear lL
                        have hLc : ∀ (M : Later V1) (b o : Nat), b < V1.heap.size → M.x.cell? ⟨b, o, none⟩ = V1.cell? ⟨b, o, none⟩ := Later.cell
                        have hLf : ∀ (M : Later V1) (b o : Nat), b < V1.heap.size → M.x.frozen? ⟨b, o, none⟩ = V1.frozen? ⟨b, o, none⟩ := Later.frozen
                        refine wp_region_later 10 (by kernel_rfl) (by kernel_rfl) ?_
                        simp only [List.take_succ_cons, List.take_zero, List.drop_succ_cons, List.drop_zero]
                        repeat (go_big_quiet_step (fail))
                        refine wpQuiet_nil ?_
                        intro M
                        go_wp2_with (fail)
                        clear hLc hLf
                        obtain ⟨V2, hV2⟩ : ∃ W, W = M.x.setCell ⟨g, ((c : Int) - r.wide).toNat, none⟩ (.int .i64 x) := ⟨_, rfl⟩
                        have HSb := psS_set (HSa.out.later M) (((c : Int) - r.wide).toNat) x
                        rw [← hV2] at HSb ⊢
                        rw [HT.out] at HSb
                        have HS2 := Lib.hid HSb
                        clear hV2 M u1 u2 u3 y1 y2 x0 x1 x2 x3 HSb HSa HT
                        go_roundw
                        case rel => exact ⟨c + 1, _, by omega, by go_num, HS2.out, HJ2.out⟩
                        case measure => simp [intOf]; omega
                  · have HJ2 := Lib.hid (HJ1.out.noSouth hv (fun i hi _ _ => by omega))
                    have HS2 := HS1
                    have hwc : (c : Int) < r.wide := by omega
                    generalize (L).getD c 0 = x at *
                    go_wp2
                    go_roundw
                    case rel => exact ⟨c + 1, L, by omega, by go_num, HS2.out, HJ2.out⟩
                    case measure => simp [intOf]; omega
            · have e : c = r.cells.length := by omega
              subst e
              have NI := Lib.hid HJ.out.inv
              have NN := Lib.hid (HJ.out.round hv HI.out (fun _ _ e => ⟨e.lt.1, e.lt.2⟩) HN.out)
              go_wp2
              go_roundw
              case rel => exact ⟨t + 1, L, by omega, by go_num, HS.out, NI.out, NN.out⟩
              case measure => simp [intOf]; omega
        · have e : t = r.cells.length := by omega
          subst e
          have hL := parts_done HI.out HN.out
          subst hL
          go_wp2
          go_ret
          exact ⟨_, rfl, Ow.of_owns (HS.out.high 1 rfl), HS.out.bel⟩
theorem sPartsOf_yes (v : Value) (r : Reg) (w : World) (h : RegV w v r) (hv : r.valid = true) :
    Calls Try.prog 106 #[v] w (RetI r.parts w) := by
  refine (sPartsOf_ow v r w h hv).mono ?_
  rintro e w' ⟨u, rfl, hu, hb⟩
  exact ⟨u, rfl, hu.sl, hb⟩

end Go.Proofs.Ytdggcfpkbmdllaa
