/- Walks: l20Matrix, DrawDet. -/
import Derived.Test.YtklifibiadiinaaZe
import Derived.Test.YtklifibiadiinaaVSome
import Derived.Test.YtklifibiadiinaaVLsgn
set_option linter.unusedVariables false
namespace Go.Proofs.Ytklifibiadiinaa
open Go.RowKit Domi

/-- The matrix that is drawn, beside the reader. -/
structure Dm (w0 : World) (b : Nat) (sl : Value) (ys : List Int) (N : Nat) (w : World) (v : Value) (vs : List Value) (M : List (List Int)) (X : List It) : Prop where
  m : Md w0 b w 39 3 v vs M X
  d : Dr w0 b sl ys N w (.row 39 v vs :: (rowsI 3 vs M ++ X))
section
variable {w0 w w' : World} {b : Nat} {sl : Value} {ys : List Int} {N K : Nat} {v : Value} {vs : List Value} {M : List (List Int)} {X : List It}
theorem Dm.mk2 (m : Md w0 b w 39 3 v vs M X) (d : Dr w0 b sl ys N w (.row 39 v vs :: (rowsI 3 vs M ++ X))) : Dm w0 b sl ys N w v vs M X := ⟨m, d⟩
theorem Dm.picked (h : Dm w0 b sl ys N w v vs M X) (hg : w.grownBy w' (some b)) (hr : RdN w' b sl ys K) : Dm w0 b sl ys K w' v vs M X :=
  have d := h.d.picked hg hr
  ⟨⟨h.m.len, d.s⟩, d⟩
theorem Dm.alloc (h : Dm w0 b sl ys N w v vs M X) (o : Obj) : Dm w0 b sl ys N (w.alloc o) v vs M X := ⟨h.m.alloc o, h.d.alloc o⟩
theorem Dm.mono (h : Dm w0 b sl ys N w v vs M X) (hK : N ≤ K) : Dm w0 b sl ys K w v vs M X := ⟨h.m, h.d.weak hK⟩
theorem Dm.empty (h : RdN w b sl ys N) : Dm w b sl ys N (w.alloc (.cells #[] 39)) (.slice (some ⟨w.heap.size, 0, none⟩) 0 0) [] [] [] :=
  have m := Md.empty w b 39 3
  ⟨m, (Dr.start h).with_ m.s (World.grownBy_alloc w _ none) (fun k e => by cases e)⟩
theorem Dm.row (h : Dm w0 b sl ys N w v vs M []) : Dm w0 b sl ys N (w.alloc (.cells #[] 3)) v vs M [.row 3 (.slice (some ⟨w.heap.size, 0, none⟩) 0 0) (([] : List Int).map (Value.int .i64))] :=
  ⟨h.m.row, h.d.with_ h.m.row.s (World.grownBy_alloc w _ none) (fun k e => by cases e)⟩
theorem Dm.app1 {rv : Value} {L : List Int} {x : Int} {B g cap : Nat} (h : Dm w0 b sl ys N w v vs M [.row 3 rv (L.map (Value.int .i64))]) (A : App w B 3 rv (L.map (Value.int .i64)) (.int .i64 x) g cap w') :
    Dm w0 b sl ys N w' v vs M [.row 3 (.slice (some ⟨g, 0, none⟩) (L.length + 1) cap) ((L ++ [x]).map (Value.int .i64))] :=
  have m := h.m.app1 A
  ⟨m, h.d.with_ m.s A.grown (fun k hk => h.m.s.new (M.length + 1) (.row 3 rv (L.map (Value.int .i64))) k (by rw [List.getElem?_cons_succ, List.getElem?_append_right (by rw [rowsI_len h.m.len]; exact Nat.le_refl _), rowsI_len h.m.len, Nat.sub_self]; rfl) hk)⟩
theorem Dm.app0 {rv : Value} {L : List Int} {B g cap : Nat} (h : Dm w0 b sl ys N w v vs M [.row 3 rv (L.map (Value.int .i64))]) (A : App w B 39 v vs rv g cap w') :
    Dm w0 b sl ys N w' (.slice (some ⟨g, 0, none⟩) (vs.length + 1) cap) (vs ++ [rv]) (M ++ [L]) [] :=
  have m := h.m.app0 A
  ⟨m, h.d.with_ m.s A.grown (fun k hk => h.m.s.new 0 _ k rfl hk)⟩
theorem Dm.put (h : Dm w0 b sl ys N w v vs M []) {i : Nat} (hi : i < M.length) {g n c : Nat} (hv : vs.getD i nilV = .slice (some ⟨g, 0, none⟩) n c) (j : Nat) (x : Int) :
    Dm w0 b sl ys N (w.setCell ⟨g, j, none⟩ (.int .i64 x)) v vs (M.set i ((M.getD i []).set j x)) [] :=
  have m := h.m.put hi hv j x
  ⟨m, h.d.with_ m.s (grown_setCell w g j none _) (fun k hk => h.m.s.new (i + 1) (.row 3 (.slice (some ⟨g, 0, none⟩) n c) ((M.getD i []).map (Value.int .i64))) k (by
    rw [List.getElem?_cons_succ, List.getElem?_append_left (by rw [rowsI_len h.m.len]; exact hi), rowsI_get h.m.len hi, hv]) hk)⟩
end
/-- A matrix of at most 12 rows of at most 12 numbers. -/
def MxSmall (M : List (List Int)) : Prop := M.length ≤ 12 ∧ ∀ i, i < M.length → (M.getD i []).length ≤ 12
def DrawnM (w : World) (b : Nat) (e : Ending) (w' : World) : Prop := ∃ a c M, e = .returned (.slice a M.length c) ∧ Ll w' (.slice a M.length c) M ∧ MxSmall M ∧ w.grownBy w' (some b)
set_option maxRecDepth 100000 in
set_option maxHeartbeats 2000000 in
theorem matrix_n (b : Nat) (sl : Value) (ys : List Int) (N : Nat) (n : Int) (w : World) (h : RdN w b sl ys N) (hN : N < 50000) (hn : n ≤ 1000000) :
    Calls Try.prog 65 #[.pointer (some ⟨b, 0, none⟩), .int .i64 n] w (DrawnM w b) := by
  have hb := rdN_lt h
  have H := Lib.hid h
  clear h
  go_enter Try.func65, Try.ntmps65
  go_wp2_with (fail)
  refine (pick_n b sl ys N 6 _ H.out (by omega)).mono ?_
  rintro e w1 ⟨k1, rfl, hk1, hg1, hr1⟩
  obtain ⟨k, rfl⟩ := Int.eq_ofNat_of_zero_le hk1.1
  have hk6 : k ≤ 5 := by omega
  have G1 := Lib.hid hg1
  have D0 := Lib.hid (Dm.empty hr1)
  have hb1 : b < w1.heap.size := Nat.lt_of_lt_of_le hb hg1.size
  clear hg1 hr1 hk1 H
  go_wp2_with (fail)
  obtain ⟨W2, hW2⟩ : ∃ W, W = w1.alloc (.cells #[] 39) := ⟨_, rfl⟩
  rw [← hW2] at D0 ⊢
  clear hW2
  go_loopw [6, 7] (fun o i wr => ∃ (j m c g : Nat) (vs : List Value) (M : List (List Int)), j ≤ k ∧ i = .int .i64 j ∧ o = .slice (some ⟨g, 0, none⟩) m c ∧ Hid (m = vs.length) ∧ Hid (M.length = j ∧ ∀ i, i < j → (M.getD i []).length = k) ∧ Dm w1 b sl ys (N + 1 + 10 * j) wr (.slice (some ⟨g, 0, none⟩) m c) vs M []) (fun _ i _ => k - (intOf i).toNat)
  case atStart => exact ⟨0, 0, 0, _, [], [], Nat.zero_le _, rfl, rfl, Lib.hid rfl, Lib.hid ⟨rfl, fun i h => by omega⟩, D0.out⟩
  case round =>
    clear D0
    obtain ⟨j, m, c, g, vs, M, hj, rfl, rfl, HM, HS, hd⟩ := hrel
    have HD := Lib.hid hd
    have hmj : m = j := by rw [HM.out, hd.m.len, HS.out.1]
    clear hd
    subst hmj
    by_cases hlt : m < k
    · have hlt' : (m : Int) < (k : Int) := by omega
      go_wp2_with (fail)
      have D1 := Lib.hid HD.out.row
      obtain ⟨W3, hW3⟩ : ∃ W, W = wr.alloc (.cells #[] 3) := ⟨_, rfl⟩
      rw [← hW3] at D1 ⊢
      clear hW3 HD
      go_loopw [8, 9] (fun o i wr => ∃ (t m2 c2 g2 : Nat) (L : List Int), t ≤ k ∧ i = .int .i64 t ∧ o = .slice (some ⟨g2, 0, none⟩) m2 c2 ∧ Hid (m2 = t) ∧ Hid (L.length = t) ∧ Dm w1 b sl ys (N + 1 + 10 * m + t) wr (.slice (some ⟨g, 0, none⟩) m c) vs M [.row 3 (.slice (some ⟨g2, 0, none⟩) m2 c2) (L.map (Value.int .i64))]) (fun _ i _ => k - (intOf i).toNat)
      case atStart => exact ⟨0, 0, 0, _, [], Nat.zero_le _, rfl, rfl, Lib.hid rfl, Lib.hid rfl, D1.out⟩
      case round =>
        clear D1
        obtain ⟨t, m2, c2, g2, L, ht, rfl, rfl, HM2, HL, hd⟩ := hrel
        have HD := Lib.hid hd
        have e2 := HM2.out
        subst e2
        clear hd HM2
        by_cases hlt2 : m2 < k
        · have hlt2' : (m2 : Int) < (k : Int) := by omega
          go_wp2_with (fail)
          refine (pick_n b sl ys _ 3 _ HD.out.d.r (by omega)).mono ?_
          rintro e w5 ⟨x, rfl, hx, hg5, hr5⟩
          have D5 := Lib.hid (HD.out.picked hg5 hr5)
          clear hg5 hr5 HD
          go_wp2_with (at_builtin; refine list_app elem_ints 0 (.slice (some ⟨g2, 0, none⟩) m2 c2) (L.map (Value.int .i64)) ?_ w5.heap.size (.int .i64 (x - 1)) (.tmp 24) (.tmp 28) rfl rfl rfl rfl (heap_alloc_new _ _) rfl ?_ (Nat.zero_le _) ?_; exact Own.alloc D5.out.m.own1 _; (rw [List.length_map, HL.out]; omega); intro g3 c3 w6 A6; (have D6 := Lib.hid ((D5.out.alloc _).app1 A6)); clear A6 D5; rw [List.length_map, HL.out])
          rw [HL.out] at D6
          go_roundw
          case rel => exact ⟨m2 + 1, m2 + 1, c3, g3, L ++ [x - 1], by omega, by go_num, rfl, Lib.hid rfl, Lib.hid (by rw [List.length_append, HL.out]; rfl), D6.out⟩
          case measure => simp [intOf]; omega
        · have e : m2 = k := by omega
          subst e
          go_wp2_with (at_builtin; refine list_app elem_rows 0 (.slice (some ⟨g, 0, none⟩) m c) vs ?_ wr.heap.size (.slice (some ⟨g2, 0, none⟩) m2 c2) (.tmp 30) (.tmp 32) rfl rfl rfl rfl (heap_alloc_new _ _) rfl ?_ (Nat.zero_le _) ?_; exact Own.alloc HD.out.m.own0 _; (rw [← HM.out]; omega); intro g3 c3 w6 A6; (have D6 := Lib.hid ((HD.out.alloc _).app0 A6)); clear A6 HD; rw [← HM.out])
          rw [← HM.out] at D6
          go_roundw
          case rel => exact ⟨m + 1, m + 1, c3, g3, vs ++ [.slice (some ⟨g2, 0, none⟩) m2 c2], M ++ [L], by omega, by go_num, rfl, Lib.hid (by rw [List.length_append, ← HM.out]; rfl), Lib.hid (by
            refine ⟨by rw [List.length_append, HS.out.1]; rfl, fun i hi => ?_⟩
            by_cases e : i < m
            · rw [List.getD_eq_getElem?_getD, List.getElem?_append_left (by rw [HS.out.1]; exact e), ← List.getD_eq_getElem?_getD]; exact HS.out.2 i e
            · have e : i = m := by omega
              subst e
              rw [List.getD_eq_getElem?_getD, List.getElem?_append_right (by rw [HS.out.1]; exact Nat.le_refl _), HS.out.1, Nat.sub_self]
              exact HL.out), D6.out.mono (by omega)⟩
          case measure => simp [intOf]; omega
    · have e : m = k := by omega
      subst e
      go_wp2_with (fail)
      refine (odd_n b sl ys _ n _ HD.out.d.r (by omega) hn).mono ?_
      rintro e w5 ⟨o, rfl, hg5, hr5⟩
      have D5 := Lib.hid (HD.out.picked hg5 hr5)
      clear hg5 hr5 HD hlt
      have ret : ∀ (w' : World) (M' : List (List Int)) (vs' : List Value) (g' m' c' N' : Nat), m' = M'.length → Dm w1 b sl ys N' w' (.slice (some ⟨g', 0, none⟩) m' c') vs' M' [] → MxSmall M' → DrawnM w b (.returned (.slice (some ⟨g', 0, none⟩) m' c')) w' := by
        rintro w' M' vs' g' m' c' N' rfl hd hs
        exact ⟨_, _, _, rfl, hd.m.ll, hs, grown_trans G1.out hd.d.s.g⟩
      have small : MxSmall M := ⟨by rw [HS.out.1]; omega, fun i hi => by rw [HS.out.2 i (by rw [← HS.out.1]; exact hi)]; omega⟩
      cases o
      · go_wp2_with (fail)
        go_ret
        exact ret _ M vs g m c _ HS.out.1.symm D5.out small
      · by_cases h0 : 0 < m
        · have h0' : (0 : Int) < (m : Int) := by omega
          go_wp2_with (fail)
          refine (pick_n b sl ys _ 2 _ D5.out.d.r (by omega)).mono ?_
          rintro e w6 ⟨k2, rfl, hk2, hg6, hr6⟩
          have D6 := Lib.hid (D5.out.picked hg6 hr6)
          clear hg6 hr6 D5
          by_cases hk0 : k2 = 0
          · subst hk0
            have hM0 : 0 < M.length := by rw [HS.out.1]; exact h0
            have hl0 := HS.out.2 0 h0
            have R0 := D6.out.m.rowOwn hM0
            obtain ⟨g2, c2, hv2, _, hg2, _, _⟩ := R0.formN (by rw [List.length_map, hl0]; exact h0)
            rw [List.length_map, hl0] at hv2
            rw [hv2] at R0
            have f2 := (R0.cell 0 h0).2.1
            obtain ⟨u2, e2, _⟩ := R0.there 0 h0
            have hg1 := (D6.out.m.own0.cell 0 h0).2.2
            have e0 := (D6.out.m.own0.cell 0 h0).1
            have e1 : w6.cell? ⟨g, 0, none⟩ = some (.slice (some ⟨g2, 0, none⟩) m c2) := by
              rw [e0, ← hv2, List.getD_eq_getElem?_getD, List.getElem?_eq_getElem (by rw [← HM.out]; exact h0)]; rfl
            have Hv2 := Lib.hid hv2
            have D7 := Lib.hid (D6.out.put hM0 hv2 0 2)
            clear hv2 R0 hl0 hM0 e0
            go_wp2_with (fail)
            go_ret
            refine ret _ _ _ g m c _ ?_ D7.out ?_
            · rw [List.length_set, HS.out.1]
            · refine ⟨by rw [List.length_set]; exact small.1, fun i hi => ?_⟩
              rw [List.length_set] at hi
              rw [getD_set _ _ _ _ _ (by rw [HS.out.1]; exact h0)]
              split
              · rw [List.length_set]; exact small.2 0 (by rw [HS.out.1]; exact h0)
              · exact small.2 i hi
          · clear hk2
            have hsz : (w6.alloc (.cells #[] 3)).heap.size = w6.heap.size + 1 := by simp
            go_wp2_with (at_builtin; refine list_app elem_rows 0 (.slice (some ⟨g, 0, none⟩) m c) vs ?_ (w6.heap.size + 1) (.slice (some ⟨w6.heap.size, 0, none⟩) 0 0) (.tmp 49) (.tmp 51) rfl rfl rfl rfl (by rw [← hsz]; exact heap_alloc_new _ _) rfl ?_ (Nat.zero_le _) ?_; exact Own.alloc (Own.alloc D6.out.m.own0 _) _; (rw [← HM.out]; omega); intro g3 c3 w7 A7; (have D7 := Lib.hid ((D6.out.row.alloc _).app0 A7)); clear A7 D6; rw [← HM.out])
            rw [← HM.out] at D7
            go_ret
            refine ret _ _ _ g3 (m + 1) c3 _ ?_ D7.out ?_
            · rw [List.length_append, HS.out.1]; rfl
            · refine ⟨by rw [List.length_append, HS.out.1]; simp; omega, fun i hi => ?_⟩
              by_cases e : i < M.length
              · rw [List.getD_eq_getElem?_getD, List.getElem?_append_left e, ← List.getD_eq_getElem?_getD]; exact small.2 i e
              · rw [List.length_append, List.length_singleton] at hi
                rw [List.getD_eq_getElem?_getD, List.getElem?_append_right (by omega), show i - M.length = 0 by omega]; simp
        · have h0' : ¬ (0 : Int) < (m : Int) := by omega
          have hsz : (w5.alloc (.cells #[] 3)).heap.size = w5.heap.size + 1 := by simp
          go_wp2_with (at_builtin; refine list_app elem_rows 0 (.slice (some ⟨g, 0, none⟩) m c) vs ?_ (w5.heap.size + 1) (.slice (some ⟨w5.heap.size, 0, none⟩) 0 0) (.tmp 49) (.tmp 51) rfl rfl rfl rfl (by rw [← hsz]; exact heap_alloc_new _ _) rfl ?_ (Nat.zero_le _) ?_; exact Own.alloc (Own.alloc D5.out.m.own0 _) _; (rw [← HM.out]; omega); intro g3 c3 w6 A6; (have D6 := Lib.hid ((D5.out.row.alloc _).app0 A6)); clear A6 D5; rw [← HM.out])
          rw [← HM.out] at D6
          go_ret
          refine ret _ _ _ g3 (m + 1) c3 _ ?_ D6.out ?_
          · rw [List.length_append, HS.out.1]; rfl
          · refine ⟨by rw [List.length_append, HS.out.1]; simp; omega, fun i hi => ?_⟩
            by_cases e : i < M.length
            · rw [List.getD_eq_getElem?_getD, List.getElem?_append_left e, ← List.getD_eq_getElem?_getD]; exact small.2 i e
            · rw [List.length_append, List.length_singleton] at hi
              rw [List.getD_eq_getElem?_getD, List.getElem?_append_right (by omega), show i - M.length = 0 by omega]; simp
def DrawnMx (w : World) (e : Ending) (w' : World) : Prop := ∃ a c M, e = .returned (.slice a M.length c) ∧ Ll w' (.slice a M.length c) M ∧ MxSmall M ∧ Below w.heap.size w w'
theorem signM_small (r : Reg) : MxSmall (signM r) := by
  cases hb : r.bal
  · rw [signM_no hb]; exact ⟨by simp, fun i h => by simp at h⟩
  · obtain ⟨h1, _, h3⟩ := lens_bal hb
    rw [signM_yes hb]
    refine ⟨by rw [signR_length]; exact h3, fun i hi => ?_⟩
    rw [signR_length] at hi
    rw [signR_row hi, rowTo_len, h1]; exact h3
set_option maxRecDepth 100000 in
set_option maxHeartbeats 1000000 in
theorem DrawDet_any (v : Value) (ys : List Int) (w : World) (h : Yl w v ys) (hr : ∀ i, i < ys.length → 0 ≤ ys.getD i 0 ∧ ys.getD i 0 ≤ 255) :
    Calls Try.prog 28 #[v] w (DrawnMx w) := by
  have H := Lib.hid h
  have Hr := Lib.hid hr
  clear h hr
  go_enter Try.func28, Try.ntmps28
  go_wp2_with (fail)
  refine (open_n v ys w H.out Hr.out).mono ?_
  rintro e w1 ⟨b, sl, zs, rfl, hb1, hb2, hr1⟩
  have Hb := Lib.hid hb2
  have Hr1 := Lib.hid hr1
  clear hb2 hr1
  go_wp2_with (fail)
  refine (pick_n b sl zs 0 4 w1 Hr1.out (by omega)).mono ?_
  rintro e w2 ⟨k, rfl, hk, hg, hr2⟩
  have Hb := Lib.hid (Hb.out.trans (below_grown hg (Hb.out.size) (fun i hi => by cases hi; exact hb1)))
  have Hr2 := Lib.hid hr2
  clear hg hr2 hk Hr1
  by_cases h0 : k = 0
  · subst h0
    go_wp2_with (fail)
    refine (some_n b sl zs _ 0 w2 Hr2.out (by omega) (by omega)).mono ?_
    rintro e w3 ⟨s2, r, rfl, ho, hsm, hg, _⟩
    have Hb := Lib.hid (Hb.out.trans (below_grown hg (Hb.out.size) (fun i hi => by cases hi; exact hb1)))
    have HV := Lib.hid (show RegV w3 (.agg #[.int .i64 r.wide, .int .i64 r.tall, s2]) r from ⟨_, rfl, ho.sl⟩)
    clear ho hg hsm
    obtain ⟨M, hM⟩ : ∃ M, signM r = M := ⟨_, rfl⟩
    have HM := Lib.hid hM
    clear hM
    go_wp2_with (fail)
    refine (sSignMatrix_l8 _ r _ HV.out M HM.out).mono ?_
    rintro e w4 ⟨ma, mc, rfl, hl, hb⟩
    have Hb := Lib.hid (Hb.out.trans (hb.mono Hb.out.size))
    have HL := Lib.hid hl
    clear hb hl
    go_wp2_with (fail)
    go_ret
    exact ⟨_, _, _, rfl, HL.out, HM.out ▸ signM_small r, Hb.out⟩
  · go_wp2_with (fail)
    refine (matrix_n b sl zs _ 9 w2 Hr2.out (by omega) (by omega)).mono ?_
    rintro e w3 ⟨ma, mc, M, rfl, hl, hs, hg⟩
    have Hb := Lib.hid (Hb.out.trans (below_grown hg (Hb.out.size) (fun i hi => by cases hi; exact hb1)))
    have HL := Lib.hid hl
    have HS := Lib.hid hs
    clear hg hl hs
    go_wp2_with (fail)
    go_ret
    exact ⟨_, _, _, rfl, HL.out, HS.out, Hb.out⟩
end Go.Proofs.Ytklifibiadiinaa
