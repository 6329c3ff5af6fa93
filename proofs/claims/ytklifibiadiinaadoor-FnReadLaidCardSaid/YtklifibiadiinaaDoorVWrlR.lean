/- Walks: reading dominoes, the program's. -/
import Derived.Test.YtklifibiadiinaaDoorVWrl
import Derived.Test.YtklifibiadiinaaDoorVWlaid
set_option linter.unusedVariables false
namespace Go.Proofs.YtklifibiadiinaaDoor
open Go.RowKit Domi

def RetRLB (q : Reg × List Int × Bool) (w : World) (e : Ending) (w' : World) : Prop := ∃ v u, e = .returned (.tuple #[v, u, .bool q.2.2]) ∧ RegV w' v q.1 ∧ Il w' u q.2.1 ∧ Below w.heap.size w w'
theorem lays_is (v u : Value) (r : Reg) (L : List Int) (w : World) (h : RegV w v r) (hu : Il w u L) (hv : r.valid = true) (b : Bool) (hb : laysB r L = b) : Calls Tryd.prog 29 #[v, u] w (Ret (.bool b) w) := by rw [← hb]; exact lays_any v u r L w h hu hv
theorem il_nil (w : World) : Il w (.slice none 0 0) [] := (Own.nil w 0 3).sl
set_option maxRecDepth 100000 in
set_option maxHeartbeats 2000000 in
theorem ReadLaid_any (s : ByteArray) (w : World) (hs : s.size ≤ 1000) (m : Int) (hm : w.cell? ⟨0, 0, none⟩ = some (.int .i64 m)) (hw0 : 0 < w.heap.size) :
    Calls Tryd.prog 12 #[.string s] w (RetRLB (readL s.data.toList) w) := by
  have S0 := Lib.hid ((Sep.start w none).box #[.int .i64 0, .int .i64 0, .slice none 0 0] 25)
  obtain ⟨w1, hw1⟩ : ∃ w1, w1 = w.alloc (.cells #[.int .i64 0, .int .i64 0, .slice none 0 0] 25) := ⟨_, rfl⟩
  have HC := Lib.hid (read33_n okL s w1 hs m (by rw [hw1, (below_alloc w _).cell hw0]; exact hm) (by rw [hw1]; simp) (fun c x _ => signOkL_any c x))
  rw [← hw1] at S0
  obtain ⟨d, hd⟩ : ∃ d, s.data.toList = d := ⟨_, rfl⟩
  rw [hd] at HC ⊢
  clear hm hw0 hd
  go_enter Tryd.func12, Tryd.ntmps12
  go_wp2_with (fail)
  rw [← hw1]
  clear hw1
  refine HC.out.mono ?_
  rintro e w2 ⟨x, y, a, n, c, la, ln, lc, b, rfl, hb, hyes, hno⟩
  have HY := Lib.hid hyes
  have HN := Lib.hid hno
  clear hyes hno HC
  by_cases h1 : goodU okL d = true ∧ (outR d).valid = true
  · obtain ⟨h1, h2⟩ := h1
    obtain ⟨e1, ⟨ex, ey⟩, ho, hsg⟩ := HY.out h1
    rw [h2] at e1
    subst e1
    have hN36 : 1 ≤ (sigs d).length ∧ (sigs d).length ≤ 36 := by
      have hf := (goodU_iff.1 h1).1
      obtain ⟨f1, f2, _⟩ := fitU_iff.1 hf
      have := tallU_pos d
      rw [sigs_len hf]
      exact ⟨Nat.mul_pos (by omega) (by omega), Nat.mul_le_mul f1.2 f2⟩
    obtain ⟨sg, c3, e0, _, hsl, _, _⟩ := hsg.formN (by rw [List.length_map]; omega)
    rw [List.length_map, Value.slice.injEq] at e0
    obtain ⟨rfl, rfl, rfl⟩ := e0
    obtain ⟨N, hN⟩ : ∃ N, (sigs d).length = N := ⟨_, rfl⟩
    have HNN := Lib.hid hN
    rw [hN] at hN36 hsg
    rw [hN]
    have SG := Lib.hid hsg
    have S1 := Lib.hid (((S0.out.below hb).add S0.out ho).box #[.int .i64 x, .int .i64 y, .slice a n c] 25)
    have HE := Lib.hid (And.intro ex ey)
    have H1 := Lib.hid h1
    have H2 := Lib.hid h2
    clear h1 h2 HY HN S0 hb ho ex ey hsg hN
    go_upto_region 2 with (fail)
    obtain ⟨w3, hw3⟩ : ∃ w3, w3 = w2.alloc (.cells #[.int .i64 x, .int .i64 y, .slice a n c] 25) := ⟨_, rfl⟩
    have B3 := Lib.hid (show Below w2.heap.size w2 w3 by rw [hw3]; exact below_alloc _ _)
    have SG := Lib.hid (SG.out.below B3.out)
    rw [← hw3] at S1 ⊢
    obtain ⟨X, hX⟩ : ∃ X, w2.heap.size = X := ⟨_, rfl⟩
    rw [hX] at S1 ⊢
    have hsl3 : sg < w3.heap.size := Nat.lt_of_lt_of_le hsl B3.out.size
    clear hw3 hX hsl B3
    go_wp2_with (at_make; refine list_make elem_ints (.int .i64 0) zero_int rfl N (.tmp 21) (.tmp 21) rfl rfl (N : Int) ?_ ?_ rfl ?_ ?_ ?_; rfl; rfl; omega; omega; intro cs hcs; (have S5 := Lib.hid (S1.out.made (e := 3) hcs (by omega))))
    obtain ⟨g3, hg3⟩ : ∃ g3, w3.heap.size = g3 := ⟨_, rfl⟩
    obtain ⟨w6, hw6⟩ : ∃ w6, w6 = w3.alloc (.cells cs 3) := ⟨_, rfl⟩
    have B6 := Lib.hid (show Below w3.heap.size w3 w6 by rw [hw6]; exact below_alloc _ _)
    rw [hg3, ← hw6] at S5
    rw [hg3, ← hw6]
    have S6 := Lib.hid (show Sep w none w6 [.box w.heap.size #[.int .i64 0, .int .i64 0, .slice none 0 0] 25, .row 4 (.slice a n c) ((outR d).cells.map Value.bool), .box X #[.int .i64 x, .int .i64 y, .slice a n c] 25,
        .row 3 (.slice (some ⟨g3, 0, none⟩) N N) ((fillL (fun i => wayC ((sigs d).getD i 0)) 0 N 0).map (Value.int .i64))] by
      have h := S5.out
      rw [fillL_zero, List.map_replicate]
      exact h)
    have hg3' := Lib.hid hg3
    clear S1 S5 hw6 hg3
    go_loopw [25] (fun i wr => ∃ k : Nat, k ≤ N ∧ i = .int .i64 k ∧ Below w3.heap.size w3 wr ∧ Sep w none wr [.box w.heap.size #[.int .i64 0, .int .i64 0, .slice none 0 0] 25, .row 4 (.slice a n c) ((outR d).cells.map Value.bool), .box X #[.int .i64 x, .int .i64 y, .slice a n c] 25,
        .row 3 (.slice (some ⟨g3, 0, none⟩) N N) ((fillL (fun i => wayC ((sigs d).getD i 0)) 0 N k).map (Value.int .i64))]) (fun i _ => N - (intOf i).toNat)
    case atStart => exact ⟨0, Nat.zero_le _, rfl, B6.out, S6.out⟩
    case round =>
      clear S6 B6
      obtain ⟨k, hk, rfl, hbel, hsep⟩ := hrel
      have SS := Lib.hid hsep
      have BR := Lib.hid hbel
      clear hsep hbel
      by_cases hkN : k < N
      · have hkN' : (k : Int) < (N : Int) := by omega
        have SGr := SG.out.below BR.out
        obtain ⟨ch, hch⟩ : ∃ ch, (sigs d).getD k 0 = ch := ⟨_, rfl⟩
        have c1 : wr.cell? ⟨sg, k, none⟩ = some (.int .u8 (ch.toNat : Int)) := by
          rw [(SGr.cell k hkN).1, List.getElem?_map, List.getElem?_eq_getElem (by rw [HNN.out]; exact hkN), ← hch, List.getD_eq_getElem?_getD, List.getElem?_eq_getElem (by rw [HNN.out]; exact hkN)]
          rfl
        have hsr : sg < wr.heap.size := Nat.lt_of_lt_of_le hsl3 BR.out.size
        obtain ⟨_, f2, f3, f4⟩ := ixL_facts ch
        have CI := ix_any ch wr
        obtain ⟨q, hq⟩ : ∃ q : Int, ixL ch = q := ⟨_, rfl⟩
        rw [hq] at f2 f3 f4 CI
        obtain ⟨cv, hcv⟩ : ∃ cv : Int, (ch.toNat : Int) = cv := ⟨_, rfl⟩
        rw [hcv] at c1 CI
        have CI := Lib.hid CI
        have s1 := ((SS.out.own 3 rfl).cell k hkN).2.1
        obtain ⟨t1, s2, _, s3⟩ := (SS.out.own 3 rfl).there k hkN
        have HCH := Lib.hid hch
        have F4 := Lib.hid f4
        clear SGr hch hq hcv f4
        have S7 := Lib.hid (SS.out.set 3 rfl k (.int .i64 (max 0 q)))
        have S8 := Lib.hid (show Sep w none (wr.setCell ⟨g3, k, none⟩ (.int .i64 (max 0 q))) [.box w.heap.size #[.int .i64 0, .int .i64 0, .slice none 0 0] 25, .row 4 (.slice a n c) ((outR d).cells.map Value.bool), .box X #[.int .i64 x, .int .i64 y, .slice a n c] 25,
            .row 3 (.slice (some ⟨g3, 0, none⟩) N N) ((fillL (fun i => wayC ((sigs d).getD i 0)) 0 N (k + 1)).map (Value.int .i64))] by
          have h := S7.out
          rw [← fillL_set, List.map_set, HCH.out, F4.out, show (if 0 ≤ q then q else 0) = max 0 q by split <;> omega]
          exact h)
        have B8 := Lib.hid (BR.out.trans (below_grown (grown_setCell wr g3 k none (.int .i64 (max 0 q))) BR.out.size (fun i hi => by cases hi; exact Nat.le_of_eq hg3'.out)))
        go_wp2_with (fail)
        refine CI.out.mono ?_
        rintro e w7 ⟨rfl, rfl⟩
        clear S7 SS CI
        go_wp2_with (fail)
        go_roundw
        case rel => exact ⟨k + 1, by omega, by go_num, B8.out, S8.out⟩
        case measure => simp [intOf]; omega
      · have e : k = N := by omega
        have hkN' : ¬ (k : Int) < (N : Int) := by omega
        have hL : (fillL (fun i => wayC ((sigs d).getD i 0)) 0 N k) = layU d := by
          rw [e, fillL_full, ← HNN.out]
          unfold layU
          refine List.ext_getElem (by simp) fun j h5 h6 => ?_
          rw [List.length_map, List.length_range] at h5
          simp only [List.getElem_map, List.getElem_range]
          rw [List.getD_eq_getElem?_getD, List.getElem?_eq_getElem h5, Option.getD_some]
        rw [hL] at SS
        have RV : Hid (∀ T : World, Bl T (.slice a n c) (outR d).cells → RegV T (.agg #[.int .i64 x, .int .i64 y, .slice a n c]) (outR d)) := Lib.hid fun T h => ⟨_, by rw [HE.out.1, HE.out.2], h⟩
        obtain ⟨bv, hbv⟩ : ∃ bv, laysB (outR d) (layU d) = bv := ⟨_, rfl⟩
        have CL := Lib.hid (lays_is _ _ _ _ wr (RV.out _ (SS.out.own 1 rfl).sl) ((SS.out.own 3 rfl).sl) H2.out bv hbv)
        have HLO : Hid (laidOk (outR d) (layU d) = bv) := Lib.hid (by unfold laidOk; rw [H2.out, hbv]; rfl)
        obtain ⟨y0, y1, y2, _⟩ := three_cells (SS.out.blk 2 rfl)
        clear hbv hL e
        go_wp2_with (fail)
        refine CL.out.mono ?_
        rintro e w8 ⟨rfl, hb⟩
        have S9 := Lib.hid (SS.out.below hb)
        clear hb CL SS y0 y1 y2
        obtain ⟨z0, z1, z2, z3, z4, z5⟩ := three_cells (S9.out.blk 0 rfl)
        obtain ⟨y0, y1, y2, _⟩ := three_cells (S9.out.blk 2 rfl)
        have hz0 := S9.out.lt 0 rfl rfl
        have hz1 := S9.out.lt 2 rfl rfl
        cases bv
        · have P := Lib.hid (S9.out.put3 0 rfl (.int .i64 0) (.int .i64 0) (.slice none 0 0))
          obtain ⟨p0, p1, p2, _⟩ := three_cells (P.out.blk 0 rfl)
          have Q0 := Lib.hid p0
          have Q1 := Lib.hid p1
          have Q2 := Lib.hid p2
          clear p0 p1 p2 y0 y1 y2
          go_wp2_with (fail)
          rw [readL_no (.inr HLO.out)]
          exact bodyPost_ret (by simp [results, Tryd.results12, go_sem, Q0.out, Q1.out, Q2.out]) rfl ⟨.agg #[.int .i64 0, .int .i64 0, .slice none 0 0], .slice none 0 0, rfl, zero_regV _, il_nil _, P.out.bel⟩
        · have P := Lib.hid (S9.out.put3 0 rfl (.int .i64 x) (.int .i64 y) (.slice a n c))
          obtain ⟨p0, p1, p2, _⟩ := three_cells (P.out.blk 0 rfl)
          have Q0 := Lib.hid p0
          have Q1 := Lib.hid p1
          have Q2 := Lib.hid p2
          clear p0 p1 p2
          go_wp2_with (fail)
          rw [readL_yes H1.out HLO.out]
          exact bodyPost_ret (by simp [results, Tryd.results12, go_sem, Q0.out, Q1.out, Q2.out]) rfl ⟨.agg #[.int .i64 x, .int .i64 y, .slice a n c], .slice (some ⟨g3, 0, none⟩) N N, rfl, RV.out _ (P.out.own 1 rfl).sl, (P.out.own 3 rfl).sl, P.out.bel⟩
  · have hb0 : b = false := by
      cases hg : goodU okL d
      · exact HN.out hg
      · obtain ⟨e1, _⟩ := HY.out hg
        cases hv : (outR d).valid
        · rw [e1, hv]
        · exact absurd ⟨hg, hv⟩ h1
    subst hb0
    have H3 : Hid (readL d = (Reg.zero, [], false)) := Lib.hid (readL_no (by
      cases hg : goodU okL d
      · exact .inl rfl
      · cases hv : (outR d).valid
        · exact .inr (laidOk_no1 hv)
        · exact absurd ⟨hg, hv⟩ h1))
    have S1 := Lib.hid ((S0.out.below hb).box #[.int .i64 x, .int .i64 y, .slice a n c] 25)
    clear h1 HY HN S0 hb
    go_upto_region 2 with (fail)
    obtain ⟨w3, hw3⟩ : ∃ w3, w3 = w2.alloc (.cells #[.int .i64 x, .int .i64 y, .slice a n c] 25) := ⟨_, rfl⟩
    rw [← hw3] at S1 ⊢
    obtain ⟨X, hX⟩ : ∃ X, w2.heap.size = X := ⟨_, rfl⟩
    rw [hX] at S1 ⊢
    clear hw3 hX
    obtain ⟨z0, z1, z2, z3, z4, z5⟩ := three_cells (S1.out.blk 0 rfl)
    have P := Lib.hid (S1.out.put3 0 rfl (.int .i64 0) (.int .i64 0) (.slice none 0 0))
    obtain ⟨p0, p1, p2, _⟩ := three_cells (P.out.blk 0 rfl)
    have Q0 := Lib.hid p0
    have Q1 := Lib.hid p1
    have Q2 := Lib.hid p2
    clear p0 p1 p2
    go_wp2_with (fail)
    rw [H3.out]
    exact bodyPost_ret (by simp [results, Tryd.results12, go_sem, Q0.out, Q1.out, Q2.out]) rfl ⟨.agg #[.int .i64 0, .int .i64 0, .slice none 0 0], .slice none 0 0, rfl, zero_regV _, il_nil _, P.out.bel⟩
end Go.Proofs.YtklifibiadiinaaDoor
