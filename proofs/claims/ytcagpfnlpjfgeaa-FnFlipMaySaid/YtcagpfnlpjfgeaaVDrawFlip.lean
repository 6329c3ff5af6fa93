/- Walks: l20Corner, DrawFlipMay. -/
import Derived.Test.YtcagpfnlpjfgeaaVDrawOne
import Derived.Test.YtcagpfnlpjfgeaaVWflipD
set_option linter.unusedVariables false
namespace Go.Proofs.Ytcagpfnlpjfgeaa
open Go.RowKit Domi

theorem flipsOf_in (r : Reg) (L : List Int) (k : Nat) : 0 ≤ (flipsOf r L).getD k 0 ∧ (flipsOf r L).getD k 0 ≤ 48 := by
  by_cases hk : k < (flipsOf r L).length
  · have hm : (flipsOf r L).getD k 0 ∈ flipsOf r L := by
      rw [← Domi.get_at _ _ _ hk]; exact List.getElem_mem hk
    cases h : laidOk r L
    · unfold flipsOf at hm; rw [h] at hm; simp at hm
    · have hv := (laidOk_iff.1 h).1
      have hbd := corners_bd hv
      generalize (flipsOf r L).getD k 0 = x at hm ⊢
      unfold flipsOf flipsL at hm
      rw [if_pos h, List.mem_map] at hm
      obtain ⟨i, hi, rfl⟩ := hm
      have := List.mem_range.1 (List.mem_filter.1 hi).1
      simp only [Int.ofNat_eq_natCast]
      omega
  · rw [List.getD_eq_getElem?_getD, List.getElem?_eq_none (by omega)]
    simp
def CornN (w : World) (b : Nat) (sl : Value) (ys : List Int) (N : Nat) (e : Ending) (w' : World) : Prop :=
  ∃ c : Int, e = .returned (.int .i64 c) ∧ (-2 ≤ c ∧ c ≤ 100) ∧ w.grownBy w' (some b) ∧ RdN w' b sl ys (N + 3)
theorem rdN_below {w w' : World} {b : Nat} {sl : Value} {ys : List Int} {N : Nat} (h : RdN w b sl ys N) (hb : Below w.heap.size w w') : RdN w' b sl ys N :=
  rdN_grown (row := none) h (grown_below hb none) (by simp) (.inr (by cases sl.ownBlock <;> simp))
theorem box_grown {w w' : World} {X b : Nat} {o : Obj} (h : w.heap[X]? = some o) (hg : w.grownBy w' (some b)) (hne : X ≠ b) : w'.heap[X]? = some o := by
  rw [hg.block X (lt_of_heap h) (fun e => hne (Option.some.inj e))]; exact h
set_option maxRecDepth 100000 in
set_option maxHeartbeats 2000000 in
theorem corner_n (b : Nat) (sl : Value) (ys : List Int) (N : Nat) (w : World) (h : RdN w b sl ys N) (hN : N < 900000) (s u : Value) (r : Reg) (L : List Int) (B : Nat)
    (ho : Own w B 4 s (r.cells.map Value.bool)) (hu : Own w B 3 u (L.map (Value.int .i64))) (hb : b < B) :
    Calls Try.prog 102 #[.pointer (some ⟨b, 0, none⟩), .agg #[.int .i64 r.wide, .int .i64 r.tall, s], u] w (CornN w b sl ys N) := by
  have hbw := rdN_lt h
  obtain ⟨W, hW⟩ : ∃ W, W = w.alloc (.cells #[.int .i64 r.wide, .int .i64 r.tall, s] 25) := ⟨_, rfl⟩
  have HX : Hid (W.heap[w.heap.size]? = some (.cells #[.int .i64 r.wide, .int .i64 r.tall, s] 25 (0, 0))) := Lib.hid (by rw [hW]; exact heap_alloc_new w _)
  have HG : Hid (w.grownBy W (some b)) := Lib.hid (by rw [hW]; exact grown_alloc (grown_refl w _) _)
  have HR : Hid (RdN W b sl ys N) := Lib.hid (by rw [hW]; exact rdN_alloc h _)
  have HO : Hid (Own W B 4 s (r.cells.map Value.bool)) := Lib.hid (by rw [hW]; exact ho.alloc _)
  have HU : Hid (Own W B 3 u (L.map (Value.int .i64))) := Lib.hid (by rw [hW]; exact hu.alloc _)
  obtain ⟨X, hX⟩ : ∃ X, w.heap.size = X := ⟨_, rfl⟩
  have hXb : X ≠ b := by omega
  have hbX : b < X := by omega
  rw [hX] at HX
  clear h ho hu
  go_enter Try.func102, Try.ntmps102
  go_wp2_with (fail)
  rw [← hW]
  clear hW hbw hX
  have F := Lib.hid (flipsOf_in r L)
  have hF49 := flipsOf_len r L
  refine (sFlipsOf_any _ u r L _ ⟨_, rfl, HO.out.sl⟩ HU.out.sl).mono ?_
  obtain ⟨Fl, hFl⟩ : ∃ l, flipsOf r L = l := ⟨_, rfl⟩
  rw [hFl] at F hF49 ⊢
  clear hFl
  have hXW := lt_of_heap HX.out
  rintro e w1 ⟨v1, rfl, ho1, hb1⟩
  have HX := Lib.hid (show w1.heap[X]? = some (.cells #[.int .i64 r.wide, .int .i64 r.tall, s] 25 (0, 0)) by rw [hb1.block _ (lt_of_heap HX.out)]; exact HX.out)
  have HG := Lib.hid (grown_trans HG.out (grown_below hb1 _))
  have HR := Lib.hid (rdN_below HR.out hb1)
  have HO := Lib.hid (HO.out.below hb1)
  have hbW : b < W.heap.size := Nat.lt_trans hbX hXW
  have HF := Lib.hid ho1
  obtain ⟨fa, fc, rfl⟩ := ho1.formM
  clear hb1 ho1 HU
  by_cases hm : Fl.length = 0
  · rw [hm]
    have HR := Lib.hid (rdN_mono HR.out (Nat.le_succ N))
    clear HF hm
    obtain ⟨x0, x1, x2, _⟩ := three_cells HX.out
    have hc := cornN_bd r
    obtain ⟨C, hC⟩ : ∃ C, cornN r = C := ⟨_, rfl⟩
    go_wp2_with (fail)
    refine (sCornerMany_is _ r _ ⟨_, rfl, HO.out.sl⟩).mono ?_
    rw [hC] at hc ⊢
    clear hC
    rintro e w5 ⟨rfl, hb5⟩
    have HX := Lib.hid (show w5.heap[X]? = some (.cells #[.int .i64 r.wide, .int .i64 r.tall, s] 25 (0, 0)) by rw [hb5.block _ (lt_of_heap HX.out)]; exact HX.out)
    have HG := Lib.hid (grown_trans HG.out (grown_below hb5 _))
    have HR := Lib.hid (rdN_below HR.out hb5)
    have HO := Lib.hid (HO.out.below hb5)
    clear hb5 x0 x1 x2
    by_cases hC0 : C < 0
    all_goals
      go_wp2_with (fail)
      refine (pick_n b sl ys (N + 1) _ _ HR.out (by omega)).mono ?_
      rintro e w6 ⟨k, rfl, hk, hg, hr⟩
      have HX := Lib.hid (box_grown HX.out hg hXb)
      have HO := Lib.hid (HO.out.grown hg (fun k e => by cases e; exact hb))
      have HG := Lib.hid (grown_trans HG.out hg)
      have HR := Lib.hid hr
      clear hg hr
      go_wp2_with (fail)
      refine (pick_n b sl ys (N + 2) _ _ HR.out (by omega)).mono ?_
      rintro e w7 ⟨j, rfl, hj, hg, hr⟩
      have HX := Lib.hid (box_grown HX.out hg hXb)
      have HO := Lib.hid (HO.out.grown hg (fun k e => by cases e; exact hb))
      have HG := Lib.hid (grown_trans HG.out hg)
      have HR := Lib.hid hr
      clear hg hr
      have hq : 0 ≤ j.tdiv 19 ∧ j.tdiv 19 ≤ 1 := tdiv19 hj
      have hk2 : 0 ≤ k ∧ k ≤ 60 := by omega
      clear hk hj
      go_wp2
      go_ret
      exact ⟨_, rfl, by omega, HG.out, HR.out⟩
  · have hm' : (0 : Int) < (Fl.length : Int) := by omega
    obtain ⟨g, c, hv, _, _, hc1, hc2⟩ := HF.out.formN (by simpa using (by omega : 0 < Fl.length))
    rw [List.length_map] at hv hc1
    simp only [Value.slice.injEq, true_and] at hv
    obtain ⟨rfl, rfl⟩ := hv
    go_wp2_with (fail)
    refine (pick_n b sl ys N _ _ HR.out (by omega)).mono ?_
    rintro e w3 ⟨k, rfl, hk, hg, hr⟩
    have HX := Lib.hid (box_grown HX.out hg hXb)
    have HO := Lib.hid (HO.out.grown hg (fun k e => by cases e; exact hb))
    have HG := Lib.hid (grown_trans HG.out hg)
    have HF := Lib.hid (HF.out.grown hg (fun k e => by cases e; exact hbW))
    have HR := Lib.hid hr
    clear hg hr
    by_cases hk0 : 0 < k
    · clear hk
      go_wp2_with (fail)
      refine (pick_n b sl ys (N + 1) _ _ HR.out (by omega)).mono ?_
      rintro e w4 ⟨j, rfl, hj, hg, hr⟩
      have HX := Lib.hid (box_grown HX.out hg hXb)
      have HO := Lib.hid (HO.out.grown hg (fun k e => by cases e; exact hb))
      have HG := Lib.hid (grown_trans HG.out hg)
      have HF := Lib.hid (HF.out.grown hg (fun k e => by cases e; exact hbW))
      have HR := Lib.hid (rdN_mono hr (Nat.le_succ _))
      clear hg hr
      obtain ⟨i, rfl⟩ := Int.eq_ofNat_of_zero_le hj.1
      have hi : i < Fl.length := by omega
      have hi' : (i : Int) < (Fl.length : Int) := by omega
      obtain ⟨c0, c1, c2⟩ := own_num HF.out hi
      have hr := F.out i
      generalize Fl.getD i 0 = y at c0 hr
      clear hj
      go_wp2
      go_ret
      exact ⟨_, rfl, by omega, HG.out, HR.out⟩
    · clear hk HF
      obtain ⟨x0, x1, x2, _⟩ := three_cells HX.out
      have hc := cornN_bd r
      obtain ⟨C, hC⟩ : ∃ C, cornN r = C := ⟨_, rfl⟩
      go_wp2_with (fail)
      refine (sCornerMany_is _ r _ ⟨_, rfl, HO.out.sl⟩).mono ?_
      rw [hC] at hc ⊢
      clear hC
      rintro e w5 ⟨rfl, hb5⟩
      have HX := Lib.hid (show w5.heap[X]? = some (.cells #[.int .i64 r.wide, .int .i64 r.tall, s] 25 (0, 0)) by rw [hb5.block _ (lt_of_heap HX.out)]; exact HX.out)
      have HG := Lib.hid (grown_trans HG.out (grown_below hb5 _))
      have HR := Lib.hid (rdN_below HR.out hb5)
      have HO := Lib.hid (HO.out.below hb5)
      clear hb5 x0 x1 x2
      by_cases hC0 : C < 0
      all_goals
        go_wp2_with (fail)
        refine (pick_n b sl ys (N + 1) _ _ HR.out (by omega)).mono ?_
        rintro e w6 ⟨k, rfl, hk, hg, hr⟩
        have HX := Lib.hid (box_grown HX.out hg hXb)
        have HO := Lib.hid (HO.out.grown hg (fun k e => by cases e; exact hb))
        have HG := Lib.hid (grown_trans HG.out hg)
        have HR := Lib.hid hr
        clear hg hr
        go_wp2_with (fail)
        refine (pick_n b sl ys (N + 2) _ _ HR.out (by omega)).mono ?_
        rintro e w7 ⟨j, rfl, hj, hg, hr⟩
        have HX := Lib.hid (box_grown HX.out hg hXb)
        have HO := Lib.hid (HO.out.grown hg (fun k e => by cases e; exact hb))
        have HG := Lib.hid (grown_trans HG.out hg)
        have HR := Lib.hid hr
        clear hg hr
        have hq : 0 ≤ j.tdiv 19 ∧ j.tdiv 19 ≤ 1 := tdiv19 hj
        have hk2 : 0 ≤ k ∧ k ≤ 60 := by omega
        clear hk hj
        go_wp2
        go_ret
        exact ⟨_, rfl, by omega, HG.out, HR.out⟩
set_option maxRecDepth 100000 in
set_option maxHeartbeats 2000000 in
theorem DrawFlipMay_any (v : Value) (ys : List Int) (w : World) (h : Yl w v ys) (hr : ∀ i, i < ys.length → 0 ≤ ys.getD i 0 ∧ ys.getD i 0 ≤ 255) :
    Calls Try.prog 60 #[v] w (DrawnL1 w) := by
  have H := Lib.hid h
  have Hr := Lib.hid hr
  have S0 := Lib.hid ((Sep.start w none).box #[.int .i64 0, .int .i64 0, .slice none 0 0] 25)
  clear h hr
  go_enter Try.func60, Try.ntmps60
  go_wp2_with (fail)
  refine (open_n v ys _ ?_ Hr.out).mono ?_
  · refine H.out.below ?_; go_grown
  rintro e w1 ⟨b, sl, zs, rfl, hb1, hb2, hr1⟩
  obtain ⟨cs1, S1⟩ := sep_open S0.out (S0.out.below hb2) hb1 hr1
  have S1 := Lib.hid S1
  have HR := Lib.hid hr1
  have hlb := rdN_lt hr1
  have hwb : w.heap.size < w1.heap.size := S1.out.lt 0 rfl rfl
  clear hb2 hr1
  go_wp2_with (fail)
  refine (laid_n b sl zs 0 12 w1 HR.out (by omega) (by omega)).mono ?_
  rintro e w2 ⟨s, r, u, L, rfl, ho, hu, hsm, hl37, hg, hd⟩
  obtain ⟨cs2, S2⟩ := sep_rd S1.out 1 rfl hg hd
  have S2 := Lib.hid ((S2.add2 S1.out rfl ho).box #[.int .i64 r.wide, .int .i64 r.tall, s] 25)
  have D2 := Lib.hid (rdN_alloc hd (.cells #[.int .i64 r.wide, .int .i64 r.tall, s] 25))
  have U2 := hu.alloc (.cells #[.int .i64 r.wide, .int .i64 r.tall, s] 25)
  have OW := ho.alloc (.cells #[.int .i64 r.wide, .int .i64 r.tall, s] 25)
  obtain ⟨p1, n1, rfl⟩ := ho.formM
  obtain ⟨p2, n2, rfl⟩ := hu.formM
  have hb2 := Nat.lt_of_lt_of_le hlb hg.size
  have hl37r : r.cells.length ≤ 37 := hsm.2.2.2.2
  clear ho hg hd hu
  go_wp2_with (fail)
  obtain ⟨W, hW⟩ : ∃ W, W = w2.alloc (.cells #[.int .i64 r.wide, .int .i64 r.tall, .slice p1 r.cells.length n1] 25) := ⟨_, rfl⟩
  have hs2 : w2.heap.size < W.heap.size := by rw [hW]; simp
  rw [← hW] at S2 D2 U2 OW ⊢
  have U2 := Lib.hid U2
  have OW := Lib.hid OW
  clear hW
  obtain ⟨x0, x1, x2, _⟩ := three_cells (S2.out.blk 3 rfl)
  obtain ⟨a0, a1, a2, e0, e1, e2⟩ := three_cells (S2.out.blk 0 rfl)
  go_region_held3 (fun w' => w'.cell? ⟨w2.heap.size, 0, none⟩ = some (.int .i64 r.wide) ∧ w'.cell? ⟨w2.heap.size, 1, none⟩ = some (.int .i64 r.tall) ∧ w'.cell? ⟨w2.heap.size, 2, none⟩ = some (.slice p1 r.cells.length n1))
    (first | with_reducible exact K4.out | with_reducible exact P4.out _ _ _ | (go_keep; done) | assumption)
    ((first
      | (go_at_call 102; refine (corner_n b sl zs 500 _ (rdN_drew D2.out) (by omega) _ _ r L w1.heap.size (OW.out).drew (U2.out).drew hlb).mono ?_; rintro e w4 ⟨C, rfl, hc, hg4, hd4⟩; (have U4 := Lib.hid (U2.out.drew.grown hg4 (fun k e => by cases e; exact hlb))); (obtain ⟨cs4, S4⟩ := sep_rd S2.out.drew 1 rfl hg4 hd4); (have S4 := Lib.hid S4); clear hg4 hd4; (have K4 := Lib.hid (Sep.c3 S4.out 3 rfl)); (have P4 := Lib.hid (fun x y z => Sep.c3 (S4.out.put3 0 rfl x y z) 3 rfl)); obtain ⟨z0, z1, z2, z3, z4, z5⟩ := three_cells (S4.out.blk 0 rfl))))
  have E := S4.out.put3 0 rfl (.int .i64 r.wide) (.int .i64 r.tall) (.slice p1 r.cells.length n1)
  obtain ⟨q0, q1, q2, _⟩ := three_cells (E.blk 0 rfl)
  have DN : Hid (DrawnL1 w (.returned (.tuple #[.agg #[.int .i64 r.wide, .int .i64 r.tall, .slice p1 r.cells.length n1], .slice p2 L.length n2, .int .i64 C])) _) := Lib.hid ⟨_, _, r, L, C, rfl, ⟨_, rfl, (E.own 2 rfl).sl⟩, own_il (((U4.out.setCell hwb _).setCell hwb _).setCell hwb _), hsm, hl37, hc, E.bel⟩
  have Q0 := Lib.hid q0
  have Q1 := Lib.hid q1
  have Q2 := Lib.hid q2
  clear q0 q1 q2 E hc x0 x1 x2 a0 a1 a2 e0 e1 e2 z0 z1 z2 z3 z4 z5
  go_wp2
  exact bodyPost_ret (by simp [results, Try.results60, go_sem, Q0.out, Q1.out, Q2.out]) rfl DN.out
end Go.Proofs.Ytcagpfnlpjfgeaa
