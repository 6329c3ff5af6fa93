/- Walks: l20Some: a region that is often tiled or a box. -/
import Derived.Test.YtklifibiadiinaaDoorVTiled
import Derived.Test.YtklifibiadiinaaDoorVWbox
set_option linter.unusedVariables false
namespace Go.Proofs.YtklifibiadiinaaDoor
open Go.RowKit Domi

def SomeF (B : Nat) (b : Nat) : Nat → Value → World → Prop
  | 0, v, x => ∃ g, v = .slice (some ⟨g, 0, none⟩) 5 5 ∧ LitAt B x g [2, 3, 4, 4, 6]
  | 1, v, _ => v = .pointer (some ⟨b, 0, none⟩)
  | 2, v, _ => ∃ k : Nat, v = .int .i64 k ∧ k < 5
  | 3, v, x => ∃ g k : Nat, v = .pointer (some ⟨g, k, none⟩) ∧ k < 5 ∧ LitAt B x g [2, 3, 4, 4, 6]
  | 4, v, _ => ∃ k : Int, v = .int .i64 k
  | 5, v, x => ∃ g, v = .slice (some ⟨g, 0, none⟩) 3 3 ∧ LitAt B x g [2, 3, 4]
  | 6, v, _ => v = .pointer (some ⟨b, 0, none⟩)
  | 7, v, _ => ∃ k : Nat, v = .int .i64 k ∧ k < 3
  | 8, v, x => ∃ g k : Nat, v = .pointer (some ⟨g, k, none⟩) ∧ k < 3 ∧ LitAt B x g [2, 3, 4]
  | 9, v, _ => ∃ k : Int, v = .int .i64 k
  | 10, v, x => ∃ s r, v = .agg #[.int .i64 r.wide, .int .i64 r.tall, s] ∧ RegSmall r ∧ Own x B 4 s (r.cells.map Value.bool)
  | _, _, _ => True
def SomeI (w : World) (c : Bool) (s : Value) (r : Reg) : List It :=
  if c then [.box w.heap.size #[.int .i64 r.wide, .int .i64 r.tall, s] 25, .row 4 s (r.cells.map Value.bool)] else [.box w.heap.size #[.int .i64 0, .int .i64 0, .slice none 0 0] 25]
def SomeG (w : World) (B b : Nat) (sl : Value) (ys : List Int) (N : Nat) (D : Nat → Bool) (x : World) : Prop :=
  ∃ s r M, B ≤ x.heap.size ∧ RegSmall r ∧ M ≤ N + (if D 2 then 1 else 0) + (if D 7 then 1 else 0) ∧ Dr w b sl ys M x (SomeI w (D 11) s r)
theorem someF_on {B b i : Nat} {v : Value} {x y : World} (h : SomeF B b i v x) (hs : SomeS B x y) : SomeF B b i v y := by
  match i, h with
  | 0, ⟨g, e, h⟩ => exact ⟨g, e, h.on hs⟩
  | 1, h => exact h
  | 2, h => exact h
  | 3, ⟨g, k, e, hk, h⟩ => exact ⟨g, k, e, hk, h.on hs⟩
  | 4, h => exact h
  | 5, ⟨g, e, h⟩ => exact ⟨g, e, h.on hs⟩
  | 6, h => exact h
  | 7, h => exact h
  | 8, ⟨g, k, e, hk, h⟩ => exact ⟨g, k, e, hk, h.on hs⟩
  | 9, h => exact h
  | 10, ⟨s, r, e, hr, h⟩ => exact ⟨s, r, e, hr, own_on h hs⟩
  | n + 11, _ => exact trivial
section
variable {w x y : World} {b : Nat} {sl : Value} {ys : List Int} {N : Nat} {D : Nat → Bool} {i : Nat}
theorem someG_11 {D : Nat → Bool} {i : Nat} (h : i ≠ 11) : (fun j => D j || j == i) 11 = D 11 := by
  show (D 11 || 11 == i) = D 11
  have : (11 == i) = false := by simp; omega
  rw [this, Bool.or_false]
theorem SomeG.to {B : Nat} (h : SomeG w B b sl ys N D x) (h2 : i ≠ 11) (hz : x.heap.size ≤ y.heap.size) (f : ∀ M S, Dr w b sl ys M x S → Dr w b sl ys M y S) : SomeG w B b sl ys N (fun j => D j || j == i) y := by
  obtain ⟨s, r, M, hB, hr, hM, d⟩ := h
  refine ⟨s, r, M, by omega, hr, ?_, by rw [someG_11 h2]; exact f _ _ d⟩
  refine Nat.le_trans hM ?_
  show N + (if D 2 = true then 1 else 0) + (if D 7 = true then 1 else 0) ≤ N + (if (D 2 || 2 == i) = true then 1 else 0) + (if (D 7 || 7 == i) = true then 1 else 0)
  have l1 : (if D 2 = true then 1 else 0) ≤ if (D 2 || 2 == i) = true then 1 else 0 := by cases D 2 <;> simp
  have l2 : (if D 7 = true then 1 else 0) ≤ if (D 7 || 7 == i) = true then 1 else 0 := by cases D 7 <;> simp
  omega
theorem SomeG.pick {B : Nat} (h : SomeG w B b sl ys N D x) (hi : i = 2 ∨ i = 7) (hD : D i = false) (hz : x.heap.size ≤ y.heap.size) (hg : x.grownBy y (some b)) (M' : Nat) (hM' : M' ≤ N + (if D 2 then 1 else 0) + (if D 7 then 1 else 0)) (hr' : RdN y b sl ys (M' + 1)) : SomeG w B b sl ys N (fun j => D j || j == i) y := by
  obtain ⟨s, r, M, hB, hr, hM, d⟩ := h
  refine ⟨s, r, M' + 1, by omega, hr, ?_, by rw [someG_11 (by omega)]; exact d.picked hg hr'⟩
  rcases hi with rfl | rfl
  · rw [hD] at hM'; simp at hM' ⊢; omega
  · rw [hD] at hM'; simp at hM' ⊢; omega
theorem SomeG.rd {B : Nat} (h : SomeG w B b sl ys N D x) : ∃ M, M ≤ N + 2 ∧ M ≤ N + (if D 2 then 1 else 0) + (if D 7 then 1 else 0) ∧ RdN x b sl ys M := by
  obtain ⟨s, r, M, hB, hr, hM, d⟩ := h
  refine ⟨M, ?_, hM, d.r⟩
  split at hM <;> split at hM <;> omega
theorem boxReg_small (x y : Int) : RegSmall (boxReg x y) := by
  unfold boxReg
  split
  · rename_i h
    simp only [boxOk, Bool.and_eq_true, inB_iff, decide_eq_true_eq] at h
    exact ⟨by show 0 ≤ x; omega, by show x ≤ 6; omega, by show 0 ≤ y; omega, by show y ≤ 6; omega, by simp; omega⟩
  · unfold RegSmall Reg.zero; simp
end
set_option maxRecDepth 100000 in
set_option maxHeartbeats 4000000 in
theorem some_n (b : Nat) (sl : Value) (ys : List Int) (N : Nat) (n : Int) (w : World) (h : RdN w b sl ys N) (hN : N < 50000) (hn : n ≤ 1000000) :
    Calls Tryd.prog 45 #[.pointer (some ⟨b, 0, none⟩), .int .i64 n] w (DrawnN w b sl ys (N + 300)) := by
  have hb := rdN_lt h
  have D0 := Lib.hid ((Dr.start h).box #[.int .i64 0, .int .i64 0, .slice none 0 0] 25)
  clear h
  go_enter Tryd.func45, Tryd.ntmps45
  go_wp2_with (fail)
  refine (pick_n b sl ys N 4 _ D0.out.r (by omega)).mono ?_
  rintro e w1 ⟨k1, rfl, hk1, hg1, hr1⟩
  have D1 := Lib.hid (D0.out.picked hg1 hr1)
  clear hg1 hr1 D0
  obtain ⟨a0, a1, a2, e0, e1, e2⟩ := three_cells (D1.out.s.blk 0 rfl)
  by_cases h0 : k1 = 0
  · subst h0
    go_wp2_with (fail)
    have hbs : b < w1.heap.size := by have := D1.out.s.g.size; omega
    refine wp_region_by (SomeF w1.heap.size b) (SomeG w w1.heap.size b sl ys (N + 1)) (SomeS w1.heap.size) (by kernel_rfl) (by kernel_rfl) ?_ ?_ ?_ ?_ ?_
    · exact fun i v x y h hs => someF_on h hs
    · exact ⟨.slice none 0 0, Reg.zero, N + 1, Nat.le_refl _, by unfold RegSmall Reg.zero; simp, by simp, D1.out.drew⟩
    · intro i o D x y ho hg hf hD hall
      have hi : i = 0 ∨ i = 1 ∨ i = 2 ∨ i = 3 ∨ i = 4 ∨ i = 5 ∨ i = 6 ∨ i = 7 ∨ i = 8 ∨ i = 9 ∨ i = 10 ∨ i = 11 := by
        have := (List.getElem?_eq_some_iff.1 ho).1
        simp at this
        omega
      have HG := Lib.hid hg
      have hy : w1.heap.size ≤ y.heap.size := by obtain ⟨_, _, _, h, _⟩ := hg; exact h
      clear hg
      rcases hi with rfl | rfl | rfl | rfl | rfl | rfl | rfl | rfl | rfl | rfl | rfl | rfl
      · cases Option.some.inj ho
        refine wpOp_at rfl rfl ?_
        simp [Oper.wp, go_sem]
        exact ⟨_, rfl, someS_below (below_alloc _ _), ⟨_, rfl, hy, heap_alloc_new _ _⟩, HG.out.to (by decide) (by simp) fun _ _ d => d.alloc _⟩
      · cases Option.some.inj ho
        have e0 := hf.was 0 _ (by kernel_rfl) rfl
        refine wpOp_at rfl rfl ?_
        simp [Oper.wp, go_sem, e0]
        exact ⟨_, rfl, SomeS.refl _ _, rfl, HG.out.to (by decide) (Nat.le_refl _) fun _ _ d => d⟩
      · cases Option.some.inj ho
        have e0 : _ = _ := hf.has 1 10 rfl (hall ⟨1, .data⟩ (by simp) rfl)
        obtain ⟨M, hM, hM2, hr⟩ := HG.out.rd
        have HR := Lib.hid hr
        clear hr
        refine wpOp_at rfl rfl ?_
        simp [Oper.wp, go_sem, e0]
        refine (pick_n b sl ys M 5 _ HR.out (by omega)).mono ?_
        rintro e y' ⟨k, rfl, hk, hgr, hrd⟩
        obtain ⟨k, rfl⟩ := Int.eq_ofNat_of_zero_le hk.1
        exact ⟨_, rfl, someS_grown hgr hbs, ⟨k, rfl, by omega⟩, HG.out.pick (.inl rfl) hD hgr.size hgr M hM2 hrd⟩
      · cases Option.some.inj ho
        obtain ⟨g, e0, hl⟩ := hf.has 0 9 rfl (hall ⟨0, .data⟩ (by simp) rfl)
        obtain ⟨k, e1, hk⟩ := hf.has 2 11 rfl (hall ⟨2, .data⟩ (by simp) rfl)
        have hk1 : (k : Int) < 5 := by omega
        refine wpOp_at rfl rfl ?_
        simp [Oper.wp, go_sem, e0, e1, hk1]
        exact ⟨_, rfl, SomeS.refl _ _, ⟨g, k, rfl, hk, hl⟩, HG.out.to (by decide) (Nat.le_refl _) fun _ _ d => d⟩
      · cases Option.some.inj ho
        obtain ⟨g, k, e0, hk, hl⟩ := hf.has 3 12 rfl (hall ⟨3, .data⟩ (by simp) rfl)
        have hc := hl.cell (k := k) hk
        refine wpOp_at rfl rfl ?_
        simp [Oper.wp, go_sem, e0, hc]
        exact ⟨_, rfl, SomeS.refl _ _, ⟨_, rfl⟩, HG.out.to (by decide) (Nat.le_refl _) fun _ _ d => d⟩
      · cases Option.some.inj ho
        refine wpOp_at rfl rfl ?_
        simp [Oper.wp, go_sem]
        exact ⟨_, rfl, someS_below (below_alloc _ _), ⟨_, rfl, hy, heap_alloc_new _ _⟩, HG.out.to (by decide) (by simp) fun _ _ d => d.alloc _⟩
      · cases Option.some.inj ho
        have e0 := hf.was 0 _ (by kernel_rfl) rfl
        refine wpOp_at rfl rfl ?_
        simp [Oper.wp, go_sem, e0]
        exact ⟨_, rfl, SomeS.refl _ _, rfl, HG.out.to (by decide) (Nat.le_refl _) fun _ _ d => d⟩
      · cases Option.some.inj ho
        have e0 : _ = _ := hf.has 6 15 rfl (hall ⟨6, .data⟩ (by simp) rfl)
        obtain ⟨M, hM, hM2, hr⟩ := HG.out.rd
        have HR := Lib.hid hr
        clear hr
        refine wpOp_at rfl rfl ?_
        simp [Oper.wp, go_sem, e0]
        refine (pick_n b sl ys M 3 _ HR.out (by omega)).mono ?_
        rintro e y' ⟨k, rfl, hk, hgr, hrd⟩
        obtain ⟨k, rfl⟩ := Int.eq_ofNat_of_zero_le hk.1
        exact ⟨_, rfl, someS_grown hgr hbs, ⟨k, rfl, by omega⟩, HG.out.pick (.inr rfl) hD hgr.size hgr M hM2 hrd⟩
      · cases Option.some.inj ho
        obtain ⟨g, e0, hl⟩ := hf.has 5 14 rfl (hall ⟨5, .data⟩ (by simp) rfl)
        obtain ⟨k, e1, hk⟩ := hf.has 7 16 rfl (hall ⟨7, .data⟩ (by simp) rfl)
        have hk1 : (k : Int) < 3 := by omega
        refine wpOp_at rfl rfl ?_
        simp [Oper.wp, go_sem, e0, e1, hk1]
        exact ⟨_, rfl, SomeS.refl _ _, ⟨g, k, rfl, hk, hl⟩, HG.out.to (by decide) (Nat.le_refl _) fun _ _ d => d⟩
      · cases Option.some.inj ho
        obtain ⟨g, k, e0, hk, hl⟩ := hf.has 8 17 rfl (hall ⟨8, .data⟩ (by simp) rfl)
        have hc := hl.cell (k := k) hk
        refine wpOp_at rfl rfl ?_
        simp [Oper.wp, go_sem, e0, hc]
        exact ⟨_, rfl, SomeS.refl _ _, ⟨_, rfl⟩, HG.out.to (by decide) (Nat.le_refl _) fun _ _ d => d⟩
      · cases Option.some.inj ho
        obtain ⟨k, e0⟩ := hf.has 4 13 rfl (hall ⟨4, .data⟩ (by simp) rfl)
        obtain ⟨m, e1⟩ := hf.has 9 18 rfl (hall ⟨9, .data⟩ (by simp) rfl)
        refine wpOp_at rfl rfl ?_
        simp [Oper.wp, go_sem, e0, e1]
        refine (sRegionBox_any k m _).mono ?_
        rintro e y' ⟨s, rfl, ho', hb'⟩
        exact ⟨_, rfl, someS_below hb', ⟨s, _, rfl, boxReg_small k m, ho'.mono hy⟩, HG.out.to (by decide) hb'.size fun _ _ d => d.below hb'⟩
      · cases Option.some.inj ho
        have e4 := hf.was 4 _ (by kernel_rfl) rfl
        obtain ⟨s, r, e0, hr, ho'⟩ := hf.has 10 19 rfl (hall ⟨10, .data⟩ (by simp) rfl)
        obtain ⟨p, n, rfl⟩ := ho'.formM
        have d2 : D 2 = true := hall ⟨2, .phase⟩ (by simp) rfl
        have d7 : D 7 = true := hall ⟨7, .phase⟩ (by simp) rfl
        obtain ⟨_, _, M, _, _, hM, d⟩ := HG.out
        rw [hD] at d
        have d := (show Dr w b sl ys M y [.box w.heap.size #[.int .i64 0, .int .i64 0, .slice none 0 0] 25] from d).weak (M := N + 1 + 2) (by simp only [d2, d7, if_true] at hM; omega)
        obtain ⟨z0, z1, z2, f0, f1, f2⟩ := three_cells (d.s.blk 0 rfl)
        have E : Dr w b sl ys (N + 1 + 2) y ([.box w.heap.size #[.int .i64 0, .int .i64 0, .slice none 0 0] 25] ++ [.row 4 (.slice p r.cells.length n) (r.cells.map Value.bool)]) := ⟨d.s.add D1.out.s ho', d.r, d.r0⟩
        have E1 := Lib.hid (E.put3 0 rfl (.int .i64 r.wide) (.int .i64 r.tall) (.slice p r.cells.length n))
        have HB : SomeS w1.heap.size y (((y.setCell ⟨w.heap.size, 0, none⟩ (.int .i64 r.wide)).setCell ⟨w.heap.size, 1, none⟩ (.int .i64 r.tall)).setCell ⟨w.heap.size, 2, none⟩ (.slice p r.cells.length n)) := by
          have hg3 := grown_trans (grown_trans (grown_setCell y w.heap.size 0 none (.int .i64 r.wide)) (grown_setCell _ w.heap.size 1 none (.int .i64 r.tall))) (grown_setCell _ w.heap.size 2 none (.slice p r.cells.length n))
          exact ⟨hg3.size, fun g hg hl => hg3.block g hl (by have := D1.out.s.lt 0 rfl rfl; simp; omega)⟩
        have HB := Lib.hid HB
        clear E d
        refine wpOp_at rfl rfl ?_
        simp [Oper.wp, go_sem, e0, e4, z0, z1, z2, f0, f1, f2]
        exact ⟨HB.out, _, r, N + 1 + 2, Nat.le_trans hy HB.out.1, hr, by simp [d2, d7], by simpa [SomeI] using E1.out⟩
    · intro v x hg hfacts
      obtain ⟨s, r, M, _, hr, hM, d⟩ := hg
      have d := (show Dr w b sl ys M x [.box w.heap.size #[.int .i64 r.wide, .int .i64 r.tall, s] 25, .row 4 s (r.cells.map Value.bool)] from d).weak (M := N + 300) (by have : M ≤ N + 1 + 1 + 1 := hM; omega)
      obtain ⟨q0, q1, q2, _⟩ := three_cells (d.s.blk 0 rfl)
      have Q0 := Lib.hid q0
      have Q1 := Lib.hid q1
      have Q2 := Lib.hid q2
      have DN := Lib.hid (drawn_n d 1 rfl hr)
      clear q0 q1 q2 d hfacts
      simp only [List.filterMap_cons, List.filterMap_nil, puts]
      go_wp2
      exact bodyPost_ret (by simp [results, Tryd.results45, go_sem, Q0.out, Q1.out, Q2.out]) rfl DN.out
    · rintro D D' x hD ⟨s, r, M, hB, hr, hM, d⟩
      exact ⟨s, r, M, hB, hr, by rw [← hD 2 (by simp), ← hD 7 (by simp)]; exact hM, by rw [← hD 11 (by simp)]; exact d⟩
  · have h0e : (k1 == 0) = false := by simpa using h0
    by_cases h1 : k1 = 1
    · subst h1
      go_wp2_with (fail)
      refine (region_n b sl ys (N + 1) n _ D1.out.r (by omega) hn (Nat.lt_of_lt_of_le hb D1.out.s.g.size)).mono ?_
      rintro e w2 ⟨s, r, rfl, ho, hr, hg, hd⟩
      have D2 := D1.out.row hg hd ho
      obtain ⟨p, m, rfl⟩ := ho.formM
      obtain ⟨a0', a1', a2', e0', e1', e2'⟩ := three_cells (D2.s.blk 0 rfl)
      have E1 := Lib.hid (D2.put3 0 rfl (.int .i64 r.wide) (.int .i64 r.tall) (.slice p r.cells.length m))
      obtain ⟨q0, q1, q2, _⟩ := three_cells (E1.out.s.blk 0 rfl)
      have Q0 := Lib.hid q0
      have Q1 := Lib.hid q1
      have Q2 := Lib.hid q2
      have DN := Lib.hid (drawn_n (E1.out.weak (M := N + 300) (by omega)) 1 rfl hr)
      clear q0 q1 q2 ho hg hd D2 a0 a1 a2 e0 e1 e2
      go_wp2
      exact bodyPost_ret (by simp [results, Tryd.results45, go_sem, Q0.out, Q1.out, Q2.out]) rfl DN.out
    · have h1e : (k1 == 1) = false := by simpa using h1
      go_wp2_with (fail)
      refine (tiled_n b sl ys (N + 1) n _ D1.out.r (by omega) hn).mono ?_
      rintro e w2 ⟨s, r, rfl, ho, hr, hg, hd⟩
      have D2 := D1.out.row hg hd ho
      obtain ⟨p, m, rfl⟩ := ho.formM
      obtain ⟨a0', a1', a2', e0', e1', e2'⟩ := three_cells (D2.s.blk 0 rfl)
      have E1 := Lib.hid (D2.put3 0 rfl (.int .i64 r.wide) (.int .i64 r.tall) (.slice p r.cells.length m))
      obtain ⟨q0, q1, q2, _⟩ := three_cells (E1.out.s.blk 0 rfl)
      have Q0 := Lib.hid q0
      have Q1 := Lib.hid q1
      have Q2 := Lib.hid q2
      have DN := Lib.hid (drawn_n (E1.out.weak (M := N + 300) (by omega)) 1 rfl hr)
      clear q0 q1 q2 ho hg hd D2 a0 a1 a2 e0 e1 e2
      go_wp2
      exact bodyPost_ret (by simp [results, Tryd.results45, go_sem, Q0.out, Q1.out, Q2.out]) rfl DN.out
end Go.Proofs.YtklifibiadiinaaDoor
