/- Walks: xy, mirrored, turned, put, RegionFlip, RegionTurn. -/
import Derived.Test.YtbjenmfoblniaaaVWc
set_option linter.unusedVariables false
namespace Go.Proofs.Ytbjenmfoblniaaa
open Go.RowKit Domi

/-- Two numbers are returned. -/
def Ret2 (a b : Int) (w : World) (e : Ending) (w' : World) : Prop := e = .returned (.tuple #[.int .i64 a, .int .i64 b]) ∧ Below w.heap.size w w'

set_option maxHeartbeats 400000 in
theorem xy_any (v : Value) (r : Reg) (c : Int) (w : World) (h : RegV w v r) (hw : 1 ≤ r.wide ∧ r.wide ≤ 1000) (hc : 0 ≤ c ∧ c ≤ 100000) :
    Calls Try.prog 117 #[v, .int .i64 c] w (Ret2 (c % r.wide) (c / r.wide) w) := by
  obtain ⟨a, cap, rfl, hs, hlc, hcm⟩ := h.opened
  have Hs := Lib.hid hs
  clear hs h
  have m1 := Int.emod_nonneg c (b := r.wide) (by omega)
  have m2 := Int.emod_lt_of_pos c (b := r.wide) (by omega)
  have m3 := Int.ediv_nonneg (a := c) (b := r.wide) (by omega) (by omega)
  have m4 := Int.ediv_le_self (a := c) r.wide (by omega)
  go_enter Try.func117, Try.ntmps117
  go_wp2
  go_quiet (fail)
  go_wp2
  go_ret2
  exact ⟨rfl, bel_dn (by go_grown) _⟩

set_option maxHeartbeats 400000 in
theorem mirrored_any (v : Value) (r : Reg) (c : Int) (w : World) (h : RegV w v r) (hw : 1 ≤ r.wide ∧ r.wide ≤ 6) (hc : 0 ≤ c ∧ c ≤ 100) :
    Calls Try.prog 106 #[v, .int .i64 c] w (Ret (.int .i64 (mirI r c)) w) := by
  obtain ⟨a, cap, rfl, hs, hlc, hcm⟩ := h.opened
  have Hs := Lib.hid hs
  clear hs h
  have m1 := Int.emod_nonneg c (b := r.wide) (by omega)
  have m2 := Int.emod_lt_of_pos c (b := r.wide) (by omega)
  have m3 := Int.ediv_nonneg (a := c) (b := r.wide) (by omega) (by omega)
  have m4 := Int.ediv_le_self (a := c) r.wide (by omega)
  have m5 : 0 ≤ c / r.wide * r.wide ∧ c / r.wide * r.wide ≤ 100 := by
    have := Int.mul_ediv_add_emod c r.wide
    rw [Int.mul_comm] at this
    exact ⟨Int.mul_nonneg m3 (by omega), by omega⟩
  go_enter Try.func106, Try.ntmps106
  go_wp2_with (fail)
  refine (xy_any _ r c _ ?_ (by omega) (by omega)).mono ?_
  · refine RegV.below ⟨_, rfl, Hs.out⟩ ?_; go_grown
  rintro e w1 ⟨rfl, hb⟩
  have Hb := Lib.hid (show Below w.heap.size w w1 from Below.trans (by go_grown) (hb.mono (by simp)))
  have c0 := cell_behind (o := 0) (b := w.heap.size) hb (by simp)
  simp at c0
  clear hb
  go_wp2
  go_ret
  exact ⟨ret_int rfl, Hb.out⟩

/-- At the head of the loop's round. -/
def PutR (w : World) (x y : Int) (l : List Bool) (tt : Nat → Nat) (A X g : Nat) (i : Value) (wr : World) : Prop :=
  ∃ k : Nat, i = .int .i64 k ∧ k ≤ l.length ∧ Below w.heap.size w wr ∧
    wr.heap[A]? = some (.cells #[.int .i64 0, .int .i64 0, .slice none 0 0] 29 (0, 0)) ∧
    wr.heap[X]? = some (.cells #[.int .i64 x, .int .i64 y, .slice (some ⟨g, 0, none⟩) l.length l.length] 29 (0, 0)) ∧
    Own wr (w.heap.size + 2) 4 (.slice (some ⟨g, 0, none⟩) l.length l.length) ((putL tt l k).map Value.bool)

theorem putR_next {w wr w4 : World} {x y : Int} {l : List Bool} {tt : Nat → Nat} {A X g k : Nat} (hb : Below w.heap.size w wr)
    (hA : wr.heap[A]? = some (.cells #[.int .i64 0, .int .i64 0, .slice none 0 0] 29 (0, 0)))
    (hX : wr.heap[X]? = some (.cells #[.int .i64 x, .int .i64 y, .slice (some ⟨g, 0, none⟩) l.length l.length] 29 (0, 0)))
    (ho : Own wr (w.heap.size + 2) 4 (.slice (some ⟨g, 0, none⟩) l.length l.length) ((putL tt l k).map Value.bool)) (h4 : Below wr.heap.size wr w4) (hAg : A ≠ g) (hgX : g ≠ X) (hwg : w.heap.size ≤ g) (hk : k < l.length) :
    PutR w x y l tt A X g (.int .i64 ((k : Int) + 1)) (w4.setCell ⟨g, tt k, none⟩ (.bool (l.getD k false))) := by
  refine ⟨k + 1, by simp, by omega, (hb.trans (h4.mono hb.size)).setCell hwg _, ?_, ?_, ?_⟩
  · rw [heap_setCell_other _ _ _ _ (by simp; omega), h4.block _ (lt_of_heap hA)]; exact hA
  · rw [heap_setCell_other _ _ _ _ (by simp; omega), h4.block _ (lt_of_heap hX)]; exact hX
  · have := (ho.below h4).stored (tt k) (.bool (l.getD k false))
    rw [← List.map_set] at this
    exact this
theorem put_done {w wr : World} {x y : Int} {l : List Bool} {tt : Nat → Nat} {A g k : Nat} (hwA : w.heap.size ≤ A) (hAg : A < w.heap.size + 2) (hb : Below w.heap.size w wr)
    (hA : wr.heap[A]? = some (.cells #[.int .i64 0, .int .i64 0, .slice none 0 0] 29 (0, 0)))
    (ho : Own wr (w.heap.size + 2) 4 (.slice (some ⟨g, 0, none⟩) l.length l.length) ((putL tt l k).map Value.bool)) (hk : k = l.length) :
    RetR ⟨x, y, putL tt l l.length⟩ w (.returned (.agg #[.int .i64 x, .int .i64 y, .slice (some ⟨g, 0, none⟩) l.length l.length]))
      (((wr.setCell ⟨A, 0, none⟩ (.int .i64 x)).setCell ⟨A, 1, none⟩ (.int .i64 y)).setCell ⟨A, 2, none⟩ (.slice (some ⟨g, 0, none⟩) l.length l.length)) := by
  subst hk
  have o1 := Own.setCell (b := A) (Own.setCell (b := A) (Own.setCell (b := A) ho (by omega) (.int .i64 x) (o := 0) (s := none)) (by omega) (.int .i64 y) (o := 1) (s := none)) (by omega) (.slice (some ⟨g, 0, none⟩) l.length l.length) (o := 2) (s := none)
  exact ⟨_, rfl, ⟨_, rfl, o1.sl⟩, by go_grown⟩

set_option maxHeartbeats 1000000 in
theorem put_mirrored (v : Value) (r : Reg) (w : World) (h : RegV w v r) (hv : r.valid = true) :
    Calls Try.prog 105 #[v, .int .i64 r.wide, .int .i64 r.tall, .func (.func 106) #[v] #[]] w (RetR r.mir w) := by
  obtain ⟨ba, oa, cap, rfl, hs, hba, hcs, hlc, hcm, hl1, hlen, b3, b1, b2⟩ := h.valid_opened hv
  have Hs := Lib.hid hs
  have Hcs := Lib.hid hcs
  have Hn := Lib.hid b3
  have Hn' := Lib.hid (show r.wide * r.tall = (r.cells.length : Int) by first | exact b3.symm | (rw [Int.mul_comm]; exact b3.symm))
  have ha := area_in b1 b2
  clear hs h b3 hcs
  go_enter Try.func105, Try.ntmps105
  go_wp2_with (fail)
  refine (field_any r.wide r.tall _ (by omega) (by omega) r.cells.length Hn'.out (by omega)).mono ?_
  rintro e w1 ⟨g, rfl, hg1, hg2, ho, hb⟩
  simp at hg1
  have HR : ∃ o, w1.heap[w.heap.size]? = some o := ⟨_, by rw [hb.block _ (by simp; omega), heap_alloc_old _ _ (by simp)]; exact heap_alloc_new w _⟩
  have hR := cell_behind (o := 2) (b := w.heap.size) hb (by simp; omega)
  simp at hR
  have hA : w1.heap[w.heap.size + 1]? = some (.cells #[.int .i64 0, .int .i64 0, .slice none 0 0] 29 (0, 0)) := by
    rw [hb.block _ (by simp)]; have := heap_alloc_new (w.alloc (Obj.cells #[.int .i64 r.wide, .int .i64 r.tall, .slice (some ⟨ba, oa, none⟩) r.cells.length cap] 29)) (.cells #[.int .i64 0, .int .i64 0, .slice none 0 0] 29); simpa using this
  have B1 : Below w.heap.size w w1 := Below.trans (by go_grown) (hb.mono (by simp; omega))
  have R0 : Hid (PutR w r.wide r.tall r.cells (fun k => (mirI r k).toNat) (w.heap.size + 1) w1.heap.size g (.int .i64 0) (w1.alloc (.cells #[.int .i64 r.wide, .int .i64 r.tall, .slice (some ⟨g, 0, none⟩) r.cells.length r.cells.length] 29))) :=
    ⟨0, rfl, by omega, B1.trans ((Below.refl _ _).alloc B1.size _), by rw [heap_alloc_old _ _ (lt_of_heap hA)]; exact hA, heap_alloc_new _ _, by
      have := Own.alloc ho (.cells #[.int .i64 r.wide, .int .i64 r.tall, .slice (some ⟨g, 0, none⟩) r.cells.length r.cells.length] 29)
      simp only [World.size_alloc] at this
      simpa [putL] using this⟩
  have hw1 : w.heap.size < w1.heap.size := by omega
  clear ho hb hA B1 HR
  go_wp2_with (fail)
  go_loopw [18] (fun i wr => PutR w r.wide r.tall r.cells (fun k => (mirI r k).toNat) (w.heap.size + 1) w1.heap.size g i wr) (fun i _ => r.cells.length - (intOf i).toNat)
  case atStart => exact R0.out
  case round =>
    obtain ⟨k, rfl, hk, hbw, hA, hX, ho⟩ := hrel
    have HA := Lib.hid hA
    have HX := Lib.hid hX
    have HO := Lib.hid ho
    have HB := Lib.hid hbw
    obtain ⟨c0, c1, c2, f0, f1, f2⟩ := three_cells hX
    by_cases hlt : k < r.cells.length
    · have hki : (k : Int) < r.wide * r.tall := by have := Hn.out; omega
      obtain ⟨t1, t2⟩ := mirI_in (r := r) (c := k) (by omega)  (by omega) hki
      have t3 : (mirI r k).toNat < r.cells.length := by have := Hn.out; omega
      have t2' : mirI r k < (r.cells.length : Int) := by have := Hn.out; omega
      have hck := Hcs.out wr HB.out k hlt
      obtain ⟨cv, hcv⟩ : ∃ c, c = r.cells.getD k false := ⟨_, rfl⟩
      rw [← hcv] at hck
      have Hcv := Lib.hid hcv
      have hXr := lt_of_heap HX.out
      clear hA hX ho hbw R0 hki hcv
      go_wp2
      go_region_held3 (fun w' => w'.cell? ⟨w1.heap.size, 2, none⟩ = some (.slice (some ⟨g, 0, none⟩) r.cells.length r.cells.length)) (first | go_keep | assumption | exact cell_far (by assumption) (by omega)) (first | (go_at_call 106; refine (mirrored_any _ r k _ ?_ b1 (by omega)).mono ?_; exact RegV.below ⟨_, rfl, Hs.out⟩ (Below.drew HB.out); rintro e w4 ⟨rfl, h4⟩; (have h4' : Below wr.heap.size wr w4 := (Below.refl _ _).drew.trans h4); (obtain ⟨u0, u1, u2, u3⟩ := (HO.out.below h4').there _ t3); (have u4 := (cell_behind (o := 2) h4' hXr).trans c2); (have N1 := Lib.hid (putR_next (tt := fun k => (mirI r k).toNat) HB.out HA.out HX.out HO.out h4' (by omega) (by omega) (by omega) hlt)); rw [← Hcv.out] at N1; clear h4 h4'))
      go_wp2
      first | exact ⟨N1.out, by simp [intOf]; omega⟩ | (go_roundw; case rel => exact N1.out; case measure => simp [intOf]; omega)
    · have DN := Lib.hid (put_done (x := r.wide) (y := r.tall) (Nat.le_succ _) (Nat.lt_succ_self _) HB.out HA.out HO.out (by omega))
      obtain ⟨q0, q1, q2, _⟩ := three_cells (put3 (x' := .int .i64 r.wide) (y' := .int .i64 r.tall) (z' := .slice (some ⟨g, 0, none⟩) r.cells.length r.cells.length) hA)
      obtain ⟨a0, a1, a2, e0, e1, e2⟩ := three_cells hA
      have Q0 := Lib.hid q0
      have Q1 := Lib.hid q1
      have Q2 := Lib.hid q2
      clear q0 q1 q2 hA hX ho hbw R0
      go_wp2
      exact bodyPost_ret (by simp [results, Try.results105, go_sem, Q0.out, Q1.out, Q2.out]) rfl DN.out

set_option maxHeartbeats 1000000 in
theorem RegionFlip_yes (v : Value) (r : Reg) (w : World) (h : RegV w v r) (hv : r.valid = true) :
    Calls Try.prog 64 #[v] w (RetR r.mir w) := by
  obtain ⟨a, cap, rfl, hs, hlc, hcm⟩ := h.opened
  have Hs := Lib.hid hs
  clear hs h
  go_enter Try.func64, Try.ntmps64
  go_wp2_with (fail)
  refine (RegionValid_any _ r _ ?_).mono ?_
  · refine RegV.below ⟨_, rfl, Hs.out⟩ ?_; go_grown
  rintro e w1 ⟨rfl, hb⟩
  rw [hv]
  have Hb := Lib.hid (show Below w.heap.size w w1 from Below.trans (by go_grown) (hb.mono (by simp; omega)))
  have c0 := cell_behind (o := 0) (b := w.heap.size) hb (by simp; omega)
  have c1 := cell_behind (o := 1) (b := w.heap.size) hb (by simp; omega)
  have c2 := cell_behind (o := 2) (b := w.heap.size) hb (by simp; omega)
  simp at c0 c1 c2
  have hA : w1.heap[w.heap.size + 1]? = some (.cells #[.int .i64 0, .int .i64 0, .slice none 0 0] 29 (0, 0)) := by
    rw [hb.block _ (by simp)]; have := heap_alloc_new (w.alloc (Obj.cells #[.int .i64 r.wide, .int .i64 r.tall, .slice a r.cells.length cap] 29)) (.cells #[.int .i64 0, .int .i64 0, .slice none 0 0] 29); simpa using this
  have hs1 := lt_of_heap hA
  have HA := Lib.hid hA
  clear hb hA
  go_wp2_with (fail)
  refine (put_mirrored _ r w1 ⟨_, rfl, Hs.out.below Hb.out⟩ hv).mono ?_
  rintro e w2 ⟨v2, rfl, hv2, hb2⟩
  obtain ⟨a2, cap2, rfl, hs2, _, _⟩ := hv2.opened
  have hA2 : w2.heap[w.heap.size + 1]? = some (.cells #[.int .i64 0, .int .i64 0, .slice none 0 0] 29 (0, 0)) := by
    rw [hb2.block _ hs1]; exact HA.out
  have DN := Lib.hid (reg_done (x := r.mir.wide) (y := r.mir.tall) (Hb.out.trans (hb2.mono Hb.out.size)) hs2 hA2 (by omega))
  obtain ⟨q0, q1, q2, _⟩ := three_cells (put3 (x' := .int .i64 r.mir.wide) (y' := .int .i64 r.mir.tall) (z' := .slice a2 r.mir.cells.length cap2) hA2)
  obtain ⟨a0, a1, a2, e0, e1, e2⟩ := three_cells hA2
  have Q0 := Lib.hid q0
  have Q1 := Lib.hid q1
  have Q2 := Lib.hid q2
  clear q0 q1 q2 hA2 hb2 hs2 hv2
  go_wp2
  exact bodyPost_ret (by simp [results, Try.results64, go_sem, Q0.out, Q1.out, Q2.out]) rfl DN.out

set_option maxHeartbeats 1000000 in
theorem RegionFlip_no (v : Value) (r : Reg) (w : World) (h : RegV w v r) (hv : r.valid = false) :
    Calls Try.prog 64 #[v] w (RetR Reg.zero w) := by
  obtain ⟨a, cap, rfl, hs, hlc, hcm⟩ := h.opened
  have Hs := Lib.hid hs
  clear hs h
  go_enter Try.func64, Try.ntmps64
  go_wp2_with (fail)
  refine (RegionValid_any _ r _ ?_).mono ?_
  · refine RegV.below ⟨_, rfl, Hs.out⟩ ?_; go_grown
  rintro e w1 ⟨rfl, hb⟩
  rw [hv]
  have Hb := Lib.hid (show Below w.heap.size w w1 from Below.trans (by go_grown) (hb.mono (by simp; omega)))
  have hA : w1.heap[w.heap.size + 1]? = some (.cells #[.int .i64 0, .int .i64 0, .slice none 0 0] 29 (0, 0)) := by
    rw [hb.block _ (by simp)]; have := heap_alloc_new (w.alloc (Obj.cells #[.int .i64 r.wide, .int .i64 r.tall, .slice a r.cells.length cap] 29)) (.cells #[.int .i64 0, .int .i64 0, .slice none 0 0] 29); simpa using this
  have DN := Lib.hid (reg_done (x := 0) (y := 0) (l := []) Hb.out (Sl.nil w1) hA (by omega))
  obtain ⟨q0, q1, q2, _⟩ := three_cells (put3 (x' := .int .i64 0) (y' := .int .i64 0) (z' := .slice none 0 0) hA)
  obtain ⟨a0, a1, a2, e0, e1, e2⟩ := three_cells hA
  have Q0 := Lib.hid q0
  have Q1 := Lib.hid q1
  have Q2 := Lib.hid q2
  clear q0 q1 q2 hb hA
  go_wp2
  exact bodyPost_ret (by simp [results, Try.results64, go_sem, Q0.out, Q1.out, Q2.out]) rfl DN.out

end Go.Proofs.Ytbjenmfoblniaaa
