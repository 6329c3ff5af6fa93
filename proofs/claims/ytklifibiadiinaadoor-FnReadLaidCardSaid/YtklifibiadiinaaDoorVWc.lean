/- Walks: field, RegionBox, CellsMany, alive. -/
import Derived.Test.YtklifibiadiinaaDoorVWb
set_option linter.unusedVariables false
namespace Go.Proofs.YtklifibiadiinaaDoor
open Go.RowKit Domi

/-- A field without cells: the slice is of the call's own. -/
def FieldP (w : World) (x y : Int) (n : Nat) (e : Ending) (w' : World) : Prop :=
  ∃ g, e = .returned (.agg #[.int .i64 x, .int .i64 y, .slice (some ⟨g, 0, none⟩) n n]) ∧ w.heap.size ≤ g ∧ g < w'.heap.size ∧
    Own w' w.heap.size 4 (.slice (some ⟨g, 0, none⟩) n n) (List.replicate n (.bool false)) ∧ Below w.heap.size w w'

set_option maxHeartbeats 400000 in
theorem field_any (x y : Int) (w : World) (hx : 0 ≤ x ∧ x ≤ 1000) (hy : 0 ≤ y ∧ y ≤ 1000) (n : Nat) (hn : x * y = (n : Int)) (hn2 : n ≤ 1000000) :
    Calls Tryd.prog 58 #[.int .i64 x, .int .i64 y] w (FieldP w x y n) := by
  have h0 : 0 ≤ x * y := by omega
  have h1 : x * y ≤ 1000000 := by omega
  have Hn := Lib.hid hn
  clear hn
  go_enter Tryd.func58, Tryd.ntmps58
  go_wp2_with (at_make; refine list_make elem_bools (.bool false) zero_bool rfl n (.tmp 9) (.tmp 9) rfl rfl (x * y) ?_ ?_ Hn.out ?_ ?_ ?_; rfl; rfl; omega; omega; intro cs hcs)
  refine bodyPost_ret (by simp [results, Tryd.results58, go_sem]) rfl ⟨w.heap.size + 1, rfl, by omega, by simp, ?_, ?_⟩
  · have ho := Own.made (w := w.alloc (Obj.cells #[.int .i64 x, .int .i64 y, .slice (some ⟨w.heap.size + 1, 0, none⟩) n n] 25)) (e := 4) hcs (B := w.heap.size) (by simp <;> omega) (by omega)
    simpa using ho
  · go_grown

set_option maxHeartbeats 400000 in
theorem CellsMany_any (v : Value) (r : Reg) (w : World) (h : RegV w v r) :
    Calls Tryd.prog 30 #[v] w (Ret (.int .i64 r.many) w) := by
  obtain ⟨a, cap, rfl, hs, hlc, hcm⟩ := h.opened
  have Hs := Lib.hid hs
  clear hs h
  go_enter Tryd.func30, Tryd.ntmps30
  go_wp2_with (fail)
  refine (RegionValid_any _ r _ ?_).mono ?_
  · refine RegV.below ⟨_, rfl, Hs.out⟩ ?_; go_grown
  rintro e w1 ⟨rfl, hb⟩
  have Hb' := Lib.hid (show Below w.heap.size w w1 from Below.trans (by go_grown) (hb.mono (by simp)))
  have c2 := cell_behind (o := 2) (b := w.heap.size) hb (by simp)
  simp at c2
  clear hb
  cases hv : r.valid
  · go_wp2
    go_ret
    exact ⟨ret_int (Reg.many_no hv).symm, Hb'.out⟩
  · go_wp2_with (fail)
    refine (many_any _ r.cells _ (Hs.out.below Hb'.out)).mono ?_
    rintro e w2 ⟨rfl, rfl⟩
    go_wp2
    go_ret
    exact ⟨ret_int (Reg.many_yes hv).symm, Hb'.out⟩

/-- A full field. -/
def boxOk (x y : Int) : Bool := inB x 1 6 && inB y 1 6 && decide (x * y ≤ 24)
def boxReg (x y : Int) : Reg := if boxOk x y then ⟨x, y, List.replicate (x * y).toNat true⟩ else Reg.zero

/-- At the head of the loop's round: so many cells are set. A: the result's block, X: the region's. -/
def BoxR (w : World) (x y : Int) (A X g : Nat) (n : Nat) (i : Value) (wr : World) : Prop :=
  ∃ k : Nat, i = .int .i64 k ∧ k ≤ n ∧ Below w.heap.size w wr ∧
    wr.heap[A]? = some (.cells #[.int .i64 0, .int .i64 0, .slice none 0 0] 25 (0, 0)) ∧
    wr.heap[X]? = some (.cells #[.int .i64 x, .int .i64 y, .slice (some ⟨g, 0, none⟩) n n] 25 (0, 0)) ∧
    Own wr w.heap.size 4 (.slice (some ⟨g, 0, none⟩) n n) (fillL (fun _ => Value.bool true) (.bool false) n k)

theorem boxR_next {w wr : World} {x y : Int} {A X g n k : Nat} (hb : Below w.heap.size w wr)
    (hA : wr.heap[A]? = some (.cells #[.int .i64 0, .int .i64 0, .slice none 0 0] 25 (0, 0)))
    (hX : wr.heap[X]? = some (.cells #[.int .i64 x, .int .i64 y, .slice (some ⟨g, 0, none⟩) n n] 25 (0, 0)))
    (ho : Own wr w.heap.size 4 (.slice (some ⟨g, 0, none⟩) n n) (fillL (fun _ => Value.bool true) (.bool false) n k)) (hAg : A < g) (hgX : g < X) (hwg : w.heap.size ≤ g) (hk : k < n) :
    BoxR w x y A X g n (.int .i64 ((k : Int) + 1)) (wr.setCell ⟨g, k, none⟩ (.bool true)) := by
  refine ⟨k + 1, by simp, by omega, hb.setCell hwg _, ?_, ?_, ?_⟩
  · rw [heap_setCell_other _ _ _ _ (by simp; omega)]; exact hA
  · rw [heap_setCell_other _ _ _ _ (by simp; omega)]; exact hX
  · have := ho.stored k (.bool true)
    rw [fillL_set (fun _ => Value.bool true)] at this
    exact this
theorem box_done {w wr : World} {x y : Int} {X g n k : Nat} (hwg : w.heap.size + 1 ≤ g) (hb : Below w.heap.size w wr)
    (hA : wr.heap[w.heap.size]? = some (.cells #[.int .i64 0, .int .i64 0, .slice none 0 0] 25 (0, 0)))
    (hX : wr.heap[X]? = some (.cells #[.int .i64 x, .int .i64 y, .slice (some ⟨g, 0, none⟩) n n] 25 (0, 0)))
    (ho : Own wr w.heap.size 4 (.slice (some ⟨g, 0, none⟩) n n) (fillL (fun _ => Value.bool true) (.bool false) n k)) (hgX : g < X) (hk : k = n) :
    RetR ⟨x, y, List.replicate n true⟩ w (.returned (.agg #[.int .i64 x, .int .i64 y, .slice (some ⟨g, 0, none⟩) n n]))
      (((wr.setCell ⟨w.heap.size, 0, none⟩ (.int .i64 x)).setCell ⟨w.heap.size, 1, none⟩ (.int .i64 y)).setCell ⟨w.heap.size, 2, none⟩ (.slice (some ⟨g, 0, none⟩) n n)) := by
  subst hk
  have o1 := Own.mono (Own.setCell (b := w.heap.size) (Own.setCell (b := w.heap.size) (Own.setCell (b := w.heap.size) (own_from ho hwg) (by omega) (.int .i64 x) (o := 0) (s := none)) (by omega) (.int .i64 y) (o := 1) (s := none)) (by omega) (.slice (some ⟨g, 0, none⟩) k k) (o := 2) (s := none)) (Nat.le_refl _)
  refine ⟨_, rfl, ⟨_, rfl, ?_⟩, by go_grown⟩
  have := o1.sl
  rw [fillL_full] at this
  have e : (List.range k).map (fun _ => Value.bool true) = (List.replicate k true).map Value.bool := by apply List.ext_getElem <;> simp
  rw [e] at this
  exact this

set_option maxHeartbeats 1000000 in
theorem RegionBox_yes (x y : Int) (w : World) (hx : inB x 1 6 = true) (hy : inB y 1 6 = true) (h24 : x * y ≤ 24) (n : Nat) (hn : x * y = (n : Int)) :
    Calls Tryd.prog 31 #[.int .i64 x, .int .i64 y] w (RetR ⟨x, y, List.replicate n true⟩ w) := by
  have ha := area_in (inB_iff.1 hx) (inB_iff.1 hy)
  have hx' := inB_iff.1 hx
  have hy' := inB_iff.1 hy
  have Hn := Lib.hid hn
  have hn24 : n ≤ 24 := by omega
  clear hn
  go_enter Tryd.func31, Tryd.ntmps31
  go_wp2_with (first | (go_at_call 42; refine (in_any _ _ _ _).mono ?_; rintro e w' ⟨rfl, rfl⟩) | (go_at_call 58; fail))
  refine (field_any x y _ (by omega) (by omega) n Hn.out (by omega)).mono ?_
  rintro e w1 ⟨g, rfl, hg1, hg2, ho, hb⟩
  have hA : w1.heap[w.heap.size]? = some (.cells #[.int .i64 0, .int .i64 0, .slice none 0 0] 25 (0, 0)) := by
    rw [hb.block _ (by simp)]; exact heap_alloc_new w _
  have B1 : Below w.heap.size w w1 := Below.trans (by go_grown) (hb.mono (by simp))
  have R0 : Hid (BoxR w x y w.heap.size w1.heap.size g n (.int .i64 0) (w1.alloc (.cells #[.int .i64 x, .int .i64 y, .slice (some ⟨g, 0, none⟩) n n] 25))) :=
    ⟨0, rfl, by omega, B1.trans ((Below.refl _ _).alloc B1.size _), by rw [heap_alloc_old _ _ (lt_of_heap hA)]; exact hA, heap_alloc_new _ _, by
      have := Own.alloc ho (.cells #[.int .i64 x, .int .i64 y, .slice (some ⟨g, 0, none⟩) n n] 25)
      rw [fillL_zero]
      simp at this
      exact Own.mono this (by omega)⟩
  simp at hg1
  clear ho hb hA B1
  go_wp2_with (fail)
  go_loopw [28] (fun i wr => BoxR w x y w.heap.size w1.heap.size g n i wr) (fun i _ => n - (intOf i).toNat)
  case atStart => exact R0.out
  case round =>
    obtain ⟨k, rfl, hk, hbw, hA, hX, ho⟩ := hrel
    have HA := Lib.hid hA
    have HX := Lib.hid hX
    have HO := Lib.hid ho
    have HB := Lib.hid hbw
    obtain ⟨c0, c1, c2, f0, f1, f2⟩ := three_cells hX
    obtain ⟨a0, a1, a2, e0, e1, e2⟩ := three_cells hA
    by_cases hlt : k < n
    · obtain ⟨d0, d1, d2⟩ := ho.cell k hlt
      rw [fillL_get _ _ _ _ _ hlt (Nat.le_refl _)] at d0
      clear hA hX ho hbw R0
      have NX := Lib.hid (boxR_next HB.out HA.out HX.out HO.out (by omega) (by omega) (by omega) hlt)
      go_wp2
      exact ⟨NX.out, by simp [intOf]; omega⟩
    · have DN := Lib.hid (box_done hg1 HB.out HA.out HX.out HO.out (by omega) (by omega))
      obtain ⟨q0, q1, q2, _⟩ := three_cells (put3 (x' := .int .i64 x) (y' := .int .i64 y) (z' := .slice (some ⟨g, 0, none⟩) n n) hA)
      have Q0 := Lib.hid q0
      have Q1 := Lib.hid q1
      have Q2 := Lib.hid q2
      clear q0 q1 q2 hA hX ho hbw R0
      go_wp2
      exact bodyPost_ret (by simp [results, Tryd.results31, go_sem, Q0.out, Q1.out, Q2.out]) rfl DN.out

theorem zero_done (w : World) : RetR Reg.zero w (.returned (.agg #[.int .i64 0, .int .i64 0, .slice none 0 0])) (w.alloc (.cells #[.int .i64 0, .int .i64 0, .slice none 0 0] 25)) :=
  ⟨_, rfl, zero_regV _, by go_grown⟩

set_option maxHeartbeats 1000000 in
theorem RegionBox_no (x y : Int) (w : World) (h : boxOk x y = false) :
    Calls Tryd.prog 31 #[.int .i64 x, .int .i64 y] w (RetR Reg.zero w) := by
  have DN := Lib.hid (zero_done w)
  by_cases hx : inB x 1 6 = true
  · by_cases hy : inB y 1 6 = true
    · have ha := area_in (inB_iff.1 hx) (inB_iff.1 hy)
      have h24 : ¬ x * y ≤ 24 := by simpa [boxOk, hx, hy] using h
      clear h
      go_enter Tryd.func31, Tryd.ntmps31
      go_wp2_with (go_at_call 42; refine (in_any _ _ _ _).mono ?_; rintro e w' ⟨rfl, rfl⟩)
      exact bodyPost_ret (by simp [results, Tryd.results31, go_sem]) rfl DN.out
    · have hy' : inB y 1 6 = false := by simpa using hy
      clear h hy
      go_enter Tryd.func31, Tryd.ntmps31
      go_wp2_with (go_at_call 42; refine (in_any _ _ _ _).mono ?_; rintro e w' ⟨rfl, rfl⟩)
      exact bodyPost_ret (by simp [results, Tryd.results31, go_sem]) rfl DN.out
  · have hx' : inB x 1 6 = false := by simpa using hx
    clear h hx
    go_enter Tryd.func31, Tryd.ntmps31
    go_wp2_with (go_at_call 42; refine (in_any _ _ _ _).mono ?_; rintro e w' ⟨rfl, rfl⟩)
    exact bodyPost_ret (by simp [results, Tryd.results31, go_sem]) rfl DN.out

theorem RegionBox_any (x y : Int) (w : World) : Calls Tryd.prog 31 #[.int .i64 x, .int .i64 y] w (RetR (boxReg x y) w) := by
  cases hb : boxOk x y
  · rw [boxReg, hb]; exact RegionBox_no x y w hb
  · have hb' := hb
    simp [boxOk] at hb'
    have ha := area_in (inB_iff.1 hb'.1.1) (inB_iff.1 hb'.1.2)
    rw [boxReg, hb]
    exact RegionBox_yes x y w hb'.1.1 hb'.1.2 hb'.2 _ (by omega)

theorem box23 : (boxReg 2 3).many = 6 := by decide

set_option maxHeartbeats 1000000 in
theorem alive_any (w : World) : Calls Tryd.prog 11 #[] w (Ret (.bool true) w) := by
  go_enter Tryd.func11, Tryd.ntmps11
  go_wp2_with (fail)
  refine (RegionBox_any 2 3 w).mono ?_
  rintro e w1 ⟨v, rfl, hv, hb⟩
  have Hb := Lib.hid hb
  have Hv := Lib.hid hv
  clear hb hv
  go_wp2_with (fail)
  refine (CellsMany_any v _ w1 Hv.out).mono ?_
  rintro e w2 ⟨rfl, hb2⟩
  rw [box23]
  have Hb2 := Lib.hid hb2
  clear hb2
  go_wp2
  go_ret
  exact ⟨rfl, Hb.out.trans (Hb2.out.mono Hb.out.size)⟩

end Go.Proofs.YtklifibiadiinaaDoor
