/- Walks: the reference's RegionFlip and RegionTurn. -/
import Derived.Test.YtjdnfmpnfogmpaaWd
import Derived.Test.YtjdnfmpnfogmpaaReg
namespace Go.Proofs.Ytjdnfmpnfogmpaa
open Go.RowKit Domi

/-- PutR, and the argument's box is there. -/
def PutS (w : World) (R : Value) (x y : Int) (rx ry : Int) (l : List Bool) (tt : Nat → Nat) (X g : Nat) (i : Value) (wr : World) : Prop :=
  PutR w x y l tt (w.heap.size + 1) X g i wr ∧ wr.heap[w.heap.size]? = some (.cells #[.int .i64 rx, .int .i64 ry, R] 25 (0, 0)) ∧ w.heap.size + 2 ≤ g ∧ w.heap.size + 2 ≤ X ∧ g ≠ X
def PutC (w : World) (R : Value) (x y : Int) (rx ry : Int) (l : List Bool) (tt : Nat → Nat) (s3 : Value) (wr : World) : Prop :=
  ∃ X g, s3 = .pointer (some ⟨X, 0, none⟩) ∧ PutS w R x y rx ry l tt X g (.int .i64 0) wr

theorem putC_mk {w w1 w2 : World} {R : Value} {x y rx ry : Int} {l : List Bool} {tt : Nat → Nat} {X g : Nat} (hb : Below w.heap.size w w1) (h1 : w1.heap.size + 2 = w2.heap.size) (h2 : Below w1.heap.size w1 w2)
    (hR : w1.heap[w.heap.size]? = some (.cells #[.int .i64 rx, .int .i64 ry, R] 25 (0, 0)))
    (hA : w1.heap[w.heap.size + 1]? = some (.cells #[.int .i64 0, .int .i64 0, .slice none 0 0] 25 (0, 0)))
    (hX : w2.heap[X]? = some (.cells #[.int .i64 x, .int .i64 y, .slice (some ⟨g, 0, none⟩) l.length l.length] 25 (0, 0)))
    (hg : w2.heap[g]? = some (.cells (mkRow l.length (.bool false)) 4 (0, 0))) (hX1 : w1.heap.size ≤ X) (hg1 : w1.heap.size ≤ g) (hgX : g ≠ X) (hl : l.length ≤ 1000) :
    PutC w R x y rx ry l tt (.pointer (some ⟨X, 0, none⟩)) w2 := by
  have s1 := lt_of_heap hA
  refine ⟨X, g, rfl, ⟨0, rfl, by omega, hb.trans (h2.mono hb.size), by rw [h2.block _ s1]; exact hA, hX, ?_⟩, by rw [h2.block _ (lt_of_heap hR)]; exact hR, by omega, by omega, hgX⟩
  refine ⟨by simp [putL], .inr ⟨g, l.length, mkRow l.length (.bool false), by simp [putL], by omega, hg, by simp [putL], by unfold maxLen; omega, by simp [mkRow], by simp [mkRow, putL]⟩⟩

theorem putS_next {w wr : World} {R : Value} {x y rx ry : Int} {l : List Bool} {tt : Nat → Nat} {X g k : Nat} (hb : Below w.heap.size w wr)
    (hA : wr.heap[w.heap.size + 1]? = some (.cells #[.int .i64 0, .int .i64 0, .slice none 0 0] 25 (0, 0)))
    (hX : wr.heap[X]? = some (.cells #[.int .i64 x, .int .i64 y, .slice (some ⟨g, 0, none⟩) l.length l.length] 25 (0, 0)))
    (ho : Own wr (w.heap.size + 2) 4 (.slice (some ⟨g, 0, none⟩) l.length l.length) ((putL tt l k).map Value.bool))
    (hR : wr.heap[w.heap.size]? = some (.cells #[.int .i64 rx, .int .i64 ry, R] 25 (0, 0))) (hg : w.heap.size + 2 ≤ g) (hX1 : w.heap.size + 2 ≤ X) (hgX : g ≠ X) (hk : k < l.length) :
    ∀ L : Later wr, PutS w R x y rx ry l tt X g (.int .i64 ((k : Int) + 1)) (L.x.setCell ⟨g, tt k, none⟩ (.bool (l.getD k false))) :=
  fun L => ⟨putR_next hb hA hX ho (w4 := L.x) L.h (by omega) hgX (by omega) hk, by rw [heap_setCell_other _ _ _ _ (by simp; omega)]; exact L.block hR, hg, hX1, hgX⟩
theorem mir_term {r : Reg} {c : Int} (hw : 1 ≤ r.wide ∧ r.wide ≤ 6) (_ : 1 ≤ r.tall ∧ r.tall ≤ 6) (h0 : 0 ≤ c) (h : c ≤ 100) : 0 ≤ c / r.wide * r.wide ∧ c / r.wide * r.wide ≤ 100 := by
  have m1 := Int.emod_nonneg c (b := r.wide) (by omega)
  have m3 := Int.ediv_nonneg (a := c) (b := r.wide) (by omega) (by omega)
  have := Int.mul_ediv_add_emod c r.wide
  rw [Int.mul_comm] at this
  exact ⟨Int.mul_nonneg m3 (by omega), by omega⟩
theorem turn_term {r : Reg} {c : Int} (hw : 1 ≤ r.wide ∧ r.wide ≤ 6) (ht : 1 ≤ r.tall ∧ r.tall ≤ 6) (h0 : 0 ≤ c) (_ : c ≤ 100) : 0 ≤ c % r.wide * r.tall ∧ c % r.wide * r.tall ≤ 36 := by
  have m1 := Int.emod_nonneg c (b := r.wide) (by omega)
  have m2 := Int.emod_lt_of_pos c (b := r.wide) (by omega)
  refine ⟨Int.mul_nonneg m1 (by omega), ?_⟩
  have := Int.mul_le_mul (a := c % r.wide) (b := r.tall) (c := 6) (d := 6) (by omega) (by omega) (by omega) (by omega)
  omega

set_option maxHeartbeats 1000000 in
theorem sRegionTurn_yes (v : Value) (r : Reg) (w : World) (h : RegV w v r) (hv : r.valid = true) :
    Calls Try.prog 29 #[v] w (RetR r.turn w) := by
  obtain ⟨ba, oa, cap, rfl, hs, hba, hcs, hlc, hcm, hl1, hlen, b3, b1, b2⟩ := h.valid_opened hv
  have Hs := Lib.hid hs
  have Hcs := Lib.hid hcs
  have Hn := Lib.hid b3
  have ha := area_in b1 b2
  clear hs h b3 hcs
  go_enter Try.func29, Try.ntmps29
  go_wp2_with (fail)
  refine (sRegionValid_any _ r _ ?_).mono ?_
  · refine RegV.below ⟨_, rfl, Hs.out⟩ ?_; go_grown
  rintro e w1 ⟨rfl, hb⟩
  rw [hv]
  have Hb := Lib.hid (show Below w.heap.size w w1 from Below.trans (by go_grown) (hb.mono (by simp; omega)))
  have c0 := cell_behind (o := 0) (b := w.heap.size) hb (by simp; omega)
  have c1 := cell_behind (o := 1) (b := w.heap.size) hb (by simp; omega)
  have c2 := cell_behind (o := 2) (b := w.heap.size) hb (by simp; omega)
  simp at c0 c1 c2
  have hA : w1.heap[w.heap.size + 1]? = some (.cells #[.int .i64 0, .int .i64 0, .slice none 0 0] 25 (0, 0)) := by
    rw [hb.block _ (by simp)]; have := heap_alloc_new (w.alloc (Obj.cells #[.int .i64 r.wide, .int .i64 r.tall, .slice (some ⟨ba, oa, none⟩) r.cells.length cap] 25)) (.cells #[.int .i64 0, .int .i64 0, .slice none 0 0] 25); simpa using this
  have hs1 := lt_of_heap hA
  have HA := Lib.hid hA
  have hR : w1.heap[w.heap.size]? = some (.cells #[.int .i64 r.wide, .int .i64 r.tall, .slice (some ⟨ba, oa, none⟩) r.cells.length cap] 25 (0, 0)) := by
    rw [hb.block _ (by simp; omega), heap_alloc_old _ _ (by simp)]; exact heap_alloc_new w _
  have HR := Lib.hid hR
  clear hb hA hR
  go_upto_region 3 with (fail)
  go_cut [3] (fun s3 wx => PutC w (.slice (some ⟨ba, oa, none⟩) r.cells.length cap) r.tall r.wide r.wide r.tall r.cells (fun k => (turnI r k).toNat) s3 wx)
  case first =>
    have hmk := run_make_row1 elem_bools (.bool false) zero_bool rfl r.cells.length (by omega) (by omega)
    go_region_held3 (fun w' => w'.cell? ⟨w.heap.size, 0, none⟩ = some (.int .i64 r.wide) ∧ w'.cell? ⟨w.heap.size, 1, none⟩ = some (.int .i64 r.tall) ∧ w'.cell? ⟨w.heap.size, 2, none⟩ = some (.slice (some ⟨ba, oa, none⟩) r.cells.length cap))
      (first | go_keep | assumption) (fail)
    all_goals
      clear hmk
      go_wp2_with (fail)
      go_meet
    · exact putC_mk (X := w1.heap.size + 1) (g := w1.heap.size) Hb.out (by simp) (by go_grown) HR.out HA.out (two_new _ _ _).2 (two_new _ _ _).1 (by omega) (by omega) (by omega) (by omega)
    · exact putC_mk (X := w1.heap.size) (g := w1.heap.size + 1) Hb.out (by simp) (by go_grown) HR.out HA.out (two_new _ _ _).1 (two_new _ _ _).2 (by omega) (by omega) (by omega) (by omega)
  case rest =>
    obtain ⟨X, g, rfl, hP⟩ := hcut
    have R0 := Lib.hid hP
    clear hP
    clear c0 c1 c2 HA HR hs1 Hb
    go_wp2_with (fail)
    go_loopw [4] (fun i wr => PutS w (.slice (some ⟨ba, oa, none⟩) r.cells.length cap) r.tall r.wide r.wide r.tall r.cells (fun k => (turnI r k).toNat) X g i wr) (fun i _ => r.cells.length - (intOf i).toNat)
    case atStart => exact R0.out
    case round =>
      obtain ⟨⟨k, rfl, hk, hbw, hA, hX, ho⟩, hR, hg1, hX1, hgX⟩ := hrel
      have HA := Lib.hid hA
      have HX := Lib.hid hX
      have HO := Lib.hid ho
      have HB := Lib.hid hbw
      have HR := Lib.hid hR
      obtain ⟨c0, c1, c2, f0, f1, f2⟩ := three_cells hX
      obtain ⟨r0, r1, r2, _⟩ := three_cells hR
      by_cases hlt : k < r.cells.length
      · have hki : (k : Int) < r.wide * r.tall := by have := Hn.out; omega
        obtain ⟨t1, t2⟩ := turnI_in (r := r) (c := k) (by omega) (by omega) (by omega) hki
        have t3 : (turnI r k).toNat < r.cells.length := by have := Hn.out; omega
        have t2' : turnI r k < (r.cells.length : Int) := by have := Hn.out; omega
        have hck := Hcs.out wr HB.out k hlt
        obtain ⟨cv, hcv⟩ : ∃ c, c = r.cells.getD k false := ⟨_, rfl⟩
        rw [← hcv] at hck
        have Hcv := Lib.hid hcv
        obtain ⟨u0, u1, u2, u3⟩ := HO.out.there _ t3
        have N1 := Lib.hid (putS_next (tt := fun k => (turnI r k).toNat) HB.out HA.out HX.out HO.out HR.out hg1 hX1 hgX hlt)
        rw [← Hcv.out] at N1
        have m1 := Int.emod_nonneg (k : Int) (b := r.wide) (by omega)
        have m2 := Int.emod_lt_of_pos (k : Int) (b := r.wide) (by omega)
        have m3 := Int.ediv_nonneg (a := (k : Int)) (b := r.wide) (by omega) (by omega)
        have m4 := Int.ediv_le_self (a := (k : Int)) r.wide (by omega)
        have m5 := turn_term (r := r) (c := k) b1 b2 (by omega) (by omega)
        unfold turnI at t1 t2' u1 u2 N1
        clear hA hX ho hbw R0 hki hcv hR t2 t3
        go_wp2_with (fail)
        have b0 := lt_of_heap HR.out
        have b1' := lt_of_heap HX.out
        have b2' : ba < wr.heap.size := Nat.lt_of_lt_of_le hba HB.out.size
        have hLc : ∀ (L : Later wr) (b o : Nat), b < wr.heap.size → L.x.cell? ⟨b, o, none⟩ = wr.cell? ⟨b, o, none⟩ := Later.cell
        have hLf : ∀ (L : Later wr) (b o : Nat), b < wr.heap.size → L.x.frozen? ⟨b, o, none⟩ = wr.frozen? ⟨b, o, none⟩ := Later.frozen
        refine wp_region_later 24 (by kernel_rfl) (by kernel_rfl) ?_
        simp only [List.take_succ_cons, List.take_zero, List.drop_succ_cons, List.drop_zero]
        repeat (go_big_quiet_step (fail))
        refine wpQuiet_nil ?_
        intro L
        go_wp2
        exact ⟨N1.out L, by simp [intOf]; omega⟩
      · have DN := Lib.hid (put_done (x := r.tall) (y := r.wide) (Nat.le_succ _) (Nat.lt_succ_self _) HB.out HA.out HO.out (by omega))
        obtain ⟨q0, q1, q2, _⟩ := three_cells (put3 (x' := .int .i64 r.tall) (y' := .int .i64 r.wide) (z' := .slice (some ⟨g, 0, none⟩) r.cells.length r.cells.length) hA)
        obtain ⟨a0, a1, a2, e0, e1, e2⟩ := three_cells hA
        have Q0 := Lib.hid q0
        have Q1 := Lib.hid q1
        have Q2 := Lib.hid q2
        clear q0 q1 q2 hA hX ho hbw R0 hR
        go_wp2
        exact bodyPost_ret (by simp [results, Try.results29, go_sem, Q0.out, Q1.out, Q2.out]) rfl DN.out

set_option maxHeartbeats 1000000 in
theorem sRegionTurn_no (v : Value) (r : Reg) (w : World) (h : RegV w v r) (hv : r.valid = false) :
    Calls Try.prog 29 #[v] w (RetR Reg.zero w) := by
  obtain ⟨a, cap, rfl, hs, hlc, hcm⟩ := h.opened
  have Hs := Lib.hid hs
  clear hs h
  go_enter Try.func29, Try.ntmps29
  go_wp2_with (fail)
  refine (sRegionValid_any _ r _ ?_).mono ?_
  · refine RegV.below ⟨_, rfl, Hs.out⟩ ?_; go_grown
  rintro e w1 ⟨rfl, hb⟩
  rw [hv]
  have Hb := Lib.hid (show Below w.heap.size w w1 from Below.trans (by go_grown) (hb.mono (by simp; omega)))
  have hA : w1.heap[w.heap.size + 1]? = some (.cells #[.int .i64 0, .int .i64 0, .slice none 0 0] 25 (0, 0)) := by
    rw [hb.block _ (by simp)]; have := heap_alloc_new (w.alloc (Obj.cells #[.int .i64 r.wide, .int .i64 r.tall, .slice a r.cells.length cap] 25)) (.cells #[.int .i64 0, .int .i64 0, .slice none 0 0] 25); simpa using this
  have DN := Lib.hid (reg_done (x := 0) (y := 0) (l := []) Hb.out (Sl.nil w1) hA (by omega))
  obtain ⟨q0, q1, q2, _⟩ := three_cells (put3 (x' := .int .i64 0) (y' := .int .i64 0) (z' := .slice none 0 0) hA)
  obtain ⟨a0, a1, a2, e0, e1, e2⟩ := three_cells hA
  have Q0 := Lib.hid q0
  have Q1 := Lib.hid q1
  have Q2 := Lib.hid q2
  clear q0 q1 q2 hb hA
  go_wp2
  exact bodyPost_ret (by simp [results, Try.results29, go_sem, Q0.out, Q1.out, Q2.out]) rfl DN.out

theorem RegionFlip_any (v : Value) (r : Reg) (w : World) (h : RegV w v r) : Calls Try.prog 33 #[v] w (RetR r.flipR w) := by
  cases hv : r.valid
  · rw [Reg.flipR, hv]; exact RegionFlip_no v r w h hv
  · rw [Reg.flipR, hv]; exact RegionFlip_yes v r w h hv

theorem RegionTurn_any (v : Value) (r : Reg) (w : World) (h : RegV w v r) : Calls Try.prog 28 #[v] w (RetR r.turnR w) := by
  cases hv : r.valid
  · rw [Reg.turnR, hv]; exact RegionTurn_no v r w h hv
  · rw [Reg.turnR, hv]; exact RegionTurn_yes v r w h hv

theorem sRegionTurn_any (v : Value) (r : Reg) (w : World) (h : RegV w v r) : Calls Try.prog 29 #[v] w (RetR r.turnR w) := by
  cases hv : r.valid
  · rw [Reg.turnR, hv]; exact sRegionTurn_no v r w h hv
  · rw [Reg.turnR, hv]; exact sRegionTurn_yes v r w h hv

end Go.Proofs.Ytjdnfmpnfogmpaa
