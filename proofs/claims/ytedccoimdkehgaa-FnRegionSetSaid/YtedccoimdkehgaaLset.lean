/- The law FnRegionSet: its walk. -/
import Derived.Test.YtedccoimdkehgaaWset
import Derived.Test.YtedccoimdkehgaaWsetS
import Derived.Test.YtedccoimdkehgaaDrawSet
import Derived.Test.YtedccoimdkehgaaLmeet
set_option linter.unusedVariables false
set_option linter.unusedSimpArgs false
namespace Go.Proofs.Ytedccoimdkehgaa
open Go.RowKit Domi

theorem RegionSet_is (v : Value) (r : Reg) (c : Int) (b : Bool) (w : World) (h : RegV w v r) (x : Reg) (o : Bool) (hx : setR r c b = (x, o)) : Calls Try.prog 21 #[v, .int .i64 c, .bool b] w (RetRB (x, o) w) := by
  rw [← hx]; exact RegionSet_any v r c b w h
theorem sRegionSet_is (v : Value) (r : Reg) (c : Int) (b : Bool) (w : World) (h : RegV w v r) (x : Reg) (o : Bool) (hx : setR r c b = (x, o)) : Calls Try.prog 22 #[v, .int .i64 c, .bool b] w (RetRB (x, o) w) := by
  rw [← hx]; exact sRegionSet_any v r c b w h
theorem RB.put {W : World} {X A : Nat} {r : Reg} {s x y z : Value} {t : TypeId} (h : RB W X r s) (hA : W.heap[A]? = some (.cells #[.int .i64 0, .int .i64 0, .slice none 0 0] t (0, 0))) (hne : X ≠ A) :
    RB (((W.setCell ⟨A, 0, none⟩ x).setCell ⟨A, 1, none⟩ y).setCell ⟨A, 2, none⟩ z) X r s :=
  ⟨by rw [heap_setCell_other _ _ _ _ hne, heap_setCell_other _ _ _ _ hne, heap_setCell_other _ _ _ _ hne]; exact h.box, bl_put3 h.bl hA _ _ _⟩
/-- Behind the region that sets the cell back. -/
def SetB (W0 : World) (XA XX : Nat) (r x : Reg) (sr sx : Value) (p q : Value) (wx : World) : Prop :=
  ∃ X s, p = .pointer (some ⟨X, 0, none⟩) ∧ q = .bool true ∧ RB wx XA r sr ∧ RB wx XX x sx ∧ RB wx X r s ∧ Below W0.heap.size W0 wx

set_option maxRecDepth 100000 in
set_option maxHeartbeats 2000000 in
theorem FnRegionSet_walk (v : Value) (ys : List Int) (w : World) (h : Yl w v ys) (hr : ∀ i, i < ys.length → 0 ≤ ys.getD i 0 ∧ ys.getD i 0 ≤ 255) :
    Calls Try.prog 4 #[v] w (Ret (.bool true) w) := by
  have H := Lib.hid h
  have Hr := Lib.hid hr
  obtain ⟨a0, cap0, rfl, hlc0, hcm0, _⟩ := h.opened
  clear h hr
  by_cases hlen : (1048576 : Int) < (ys.length : Int)
  · go_enter Try.func4, Try.ntmps4
    go_wp2
    go_ret
    exact ⟨rfl, Below.refl _ _⟩
  · go_enter Try.func4, Try.ntmps4
    go_wp2_with (fail)
    refine (DrawRegionSet_any _ ys w H.out Hr.out).mono ?_
    rintro e w1 ⟨s, r, c, b, rfl, hs, -, hc, hb1⟩
    obtain ⟨p1, n1, rfl, _, _, _⟩ := hs.opened
    have BW := Lib.hid hb1
    obtain ⟨⟨x, o⟩, hx⟩ : ∃ p, setR r c b = p := ⟨_, rfl⟩
    have HX := Lib.hid hx
    clear hb1 hx
    go_wp2_with (fail)
    obtain ⟨W1, hW1⟩ : ∃ W, W = w1.alloc (.cells #[.int .i64 r.wide, .int .i64 r.tall, .slice p1 r.cells.length n1] 25) := ⟨_, rfl⟩
    have RA := RB.new hs
    have hbW1 := below_alloc w1 (.cells #[.int .i64 r.wide, .int .i64 r.tall, .slice p1 r.cells.length n1] 25)
    rw [← hW1] at RA hbW1 ⊢
    have RA := Lib.hid RA
    have BW := Lib.hid (BW.out.trans (hbW1.mono BW.out.size))
    clear hbW1
    clear hs hW1
    refine (RegionSet_is _ r c b _ ?_ _ _ HX.out).mono ?_
    · exact RA.out.v
    rintro e w2 ⟨v, rfl, hv, hb⟩
    obtain ⟨pRX, nRX, rfl, hbl, _, _⟩ := hv.opened
    clear hv
    have RA := Lib.hid (RA.out.on hb)
    have BW := Lib.hid (BW.out.trans (hb.mono BW.out.size))
    clear hb
    obtain ⟨ra0, ra1, ra2⟩ := RA.out.c3
    have ra3 := RA.out.lt
    go_wp2_with (fail)
    clear ra0 ra1 ra2 ra3
    obtain ⟨W2, hW2⟩ : ∃ W, W = w2.alloc (.cells #[.int .i64 x.wide, .int .i64 x.tall, .slice pRX x.cells.length nRX] 25) := ⟨_, rfl⟩
    have RX := RB.new hbl
    have hbW2 := below_alloc w2 (.cells #[.int .i64 x.wide, .int .i64 x.tall, .slice pRX x.cells.length nRX] 25)
    rw [← hW2] at RX hbW2 ⊢
    have RX := Lib.hid RX
    have RA := Lib.hid (RA.out.on hbW2)
    have BW := Lib.hid (BW.out.trans (hbW2.mono BW.out.size))
    clear hbW2
    clear hbl hW2
    refine (sRegionSet_is _ r c b _ ?_ _ _ HX.out).mono ?_
    · exact RA.out.v
    rintro e w3 ⟨v, rfl, hv, hb⟩
    obtain ⟨pRY, nRY, rfl, hbl, _, _⟩ := hv.opened
    clear hv
    have RA := Lib.hid (RA.out.on hb)
    have RX := Lib.hid (RX.out.on hb)
    have BW := Lib.hid (BW.out.trans (hb.mono BW.out.size))
    clear hb
    obtain ⟨rx0, rx1, rx2⟩ := RX.out.c3
    have rx3 := RX.out.lt
    go_wp2_with (fail)
    clear rx0 rx1 rx2 rx3
    obtain ⟨W3, hW3⟩ : ∃ W, W = w3.alloc (.cells #[.int .i64 x.wide, .int .i64 x.tall, .slice pRY x.cells.length nRY] 25) := ⟨_, rfl⟩
    have RY := RB.new hbl
    have hbW3 := below_alloc w3 (.cells #[.int .i64 x.wide, .int .i64 x.tall, .slice pRY x.cells.length nRY] 25)
    rw [← hW3] at RY hbW3 ⊢
    have RY := Lib.hid RY
    have RA := Lib.hid (RA.out.on hbW3)
    have RX := Lib.hid (RX.out.on hbW3)
    have BW := Lib.hid (BW.out.trans (hbW3.mono BW.out.size))
    clear hbW3
    clear hbl hW3
    refine (sameRegion_is _ _ x x true _ ?_ ?_ (by simp)).mono ?_
    · exact RX.out.v
    · exact RY.out.v
    rintro e w4 ⟨rfl, hb⟩
    have RA := Lib.hid (RA.out.on hb)
    have RX := Lib.hid (RX.out.on hb)
    have RY := Lib.hid (RY.out.on hb)
    have BW := Lib.hid (BW.out.trans (hb.mono BW.out.size))
    clear hb
    have hcc : (o != o) = false := by simp
    cases ho : o
    · skip
      have hz : (x.wide == 0) = true := by
        have := setR_no (r := r) (c := c) (b := b); rw [HX.out] at this; simpa using this ho
      subst ho
      obtain ⟨rx0, rx1, rx2⟩ := RX.out.c3
      have rx3 := RX.out.lt
      go_wp2_with (fail)
      refine (alive_any _).mono ?_
      rintro e w7 ⟨rfl, hb⟩
      have BW := Lib.hid (BW.out.trans (hb.mono BW.out.size))
      clear hb
      clear rx0 rx1 rx2 rx3
      go_wp2
      go_ret
      exact ⟨rfl, BW.out⟩
    · skip
      subst ho
      obtain ⟨hci, hvr, hback, hmany⟩ := set_law (r := r) (c := c) (b := b) (by rw [HX.out])
      rw [HX.out] at hback hmany
      simp only at hback hmany
      obtain ⟨vr1, vr2, vr3, _⟩ := Reg.valid_iff.1 hvr
      have hr36 : r.cells.length ≤ 36 := by have := area_in vr1 vr2; omega
      have hkl : c.toNat < r.cells.length := by omega
      obtain ⟨_, t1, t2, ba, oa, rfl, la, ca⟩ := bl_cell RA.out.bl hkl
      have hckey : ∀ w', Below w4.heap.size w4 w' → w'.cell? ⟨ba, oa + c.toNat, none⟩ = some (.bool (r.cells.getD c.toNat false)) := fun w' hw => (hw.cell (p := ⟨ba, oa + c.toNat, none⟩) la).trans ca
      have HC := Lib.hid hckey
      have c1 : 0 ≤ c := hci.1
      have c2 : c < (r.cells.length : Int) := hci.2
      generalize r.cells.getD c.toNat false = q at *
      have HB := Lib.hid hback
      have HM := Lib.hid hmany
      clear hback hmany hckey vr1 vr2 vr3 hci
      go_upto_region 10 with (fail)
      go_cut [10, 11] (fun s10 s11 wx => SetB w4 w1.heap.size w2.heap.size r x (.slice (some ⟨ba, oa, none⟩) r.cells.length n1) (.slice pRX x.cells.length nRX) s10 s11 wx)
      case first =>
        obtain ⟨a0, a1, a2⟩ := RA.out.c3
        obtain ⟨x0, x1, x2⟩ := RX.out.c3
        have a3 := RA.out.lt
        have x3 := RX.out.lt
        go_region_held3 (fun w' => w'.cell? ⟨w1.heap.size, 2, none⟩ = some (.slice (some ⟨ba, oa, none⟩) r.cells.length n1) ∧ w'.cell? ⟨w2.heap.size, 0, none⟩ = some (.int .i64 x.wide) ∧ w'.cell? ⟨w2.heap.size, 1, none⟩ = some (.int .i64 x.tall) ∧ w'.cell? ⟨w2.heap.size, 2, none⟩ = some (.slice pRX x.cells.length nRX) ∧ w'.cell? ⟨ba, oa + c.toNat, none⟩ = some (.bool q))
          (first | with_reducible exact K5.out | with_reducible exact K6.out _ | with_reducible exact P5.out _ _ _ | (go_keep; done) | assumption)
          ((first
            | (go_at_call 21; refine (RegionSet_is _ x c q _ ?_ _ _ HB.out).mono ?_; exact RX.out.v.below (by go_grown); rintro e w5 ⟨v, rfl, hv, hb5⟩; obtain ⟨p5, n5, rfl, hbl, _, _⟩ := hv.opened; (have B5 : Below w4.heap.size w4 w5 := Below.trans (by go_grown) (hb5.mono (by simp))); (have A5 := RA.out.on B5); (have X5 := RX.out.on B5); (have C5 := HC.out _ B5); (have K5 := Lib.hid (And.intro A5.c3.2.2 (And.intro X5.c3.1 (And.intro X5.c3.2.1 (And.intro X5.c3.2.2 C5))))); (have K6 := Lib.hid (fun o => And.intro (A5.on (below_alloc w5 o)).c3.2.2 (And.intro (X5.on (below_alloc w5 o)).c3.1 (And.intro (X5.on (below_alloc w5 o)).c3.2.1 (And.intro (X5.on (below_alloc w5 o)).c3.2.2 (HC.out _ (B5.trans ((below_alloc w5 o).mono B5.size)))))))); (have HA5 := Lib.hid A5); (have HX5 := Lib.hid X5); (have HB5 := Lib.hid B5); (have HS5 := Lib.hid hbl); clear A5 X5 C5 B5 hv hbl; first | ((have hz : w5.heap[w4.heap.size]? = some (.cells #[.int .i64 0, .int .i64 0, .slice none 0 0] 25 (0, 0)) := by (rw [hb5.block _ (by simp)]; exact heap_alloc_new w4.drew _)); obtain ⟨z0, z1, z2, z3, z4, z5⟩ := three_cells hz; (have HZ := Lib.hid hz); (have P5 := Lib.hid (fun u v t => And.intro ((HA5.out.put hz (Nat.ne_of_lt a3) (x := u) (y := v) (z := t)).c3.2.2) (And.intro ((HX5.out.put hz (Nat.ne_of_lt x3) (x := u) (y := v) (z := t)).c3.1) (And.intro ((HX5.out.put hz (Nat.ne_of_lt x3) (x := u) (y := v) (z := t)).c3.2.1) (And.intro ((HX5.out.put hz (Nat.ne_of_lt x3) (x := u) (y := v) (z := t)).c3.2.2) (cell_far (o := 2) (s := none) (v := t) (cell_far (o := 1) (s := none) (v := v) (cell_far (o := 0) (s := none) (v := u) (HC.out _ HB5.out) (Nat.ne_of_lt la)) (Nat.ne_of_lt la)) (Nat.ne_of_lt la))))))); clear hz hb5) | ((have P5 := Lib.hid trivial); clear hb5))))
        all_goals
          clear K5 K6 P5 a0 a1 a2 x0 x1 x2
          go_wp2_with (fail)
          go_meet
        · exact ⟨w5.heap.size, _, rfl, rfl, HA5.out.on (below_alloc _ _), HX5.out.on (below_alloc _ _), RB.new HS5.out, HB5.out.trans ((below_alloc _ _).mono HB5.out.size)⟩
        · exact ⟨w4.heap.size, _, rfl, rfl, HA5.out.put HZ.out (Nat.ne_of_lt a3), HX5.out.put HZ.out (Nat.ne_of_lt x3), ⟨put3 HZ.out, bl_put3 HS5.out HZ.out _ _ _⟩, ((HB5.out.setCell (Nat.le_refl _) _).setCell (Nat.le_refl _) _).setCell (Nat.le_refl _) _⟩
      case rest =>
        obtain ⟨X, s, rfl, rfl, A, XX, O, hb⟩ := hcut
        have RA := Lib.hid A
        have RX := Lib.hid XX
        have RO := Lib.hid O
        have C5 := Lib.hid (fun w' (hw : Below wc.heap.size wc w') => HC.out w' (hb.trans (hw.mono hb.size)))
        have BW := Lib.hid (BW.out.trans (hb.mono BW.out.size))
        obtain ⟨pO, nO, e, _, _, _⟩ := RegV.opened O.v
        obtain rfl : s = .slice pO r.cells.length nO := by simpa using e
        clear A XX O hb e RY HC
        obtain ⟨a0, a1, a2⟩ := RA.out.c3
        obtain ⟨x0, x1, x2⟩ := RX.out.c3
        have a3 := RA.out.lt
        have x3 := RX.out.lt
        cases b <;> cases q
        all_goals
          have hd := HM.out
          simp only [if_true, if_false, Bool.false_eq_true, Int.sub_self, Int.sub_zero, Int.zero_sub] at hd
          have wd := (IntWalk.i64_in (x.many - r.many) (by omega)).trans hd
          clear hd
          have hLc : ∀ (L : Later wc) (b o : Nat), b < wc.heap.size → L.x.cell? ⟨b, o, none⟩ = wc.cell? ⟨b, o, none⟩ := Later.cell
          go_wp2_with (fail)
          refine wp_region_later_all (by kernel_rfl) (by kernel_rfl) ?_
          repeat (go_big_quiet_step (first | with_reducible exact cells_later _ RX.out | with_reducible exact cells_later _ RA.out))
          refine wpQuiet_nil ?_
          intro L
          clear hLc wd a0 a1 a2 x0 x1 x2 a3 x3
          have RA := Lib.hid (RA.out.on L.h)
          have RO := Lib.hid (RO.out.on L.h)
          have C5 := Lib.hid (fun w' (hw : Below L.x.heap.size L.x w') => C5.out w' (L.h.trans (hw.mono L.h.size)))
          have BW := Lib.hid (BW.out.trans (L.h.mono BW.out.size))
          obtain ⟨a0, a1, a2⟩ := RA.out.c3
          obtain ⟨o0, o1, o2⟩ := RO.out.c3
          go_wp2_with (fail)
          refine (sameRegion_is _ _ r r true _ RO.out.v RA.out.v (by simp)).mono ?_
          rintro e w6 ⟨rfl, hb⟩
          have RA := Lib.hid (RA.out.on hb)
          have c6 := C5.out _ hb
          have BW := Lib.hid (BW.out.trans (hb.mono BW.out.size))
          clear hb a0 a1 a2 o0 o1 o2
          obtain ⟨a0, a1, a2⟩ := RA.out.c3
          go_wp2
          go_ret
          exact ⟨rfl, BW.out⟩

end Go.Proofs.Ytedccoimdkehgaa
