/- The laws FnRegionMeet and FnRegionJoin: their walks. -/
import Derived.Test.YtedccoimdkehgaaWh
import Derived.Test.YtedccoimdkehgaaWi
import Derived.Test.YtedccoimdkehgaaWiJ
import Derived.Test.YtedccoimdkehgaaPairB
import Derived.Test.YtedccoimdkehgaaCombC
import Derived.Test.YtedccoimdkehgaaLaw
set_option linter.unusedVariables false
set_option linter.unusedSimpArgs false
namespace Go.Proofs.Ytedccoimdkehgaa
open Go.RowKit Domi

theorem RegionMeet_is (va vb : Value) (a b : Reg) (w : World) (ha : RegV w va a) (hb : RegV w vb b) (x : Reg) (c : Bool) (h : meetR a b = (x, c)) :
    Calls Try.prog 16 #[va, vb] w (RetRB (x, c) w) := by rw [← h]; exact RegionMeet_any va vb a b w ha hb
theorem sRegionMeet_is (va vb : Value) (a b : Reg) (w : World) (ha : RegV w va a) (hb : RegV w vb b) (x : Reg) (c : Bool) (h : meetR a b = (x, c)) :
    Calls Try.prog 17 #[va, vb] w (RetRB (x, c) w) := by rw [← h]; exact sRegionMeet_any va vb a b w ha hb

theorem RegionJoin_is (va vb : Value) (a b : Reg) (w : World) (ha : RegV w va a) (hb : RegV w vb b) (x : Reg) (c : Bool) (h : joinR a b = (x, c)) :
    Calls Try.prog 30 #[va, vb] w (RetRB (x, c) w) := by rw [← h]; exact RegionJoin_any va vb a b w ha hb
theorem sRegionJoin_is (va vb : Value) (a b : Reg) (w : World) (ha : RegV w va a) (hb : RegV w vb b) (x : Reg) (c : Bool) (h : joinR a b = (x, c)) :
    Calls Try.prog 31 #[va, vb] w (RetRB (x, c) w) := by rw [← h]; exact sRegionJoin_any va vb a b w ha hb

theorem cells_later {w : World} {X : Nat} {r : Reg} {s : Value} (L : Later w) (h : RB w X r s) : Calls Try.prog 23 #[.agg #[.int .i64 r.wide, .int .i64 r.tall, s]] L.x fun e w' => e = .returned (.int .i64 r.many) ∧ ∃ K : Later w, w' = K.x :=
  calls_later L (CellsMany_any _ r _ (h.v.below L.h))
theorem same_later {w : World} {X Y : Nat} {r q : Reg} {s u : Value} (L : Later w) (h : RB w X r s) (g : RB w Y q u) (hc : decide (r = q) = true) :
    Calls Try.prog 18 #[.agg #[.int .i64 r.wide, .int .i64 r.tall, s], .agg #[.int .i64 q.wide, .int .i64 q.tall, u]] L.x fun e w' => e = .returned (.bool true) ∧ ∃ K : Later w, w' = K.x :=
  calls_later L ((sameRegion_any _ _ r q _ (h.v.below L.h) (g.v.below L.h)).mono fun e w' hh => ⟨by rw [hh.1, hc], hh.2⟩)
theorem sameRegion_is (v u : Value) (r q : Reg) (c : Bool) (w : World) (h : RegV w v r) (g : RegV w u q) (hc : decide (r = q) = c) :
    Calls Try.prog 18 #[v, u] w fun e w' => e = .returned (.bool c) ∧ Below w.heap.size w w' := by rw [← hc]; exact sameRegion_any v u r q w h g

set_option maxRecDepth 100000 in
set_option maxHeartbeats 2000000 in
theorem FnRegionMeet_walk (v : Value) (ys : List Int) (w : World) (h : Yl w v ys) (hr : ∀ i, i < ys.length → 0 ≤ ys.getD i 0 ∧ ys.getD i 0 ≤ 255) :
    Calls Try.prog 3 #[v] w (Ret (.bool true) w) := by
  have H := Lib.hid h
  have Hr := Lib.hid hr
  obtain ⟨a0, cap0, rfl, hlc0, hcm0, _⟩ := h.opened
  clear h hr
  by_cases hlen : (1048576 : Int) < (ys.length : Int)
  · go_enter Try.func3, Try.ntmps3
    go_wp2
    go_ret
    exact ⟨rfl, Below.refl _ _⟩
  · go_enter Try.func3, Try.ntmps3
    go_wp2_with (fail)
    refine (DrawRegionMeet_any _ ys w H.out Hr.out).mono ?_
    rintro e w1 ⟨s, u, r, q, rfl, hs, hu, -, -, hb1⟩
    obtain ⟨p1, n1, rfl, _, _, _⟩ := hs.opened
    obtain ⟨p2, n2, rfl, _, _, _⟩ := hu.opened
    have BW := Lib.hid hb1
    obtain ⟨⟨x, c⟩, hx⟩ : ∃ p, meetR r q = p := ⟨_, rfl⟩
    have HX := Lib.hid hx
    clear hb1 hx
    go_wp2_with (fail)
    obtain ⟨W1, hW1⟩ : ∃ W, W = (w1.alloc (.cells #[.int .i64 r.wide, .int .i64 r.tall, .slice p1 r.cells.length n1] 25)).alloc (.cells #[.int .i64 q.wide, .int .i64 q.tall, .slice p2 q.cells.length n2] 25) := ⟨_, rfl⟩
    have RA : RB W1 w1.heap.size r (.slice p1 r.cells.length n1) := by rw [hW1]; exact (RB.new hs).on (below_alloc _ _)
    have RC : RB W1 (w1.heap.size + 1) q (.slice p2 q.cells.length n2) := by
      have := RB.new (hu.below (below_alloc w1 (.cells #[.int .i64 r.wide, .int .i64 r.tall, .slice p1 r.cells.length n1] 25)))
      rw [hW1]; simpa using this
    have hbW1 : Below w1.heap.size w1 W1 := by rw [hW1]; go_grown
    rw [← hW1]
    have RA := Lib.hid RA
    have RC := Lib.hid RC
    have BW := Lib.hid (BW.out.trans (hbW1.mono BW.out.size))
    have sA := RA.out.lt
    clear hs hu hbW1 hW1
    refine (RegionMeet_is _ _ r q _ ?_ ?_ _ _ HX.out).mono ?_
    · exact RA.out.v
    · exact RC.out.v
    rintro e w2 ⟨v, rfl, hv, hb⟩
    obtain ⟨pRX, nRX, rfl, hbl, _, _⟩ := hv.opened
    clear hv
    have RA := Lib.hid (RA.out.on hb)
    have RC := Lib.hid (RC.out.on hb)
    have BW := Lib.hid (BW.out.trans (hb.mono BW.out.size))
    clear hb
    obtain ⟨ra0, ra1, ra2⟩ := RA.out.c3
    have ra3 := RA.out.lt
    obtain ⟨rc0, rc1, rc2⟩ := RC.out.c3
    have rc3 := RC.out.lt
    go_wp2_with (fail)
    clear ra0 ra1 ra2 ra3 rc0 rc1 rc2 rc3
    obtain ⟨W2, hW2⟩ : ∃ W, W = w2.alloc (.cells #[.int .i64 x.wide, .int .i64 x.tall, .slice pRX x.cells.length nRX] 25) := ⟨_, rfl⟩
    have RX := RB.new hbl
    have hbW2 := below_alloc w2 (.cells #[.int .i64 x.wide, .int .i64 x.tall, .slice pRX x.cells.length nRX] 25)
    rw [← hW2] at RX hbW2 ⊢
    have RX := Lib.hid RX
    have RA := Lib.hid (RA.out.on hbW2)
    have RC := Lib.hid (RC.out.on hbW2)
    have BW := Lib.hid (BW.out.trans (hbW2.mono BW.out.size))
    clear hbW2
    clear hbl hW2
    refine (sRegionMeet_is _ _ r q _ ?_ ?_ _ _ HX.out).mono ?_
    · exact RA.out.v
    · exact RC.out.v
    rintro e w3 ⟨v, rfl, hv, hb⟩
    obtain ⟨pRY, nRY, rfl, hbl, _, _⟩ := hv.opened
    clear hv
    have RA := Lib.hid (RA.out.on hb)
    have RC := Lib.hid (RC.out.on hb)
    have RX := Lib.hid (RX.out.on hb)
    have BW := Lib.hid (BW.out.trans (hb.mono BW.out.size))
    clear hb
    obtain ⟨rx0, rx1, rx2⟩ := RX.out.c3
    have rx3 := RX.out.lt
    go_wp2_with (fail)
    clear rx0 rx1 rx2 rx3
    obtain ⟨W3, hW3⟩ : ∃ W, W = w3.alloc (.cells #[.int .i64 x.wide, .int .i64 x.tall, .slice pRY x.cells.length nRY] 25) := ⟨_, rfl⟩
    have RY := RB.new hbl
    have hbW3 := below_alloc w3 (.cells #[.int .i64 x.wide, .int .i64 x.tall, .slice pRY x.cells.length nRY] 25)
    rw [← hW3] at RY hbW3 ⊢
    have RY := Lib.hid RY
    have RA := Lib.hid (RA.out.on hbW3)
    have RC := Lib.hid (RC.out.on hbW3)
    have RX := Lib.hid (RX.out.on hbW3)
    have BW := Lib.hid (BW.out.trans (hbW3.mono BW.out.size))
    clear hbW3
    clear hbl hW3
    refine (sameRegion_is _ _ x x true _ ?_ ?_ (by simp)).mono ?_
    · exact RX.out.v
    · exact RY.out.v
    rintro e w4 ⟨rfl, hb⟩
    have RA := Lib.hid (RA.out.on hb)
    have RC := Lib.hid (RC.out.on hb)
    have RX := Lib.hid (RX.out.on hb)
    have RY := Lib.hid (RY.out.on hb)
    have BW := Lib.hid (BW.out.trans (hb.mono BW.out.size))
    clear hb
    have hcc : (c != c) = false := by simp
    cases hc : c
    · skip
      have hz : (x.wide == 0) = true := by
        have := meet_no (a := r) (b := q); rw [HX.out] at this; simpa using this hc
      subst hc
      obtain ⟨rx0, rx1, rx2⟩ := RX.out.c3
      have rx3 := RX.out.lt
      go_wp2_with (fail)
      refine (alive_any _).mono ?_
      rintro e w7 ⟨rfl, hb⟩
      have BW := Lib.hid (BW.out.trans (hb.mono BW.out.size))
      clear hb
      clear rx0 rx1 rx2 rx3
      go_wp2
      go_ret
      exact ⟨rfl, BW.out⟩
    · skip
      subst hc
      obtain ⟨vr, vq, lx, lq, hget⟩ := meet_get (a := r) (b := q) (by rw [HX.out])
      have hmc := meet_comm (a := r) (b := q) (by rw [HX.out])
      have hms := meet_self (a := r) (b := q) (by rw [HX.out])
      rw [HX.out] at lx hget hmc
      simp only at lx hget hmc
      obtain ⟨⟨o, d⟩, ho⟩ : ∃ p, meetR q r = p := ⟨_, rfl⟩
      obtain ⟨⟨m, d2⟩, hm⟩ : ∃ p, meetR r r = p := ⟨_, rfl⟩
      have HO := Lib.hid ho
      have HM := Lib.hid hm
      rw [ho] at hmc
      rw [hm] at hms
      simp only at hmc hms
      have EO := Lib.hid hmc
      have EM := Lib.hid hms
      have HG := Lib.hid hget
      have LX := Lib.hid lx
      have LQ := Lib.hid lq
      clear ho hm hmc hms hget lx lq
      obtain ⟨ra0, ra1, ra2⟩ := RA.out.c3
      have ra3 := RA.out.lt
      obtain ⟨rc0, rc1, rc2⟩ := RC.out.c3
      have rc3 := RC.out.lt
      go_wp2_with (fail)
      clear ra0 ra1 ra2 ra3 rc0 rc1 rc2 rc3
      refine (RegionMeet_is _ _ q r _ ?_ ?_ _ _ HO.out).mono ?_
      · exact RC.out.v
      · exact RA.out.v
      rintro e w5 ⟨v, rfl, hv, hb⟩
      obtain ⟨pRO, nRO, rfl, hbl, _, _⟩ := hv.opened
      clear hv
      have RA := Lib.hid (RA.out.on hb)
      have RC := Lib.hid (RC.out.on hb)
      have RX := Lib.hid (RX.out.on hb)
      have RY := Lib.hid (RY.out.on hb)
      have BW := Lib.hid (BW.out.trans (hb.mono BW.out.size))
      clear hb
      obtain ⟨ra0, ra1, ra2⟩ := RA.out.c3
      have ra3 := RA.out.lt
      go_wp2_with (fail)
      clear ra0 ra1 ra2 ra3
      obtain ⟨W5, hW5⟩ : ∃ W, W = w5.alloc (.cells #[.int .i64 o.wide, .int .i64 o.tall, .slice pRO o.cells.length nRO] 25) := ⟨_, rfl⟩
      have RO := RB.new hbl
      have hbW5 := below_alloc w5 (.cells #[.int .i64 o.wide, .int .i64 o.tall, .slice pRO o.cells.length nRO] 25)
      rw [← hW5] at RO hbW5 ⊢
      have RO := Lib.hid RO
      have RA := Lib.hid (RA.out.on hbW5)
      have RC := Lib.hid (RC.out.on hbW5)
      have RX := Lib.hid (RX.out.on hbW5)
      have RY := Lib.hid (RY.out.on hbW5)
      have BW := Lib.hid (BW.out.trans (hbW5.mono BW.out.size))
      clear hbW5
      clear hbl hW5
      refine (RegionMeet_is _ _ r r _ ?_ ?_ _ _ HM.out).mono ?_
      · exact RA.out.v
      · exact RA.out.v
      rintro e w6 ⟨v, rfl, hv, hb⟩
      obtain ⟨pRM, nRM, rfl, hbl, _, _⟩ := hv.opened
      clear hv
      have RA := Lib.hid (RA.out.on hb)
      have RC := Lib.hid (RC.out.on hb)
      have RX := Lib.hid (RX.out.on hb)
      have RY := Lib.hid (RY.out.on hb)
      have RO := Lib.hid (RO.out.on hb)
      have BW := Lib.hid (BW.out.trans (hb.mono BW.out.size))
      clear hb
      obtain ⟨rx0, rx1, rx2⟩ := RX.out.c3
      have rx3 := RX.out.lt
      go_wp2_with (fail)
      clear rx0 rx1 rx2 rx3
      obtain ⟨W6, hW6⟩ : ∃ W, W = w6.alloc (.cells #[.int .i64 m.wide, .int .i64 m.tall, .slice pRM m.cells.length nRM] 25) := ⟨_, rfl⟩
      have RM := RB.new hbl
      have hbW6 := below_alloc w6 (.cells #[.int .i64 m.wide, .int .i64 m.tall, .slice pRM m.cells.length nRM] 25)
      rw [← hW6] at RM hbW6 ⊢
      have RM := Lib.hid RM
      have RA := Lib.hid (RA.out.on hbW6)
      have RC := Lib.hid (RC.out.on hbW6)
      have RX := Lib.hid (RX.out.on hbW6)
      have RY := Lib.hid (RY.out.on hbW6)
      have RO := Lib.hid (RO.out.on hbW6)
      have BW := Lib.hid (BW.out.trans (hbW6.mono BW.out.size))
      clear hbW6
      clear hbl hW6
      have EO := Lib.hid (decide_eq_true EO.out)
      have EM := Lib.hid (decide_eq_true EM.out)
      have lx36 : x.cells.length ≤ 36 := by
        obtain ⟨v1, v2, v3, _⟩ := Reg.valid_iff.1 vr
        have := area_in v1 v2
        have := LX.out
        omega
      go_loopw [13] (fun i wr => ∃ k : Nat, i = .int .i64 k ∧ k ≤ x.cells.length ∧ Below W6.heap.size W6 wr) (fun i _ => x.cells.length - (intOf i).toNat)
      case atStart => exact ⟨0, rfl, by omega, Below.refl _ _⟩
      case round =>
        obtain ⟨k, rfl, hk, hb⟩ := hrel
        have RX := Lib.hid (RX.out.on hb)
        have RA := Lib.hid (RA.out.on hb)
        have RC := Lib.hid (RC.out.on hb)
        obtain ⟨x0, x1, x2⟩ := RX.out.c3
        have x3 := RX.out.lt
        by_cases hlt : k < x.cells.length
        · obtain ⟨r0, r1, r2⟩ := RA.out.c3
          obtain ⟨q0, q1, q2⟩ := RC.out.c3
          have r3 := RA.out.lt
          have q3 := RC.out.lt
          obtain ⟨_, t1, t2, bx, ox, rfl, lx, cx⟩ := bl_cell RX.out.bl hlt
          obtain ⟨_, t3, t4, br, or_, rfl, lr, cr⟩ := bl_cell RA.out.bl (k := k) (by have := LX.out; omega)
          obtain ⟨_, t5, t6, bq, oq, rfl, lq, cq⟩ := bl_cell RC.out.bl (k := k) (by have := LX.out; have := LQ.out; omega)
          rw [HG.out k (by have := LX.out; omega)] at cx
          have hka : k < r.cells.length := by have := LX.out; omega
          have hkb : k < q.cells.length := by have := LX.out; have := LQ.out; omega
          have HB := Lib.hid hb
          clear hb
          generalize r.cells.getD k false = A at *
          generalize q.cells.getD k false = B at *
          have hLc : ∀ (L : Later wr) (b o : Nat), b < wr.heap.size → L.x.cell? ⟨b, o, none⟩ = wr.cell? ⟨b, o, none⟩ := Later.cell
          have hLf : ∀ (L : Later wr) (b o : Nat), b < wr.heap.size → L.x.frozen? ⟨b, o, none⟩ = wr.frozen? ⟨b, o, none⟩ := Later.frozen
          cases A <;> cases B
          all_goals
            go_wp2_with (fail)
            refine wp_region_later_all (by kernel_rfl) (by kernel_rfl) ?_
            repeat (go_big_quiet_step (fail))
            refine wpQuiet_nil ?_
            intro L
            go_wp2
            go_roundw
            case rel => exact ⟨k + 1, by go_num, by omega, HB.out.trans (L.h.mono HB.out.size)⟩
            case measure => simp [intOf]; omega
        · have BW := Lib.hid (BW.out.trans (hb.mono BW.out.size))
          have RO := Lib.hid (RO.out.on hb)
          have RM := Lib.hid (RM.out.on hb)
          clear hb
          obtain ⟨o0, o1, o2⟩ := RO.out.c3
          have o3 := RO.out.lt
          go_wp2_with (fail)
          refine (sameRegion_is _ _ o x true _ RO.out.v RX.out.v EO.out).mono ?_
          rintro e w7 ⟨rfl, hb⟩
          have BW := Lib.hid (BW.out.trans (hb.mono BW.out.size))
          have RA := Lib.hid (RA.out.on hb)
          have RM := Lib.hid (RM.out.on hb)
          clear hb x0 x1 x2 x3 o0 o1 o2 o3
          obtain ⟨a0, a1, a2⟩ := RA.out.c3
          obtain ⟨m0, m1, m2⟩ := RM.out.c3
          have a3 := RA.out.lt
          have m3 := RM.out.lt
          go_wp2_with (fail)
          refine (sameRegion_is _ _ m r true _ RM.out.v RA.out.v EM.out).mono ?_
          rintro e w8 ⟨rfl, hb⟩
          have BW := Lib.hid (BW.out.trans (hb.mono BW.out.size))
          clear hb a0 a1 a2 a3 m0 m1 m2 m3
          go_wp2
          go_ret
          exact ⟨rfl, BW.out⟩

set_option maxRecDepth 100000 in
set_option maxHeartbeats 2000000 in
theorem FnRegionJoin_walk (v : Value) (ys : List Int) (w : World) (h : Yl w v ys) (hr : ∀ i, i < ys.length → 0 ≤ ys.getD i 0 ∧ ys.getD i 0 ≤ 255) :
    Calls Try.prog 6 #[v] w (Ret (.bool true) w) := by
  have H := Lib.hid h
  have Hr := Lib.hid hr
  obtain ⟨a0, cap0, rfl, hlc0, hcm0, _⟩ := h.opened
  clear h hr
  by_cases hlen : (1048576 : Int) < (ys.length : Int)
  · go_enter Try.func6, Try.ntmps6
    go_wp2
    go_ret
    exact ⟨rfl, Below.refl _ _⟩
  · go_enter Try.func6, Try.ntmps6
    go_wp2_with (fail)
    refine (DrawRegionJoin_any _ ys w H.out Hr.out).mono ?_
    rintro e w1 ⟨s, u, r, q, rfl, hs, hu, -, -, hb1⟩
    obtain ⟨p1, n1, rfl, _, _, _⟩ := hs.opened
    obtain ⟨p2, n2, rfl, _, _, _⟩ := hu.opened
    have BW := Lib.hid hb1
    obtain ⟨⟨x, c⟩, hx⟩ : ∃ p, joinR r q = p := ⟨_, rfl⟩
    have HX := Lib.hid hx
    clear hb1 hx
    go_wp2_with (fail)
    obtain ⟨W1, hW1⟩ : ∃ W, W = (w1.alloc (.cells #[.int .i64 r.wide, .int .i64 r.tall, .slice p1 r.cells.length n1] 25)).alloc (.cells #[.int .i64 q.wide, .int .i64 q.tall, .slice p2 q.cells.length n2] 25) := ⟨_, rfl⟩
    have RA : RB W1 w1.heap.size r (.slice p1 r.cells.length n1) := by rw [hW1]; exact (RB.new hs).on (below_alloc _ _)
    have RC : RB W1 (w1.heap.size + 1) q (.slice p2 q.cells.length n2) := by
      have := RB.new (hu.below (below_alloc w1 (.cells #[.int .i64 r.wide, .int .i64 r.tall, .slice p1 r.cells.length n1] 25)))
      rw [hW1]; simpa using this
    have hbW1 : Below w1.heap.size w1 W1 := by rw [hW1]; go_grown
    rw [← hW1]
    have RA := Lib.hid RA
    have RC := Lib.hid RC
    have BW := Lib.hid (BW.out.trans (hbW1.mono BW.out.size))
    have sA := RA.out.lt
    clear hs hu hbW1 hW1
    refine (RegionJoin_is _ _ r q _ ?_ ?_ _ _ HX.out).mono ?_
    · exact RA.out.v
    · exact RC.out.v
    rintro e w2 ⟨v, rfl, hv, hb⟩
    obtain ⟨pRX, nRX, rfl, hbl, _, _⟩ := hv.opened
    clear hv
    have RA := Lib.hid (RA.out.on hb)
    have RC := Lib.hid (RC.out.on hb)
    have BW := Lib.hid (BW.out.trans (hb.mono BW.out.size))
    clear hb
    obtain ⟨ra0, ra1, ra2⟩ := RA.out.c3
    have ra3 := RA.out.lt
    obtain ⟨rc0, rc1, rc2⟩ := RC.out.c3
    have rc3 := RC.out.lt
    go_wp2_with (fail)
    clear ra0 ra1 ra2 ra3 rc0 rc1 rc2 rc3
    obtain ⟨W2, hW2⟩ : ∃ W, W = w2.alloc (.cells #[.int .i64 x.wide, .int .i64 x.tall, .slice pRX x.cells.length nRX] 25) := ⟨_, rfl⟩
    have RX := RB.new hbl
    have hbW2 := below_alloc w2 (.cells #[.int .i64 x.wide, .int .i64 x.tall, .slice pRX x.cells.length nRX] 25)
    rw [← hW2] at RX hbW2 ⊢
    have RX := Lib.hid RX
    have RA := Lib.hid (RA.out.on hbW2)
    have RC := Lib.hid (RC.out.on hbW2)
    have BW := Lib.hid (BW.out.trans (hbW2.mono BW.out.size))
    clear hbW2
    clear hbl hW2
    refine (sRegionJoin_is _ _ r q _ ?_ ?_ _ _ HX.out).mono ?_
    · exact RA.out.v
    · exact RC.out.v
    rintro e w3 ⟨v, rfl, hv, hb⟩
    obtain ⟨pRY, nRY, rfl, hbl, _, _⟩ := hv.opened
    clear hv
    have RA := Lib.hid (RA.out.on hb)
    have RC := Lib.hid (RC.out.on hb)
    have RX := Lib.hid (RX.out.on hb)
    have BW := Lib.hid (BW.out.trans (hb.mono BW.out.size))
    clear hb
    obtain ⟨rx0, rx1, rx2⟩ := RX.out.c3
    have rx3 := RX.out.lt
    go_wp2_with (fail)
    clear rx0 rx1 rx2 rx3
    obtain ⟨W3, hW3⟩ : ∃ W, W = w3.alloc (.cells #[.int .i64 x.wide, .int .i64 x.tall, .slice pRY x.cells.length nRY] 25) := ⟨_, rfl⟩
    have RY := RB.new hbl
    have hbW3 := below_alloc w3 (.cells #[.int .i64 x.wide, .int .i64 x.tall, .slice pRY x.cells.length nRY] 25)
    rw [← hW3] at RY hbW3 ⊢
    have RY := Lib.hid RY
    have RA := Lib.hid (RA.out.on hbW3)
    have RC := Lib.hid (RC.out.on hbW3)
    have RX := Lib.hid (RX.out.on hbW3)
    have BW := Lib.hid (BW.out.trans (hbW3.mono BW.out.size))
    clear hbW3
    clear hbl hW3
    refine (sameRegion_is _ _ x x true _ ?_ ?_ (by simp)).mono ?_
    · exact RX.out.v
    · exact RY.out.v
    rintro e w4 ⟨rfl, hb⟩
    have RA := Lib.hid (RA.out.on hb)
    have RC := Lib.hid (RC.out.on hb)
    have RX := Lib.hid (RX.out.on hb)
    have RY := Lib.hid (RY.out.on hb)
    have BW := Lib.hid (BW.out.trans (hb.mono BW.out.size))
    clear hb
    have hcc : (c != c) = false := by simp
    cases hc : c
    · skip
      have hz : (x.wide == 0) = true := by
        have := join_no (a := r) (b := q); rw [HX.out] at this; simpa using this hc
      subst hc
      obtain ⟨rx0, rx1, rx2⟩ := RX.out.c3
      have rx3 := RX.out.lt
      go_wp2_with (fail)
      refine (alive_any _).mono ?_
      rintro e w7 ⟨rfl, hb⟩
      have BW := Lib.hid (BW.out.trans (hb.mono BW.out.size))
      clear hb
      clear rx0 rx1 rx2 rx3
      go_wp2
      go_ret
      exact ⟨rfl, BW.out⟩
    · skip
      subst hc
      obtain ⟨j1, j2, j3⟩ := join_meet (a := r) (b := q) (by rw [HX.out])
      obtain ⟨⟨m, d⟩, hm⟩ : ∃ p, meetR r q = p := ⟨_, rfl⟩
      rw [hm, HX.out] at j2
      rw [hm] at j1 j3
      simp only at j1 j2 j3
      subst j1
      obtain ⟨⟨k, d2⟩, hk⟩ : ∃ p, joinR r m = p := ⟨_, rfl⟩
      rw [hk] at j3
      simp only at j3
      have HM := Lib.hid hm
      have HK := Lib.hid hk
      have J2 := Lib.hid j2
      have J3 := Lib.hid j3
      clear hm hk j2 j3
      obtain ⟨ra0, ra1, ra2⟩ := RA.out.c3
      have ra3 := RA.out.lt
      obtain ⟨rc0, rc1, rc2⟩ := RC.out.c3
      have rc3 := RC.out.lt
      go_wp2_with (fail)
      clear ra0 ra1 ra2 ra3 rc0 rc1 rc2 rc3
      refine (RegionMeet_is _ _ r q _ ?_ ?_ _ _ HM.out).mono ?_
      · exact RA.out.v
      · exact RC.out.v
      rintro e w5 ⟨v, rfl, hv, hb⟩
      obtain ⟨pRO, nRO, rfl, hbl, _, _⟩ := hv.opened
      clear hv
      have RA := Lib.hid (RA.out.on hb)
      have RC := Lib.hid (RC.out.on hb)
      have RX := Lib.hid (RX.out.on hb)
      have RY := Lib.hid (RY.out.on hb)
      have BW := Lib.hid (BW.out.trans (hb.mono BW.out.size))
      clear hb
      obtain ⟨ra0, ra1, ra2⟩ := RA.out.c3
      have ra3 := RA.out.lt
      go_wp2_with (fail)
      clear ra0 ra1 ra2 ra3
      obtain ⟨W5, hW5⟩ : ∃ W, W = w5.alloc (.cells #[.int .i64 m.wide, .int .i64 m.tall, .slice pRO m.cells.length nRO] 25) := ⟨_, rfl⟩
      have RO := RB.new hbl
      have hbW5 := below_alloc w5 (.cells #[.int .i64 m.wide, .int .i64 m.tall, .slice pRO m.cells.length nRO] 25)
      rw [← hW5] at RO hbW5 ⊢
      have RO := Lib.hid RO
      have RA := Lib.hid (RA.out.on hbW5)
      have RC := Lib.hid (RC.out.on hbW5)
      have RX := Lib.hid (RX.out.on hbW5)
      have RY := Lib.hid (RY.out.on hbW5)
      have BW := Lib.hid (BW.out.trans (hbW5.mono BW.out.size))
      clear hbW5
      clear hbl hW5
      refine (RegionJoin_is _ _ r m _ ?_ ?_ _ _ HK.out).mono ?_
      · exact RA.out.v
      · exact RO.out.v
      rintro e w6 ⟨v, rfl, hv, hb⟩
      obtain ⟨pRM, nRM, rfl, hbl, _, _⟩ := hv.opened
      clear hv
      have RA := Lib.hid (RA.out.on hb)
      have RC := Lib.hid (RC.out.on hb)
      have RX := Lib.hid (RX.out.on hb)
      have RY := Lib.hid (RY.out.on hb)
      have RO := Lib.hid (RO.out.on hb)
      have BW := Lib.hid (BW.out.trans (hb.mono BW.out.size))
      clear hb
      go_wp2_with (fail)
      obtain ⟨W6, hW6⟩ : ∃ W, W = w6.alloc (.cells #[.int .i64 k.wide, .int .i64 k.tall, .slice pRM k.cells.length nRM] 25) := ⟨_, rfl⟩
      have RM := RB.new hbl
      have hbW6 := below_alloc w6 (.cells #[.int .i64 k.wide, .int .i64 k.tall, .slice pRM k.cells.length nRM] 25)
      rw [← hW6] at RM hbW6 ⊢
      have RM := Lib.hid RM
      have RA := Lib.hid (RA.out.on hbW6)
      have RC := Lib.hid (RC.out.on hbW6)
      have RX := Lib.hid (RX.out.on hbW6)
      have RY := Lib.hid (RY.out.on hbW6)
      have RO := Lib.hid (RO.out.on hbW6)
      have BW := Lib.hid (BW.out.trans (hbW6.mono BW.out.size))
      clear hbW6
      clear hbl hW6
      have J3 := Lib.hid (decide_eq_true J3.out)
      obtain ⟨rx0, rx1, rx2⟩ := RX.out.c3
      have rx3 := RX.out.lt
      obtain ⟨ro0, ro1, ro2⟩ := RO.out.c3
      have ro3 := RO.out.lt
      obtain ⟨ra0, ra1, ra2⟩ := RA.out.c3
      have ra3 := RA.out.lt
      obtain ⟨rc0, rc1, rc2⟩ := RC.out.c3
      have rc3 := RC.out.lt
      obtain ⟨rm0, rm1, rm2⟩ := RM.out.c3
      have rm3 := RM.out.lt
      have wr1 : ∃ S, IntKind.i64.wrap (x.many + m.many) = S ∧ IntKind.i64.wrap (r.many + q.many) = S := ⟨_, rfl, by rw [J2.out]⟩
      obtain ⟨S, wr1, wr2⟩ := wr1
      have b1 := many_bd x
      have b2 := many_bd m
      have b3 := many_bd r
      have b4 := many_bd q
      have J2' : x.many + m.many = r.many + q.many := J2.out
      have hLc : ∀ (L : Later W6) (b o : Nat), b < W6.heap.size → L.x.cell? ⟨b, o, none⟩ = W6.cell? ⟨b, o, none⟩ := Later.cell
      have hLf : ∀ (L : Later W6) (b o : Nat), b < W6.heap.size → L.x.frozen? ⟨b, o, none⟩ = W6.frozen? ⟨b, o, none⟩ := Later.frozen
      refine wp_region_later_all (by kernel_rfl) (by kernel_rfl) ?_
      repeat (go_big_quiet_step (first | with_reducible exact cells_later _ RX.out | with_reducible exact cells_later _ RO.out | with_reducible exact cells_later _ RA.out | with_reducible exact cells_later _ RC.out | with_reducible exact same_later _ RM.out RA.out J3.out))
      refine wpQuiet_nil ?_
      intro L
      go_wp2
      go_ret
      exact ⟨rfl, BW.out.trans (L.h.mono BW.out.size)⟩

end Go.Proofs.Ytedccoimdkehgaa
