/- Walks: flips of the reference. -/
import Derived.Test.YtcagpfnlpjfgeaaVWone
import Derived.Test.YtcagpfnlpjfgeaaVWj
import Derived.Test.YtcagpfnlpjfgeaaVWg
import Derived.Test.YtcagpfnlpjfgeaaVWflip
set_option linter.unusedVariables false
namespace Go.Proofs.Ytcagpfnlpjfgeaa
open Go.RowKit Domi

theorem l1At_is (v : Value) (r : Reg) (x y : Int) (w : World) (h : RegV w v r) (hv : r.valid = true) (hx : -100 ≤ x ∧ x ≤ 100) (hy : -100 ≤ y ∧ y ≤ 100) (b : Bool) (hb : r.at_ x y = b) :
    Calls Try.prog 115 #[v, .int .i64 x, .int .i64 y] w (Ret (.bool b) w) := by rw [← hb]; exact l1At_any v r x y w h hv hx hy
set_option maxHeartbeats 400000 in
theorem sCornerMany_any (v : Value) (r : Reg) (w : World) (h : RegV w v r) (hv : r.valid = true) : Calls Try.prog 90 #[v] w (Ret (.int .i64 (corners r)) w) := by
  obtain ⟨v1, v2, _, _⟩ := Reg.valid_iff.1 hv
  have hbd := corners_bd hv
  unfold corners at hbd
  obtain ⟨a, cap, rfl, hs, hlc, hcm⟩ := h.opened
  have R0 := Lib.hid (RB.new hs)
  have B0 := Lib.hid (below_alloc w (.cells #[.int .i64 r.wide, .int .i64 r.tall, .slice a r.cells.length cap] 25))
  clear h hs
  go_enter Try.func90, Try.ntmps90
  go_wp2_with (fail)
  refine (sRegionValid_is _ r _ R0.out.v true hv).mono ?_
  rintro e w1 ⟨rfl, hb⟩
  have R1 := Lib.hid (R0.out.on hb)
  have B1 := Lib.hid (B0.out.trans (hb.mono B0.out.size))
  clear hb R0
  obtain ⟨x0, x1, x2⟩ := R1.out.c3
  go_wp2
  go_ret
  exact ⟨ret_int rfl, B1.out⟩
set_option maxHeartbeats 400000 in
theorem sCornerMany_no (v : Value) (r : Reg) (w : World) (h : RegV w v r) (hv : r.valid = false) : Calls Try.prog 90 #[v] w (Ret (.int .i64 (-1)) w) := by
  obtain ⟨a, cap, rfl, hs, hlc, hcm⟩ := h.opened
  have R0 := Lib.hid (RB.new hs)
  have B0 := Lib.hid (below_alloc w (.cells #[.int .i64 r.wide, .int .i64 r.tall, .slice a r.cells.length cap] 25))
  clear h hs
  go_enter Try.func90, Try.ntmps90
  go_wp2_with (fail)
  refine (sRegionValid_is _ r _ R0.out.v false hv).mono ?_
  rintro e w1 ⟨rfl, hb⟩
  have B1 := Lib.hid (B0.out.trans (hb.mono B0.out.size))
  clear hb R0
  go_wp2
  go_ret
  exact ⟨rfl, B1.out⟩

theorem arOk_in {r : Reg} {c : Int} (hv : r.valid = true) (h : arOk r c = true) : inB c 0 (corners r - 1) = true := by
  obtain ⟨v1, v2, _, _⟩ := Reg.valid_iff.1 hv
  unfold arOk at h
  simp only [Bool.and_eq_true, decide_eq_true_eq, inB_iff] at h
  obtain ⟨h0, ⟨h1, h2⟩, h3, h4⟩ := h
  have := xy_lt (w := r.wide + 1) (t := r.tall + 1) (x := c % (r.wide + 1)) (y := c / (r.wide + 1)) (by omega) (by omega) (by omega) (by omega)
  rw [of_xy (by omega)] at this
  rw [inB_iff]
  unfold corners
  omega
def sqAt (r : Reg) (c : Int) : Bool := r.at_ (c % (r.wide + 1) - 1) (c / (r.wide + 1) - 1) && (r.at_ (c % (r.wide + 1)) (c / (r.wide + 1) - 1) && (r.at_ (c % (r.wide + 1) - 1) (c / (r.wide + 1)) && r.at_ (c % (r.wide + 1)) (c / (r.wide + 1))))
theorem sqAt_no {r : Reg} {L : List Int} {c : Int} (hk : laidOk r L = true) (h : sqAt r c = false) : canFl r L c = false := by
  cases hc : canFl r L c
  · rfl
  · have hs := canFl_sq (c := c) hk
    rw [hc, Bool.and_true] at hs
    unfold sqOk at hs
    have har := canFl_ar hc
    obtain ⟨hv, hlen, _⟩ := laidOk_iff.1 hk
    obtain ⟨v1, v2, v3, _⟩ := Reg.valid_iff.1 hv
    have har' := har
    unfold arOk at har
    simp only [Bool.and_eq_true, decide_eq_true_eq, inB_iff] at har hs
    obtain ⟨h0, ⟨h1, h2⟩, h3, h4⟩ := har
    obtain ⟨_, f1, f2, f3, f4⟩ := hs
    have hat : ∀ x y : Int, 0 ≤ x ∧ x ≤ r.wide - 1 → 0 ≤ y ∧ y ≤ r.tall - 1 → ∀ k, y * r.wide + x = k → r.f k.toNat = true → r.at_ x y = true := by
      intro x y hx hy k hk hf
      unfold Reg.at_
      rw [inB_iff.2 hx, inB_iff.2 hy, Bool.true_and, Bool.true_and]
      unfold Reg.g
      rw [hk]; exact hf
    have eb : arB r c = (c / (r.wide + 1) - 1) * r.wide + (c % (r.wide + 1) - 1) := by unfold arB; omega
    have em : (c / (r.wide + 1) - 1) * r.wide = c / (r.wide + 1) * r.wide - r.wide := by rw [Int.sub_mul, Int.one_mul]
    unfold sqAt at h
    rw [hat _ _ (by omega) (by omega) _ eb.symm f1, hat _ _ (by omega) (by omega) (arB r c + 1) (by omega) f2, hat _ _ (by omega) (by omega) (arB r c + r.wide) (by omega) f3, hat _ _ (by omega) (by omega) (arB r c + r.wide + 1) (by omega) f4] at h
    cases h
theorem sqAt_ar {r : Reg} {c : Int} (h0 : 0 ≤ c) (h : sqAt r c = true) : arOk r c = true := by
  unfold sqAt at h
  simp only [Bool.and_eq_true] at h
  obtain ⟨h1, _, _, h4⟩ := h
  unfold Reg.at_ at h1 h4
  simp only [Bool.and_eq_true, inB_iff] at h1 h4
  unfold arOk
  simp only [Bool.and_eq_true, decide_eq_true_eq, inB_iff]
  omega
/-- What the reference's square is. -/
def sqV (r : Reg) (c : Int) : Value := if sqAt r c then .tuple #[.int .i64 (arB r c), .int .i64 (arB r c + 1), .int .i64 (arB r c + r.wide), .int .i64 (arB r c + r.wide + 1), .bool true] else .tuple #[.int .i64 0, .int .i64 0, .int .i64 0, .int .i64 0, .bool false]
theorem sqV_no {r : Reg} {c : Int} (h : sqAt r c = false) : sqV r c = .tuple #[.int .i64 0, .int .i64 0, .int .i64 0, .int .i64 0, .bool false] := by unfold sqV; rw [h]; rfl
theorem sqV_yes {r : Reg} {c : Int} (h : sqAt r c = true) : sqV r c = .tuple #[.int .i64 (arB r c), .int .i64 (arB r c + 1), .int .i64 (arB r c + r.wide), .int .i64 (arB r c + r.wide + 1), .bool true] := by unfold sqV; rw [h]; rfl
set_option maxRecDepth 100000 in
set_option maxHeartbeats 2000000 in
theorem l5Square_any (v : Value) (r : Reg) (c : Int) (w : World) (h : RegV w v r) (hv : r.valid = true) (hc : inB c 0 (corners r - 1) = true) :
    Calls Try.prog 91 #[v, .int .i64 c] w (Ret (sqV r c) w) := by
  obtain ⟨v1, v2, _, _⟩ := Reg.valid_iff.1 hv
  have hc' := inB_iff.1 hc
  have hb := corners_bd hv
  have m1 := Int.emod_nonneg c (b := r.wide + 1) (by omega)
  have m2 := Int.emod_lt_of_pos c (b := r.wide + 1) (by omega)
  have m3 := Int.ediv_nonneg (a := c) (b := r.wide + 1) (by omega) (by omega)
  have m4 : c / (r.wide + 1) ≤ r.tall := by
    have := div_lt_of (c := c) (w := r.wide + 1) (t := r.tall + 1) (by omega) (by unfold corners at hc'; omega)
    omega
  have h0 : 0 ≤ c := hc'.1
  have hc48 : c ≤ 48 := by omega
  obtain ⟨a, cap, rfl, hs, hlc, hcm⟩ := h.opened
  have R0 := Lib.hid (RB.new hs)
  have B0 := Lib.hid (below_alloc w (.cells #[.int .i64 r.wide, .int .i64 r.tall, .slice a r.cells.length cap] 25))
  have HV := Lib.hid hv
  obtain ⟨V, hV⟩ : ∃ V, sqV r c = V := ⟨_, rfl⟩
  rw [hV]
  have HVV := Lib.hid hV
  clear h hs hc hc' hb hV hv
  go_enter Try.func91, Try.ntmps91
  go_wp2_with (fail)
  cases hb1 : r.at_ (c % (r.wide + 1) - 1) (c / (r.wide + 1) - 1)
  · refine (l1At_is _ r _ _ _ R0.out.v HV.out (by omega) (by omega) false hb1).mono ?_
    rintro e w1 ⟨rfl, hb⟩
    have R1 := Lib.hid (R0.out.on hb)
    have B1 := Lib.hid (B0.out.trans (hb.mono B0.out.size))
    have E : Hid (sqAt r c = false) := Lib.hid (by unfold sqAt; rw [hb1]; simp)
    clear hb R0 hb1
    obtain ⟨x0, x1, x2⟩ := R1.out.c3
    go_wp2
    exact bodyPost_ret (by simp [results, Try.results91, go_sem]; rfl) rfl ⟨by rw [← HVV.out, sqV_no E.out], B1.out⟩
  refine (l1At_is _ r _ _ _ R0.out.v HV.out (by omega) (by omega) true hb1).mono ?_
  rintro e w1 ⟨rfl, hb⟩
  have R1 := Lib.hid (R0.out.on hb)
  have B1 := Lib.hid (B0.out.trans (hb.mono B0.out.size))
  clear hb R0
  obtain ⟨x0, x1, x2⟩ := R1.out.c3
  go_wp2_with (fail)
  cases hb2 : r.at_ (c % (r.wide + 1)) (c / (r.wide + 1) - 1)
  · refine (l1At_is _ r _ _ _ R1.out.v HV.out (by omega) (by omega) false hb2).mono ?_
    rintro e w2 ⟨rfl, hb⟩
    have R2 := Lib.hid (R1.out.on hb)
    have B2 := Lib.hid (B1.out.trans (hb.mono B1.out.size))
    have E : Hid (sqAt r c = false) := Lib.hid (by unfold sqAt; rw [hb2]; simp)
    clear hb R1 x0 x1 x2 hb1 hb2
    obtain ⟨x0, x1, x2⟩ := R2.out.c3
    go_wp2
    exact bodyPost_ret (by simp [results, Try.results91, go_sem]; rfl) rfl ⟨by rw [← HVV.out, sqV_no E.out], B2.out⟩
  refine (l1At_is _ r _ _ _ R1.out.v HV.out (by omega) (by omega) true hb2).mono ?_
  rintro e w2 ⟨rfl, hb⟩
  have R2 := Lib.hid (R1.out.on hb)
  have B2 := Lib.hid (B1.out.trans (hb.mono B1.out.size))
  clear hb R1 x0 x1 x2
  obtain ⟨x0, x1, x2⟩ := R2.out.c3
  go_wp2_with (fail)
  cases hb3 : r.at_ (c % (r.wide + 1) - 1) (c / (r.wide + 1))
  · refine (l1At_is _ r _ _ _ R2.out.v HV.out (by omega) (by omega) false hb3).mono ?_
    rintro e w3 ⟨rfl, hb⟩
    have R3 := Lib.hid (R2.out.on hb)
    have B3 := Lib.hid (B2.out.trans (hb.mono B2.out.size))
    have E : Hid (sqAt r c = false) := Lib.hid (by unfold sqAt; rw [hb3]; simp)
    clear hb R2 x0 x1 x2 hb1 hb2 hb3
    obtain ⟨x0, x1, x2⟩ := R3.out.c3
    go_wp2
    exact bodyPost_ret (by simp [results, Try.results91, go_sem]; rfl) rfl ⟨by rw [← HVV.out, sqV_no E.out], B3.out⟩
  refine (l1At_is _ r _ _ _ R2.out.v HV.out (by omega) (by omega) true hb3).mono ?_
  rintro e w3 ⟨rfl, hb⟩
  have R3 := Lib.hid (R2.out.on hb)
  have B3 := Lib.hid (B2.out.trans (hb.mono B2.out.size))
  clear hb R2 x0 x1 x2
  obtain ⟨x0, x1, x2⟩ := R3.out.c3
  go_wp2_with (fail)
  cases hb4 : r.at_ (c % (r.wide + 1)) (c / (r.wide + 1))
  · refine (l1At_is _ r _ _ _ R3.out.v HV.out (by omega) (by omega) false hb4).mono ?_
    rintro e w4 ⟨rfl, hb⟩
    have R4 := Lib.hid (R3.out.on hb)
    have B4 := Lib.hid (B3.out.trans (hb.mono B3.out.size))
    have E : Hid (sqAt r c = false) := Lib.hid (by unfold sqAt; rw [hb4]; simp)
    clear hb R3 x0 x1 x2 hb1 hb2 hb3 hb4
    obtain ⟨x0, x1, x2⟩ := R4.out.c3
    go_wp2
    exact bodyPost_ret (by simp [results, Try.results91, go_sem]; rfl) rfl ⟨by rw [← HVV.out, sqV_no E.out], B4.out⟩
  refine (l1At_is _ r _ _ _ R3.out.v HV.out (by omega) (by omega) true hb4).mono ?_
  rintro e w4 ⟨rfl, hb⟩
  have R4 := Lib.hid (R3.out.on hb)
  have B4 := Lib.hid (B3.out.trans (hb.mono B3.out.size))
  clear hb R3 x0 x1 x2
  have E : Hid (sqAt r c = true) := Lib.hid (by unfold sqAt; rw [hb1, hb2, hb3, hb4]; rfl)
  have har := sqAt_ar h0 E.out
  unfold arOk at har
  simp only [Bool.and_eq_true] at har
  obtain ⟨p1, p2⟩ := arB_bd HV.out har.2.1 har.2.2
  rw [sqV_yes E.out] at HVV
  unfold arB at p2 HVV
  clear har hb1 hb2 hb3 hb4
  obtain ⟨x0, x1, x2⟩ := R4.out.c3
  go_wp2
  go_quiet (fail)
  go_wp2
  exact bodyPost_ret (by simp [results, Try.results91, go_sem]; rfl) rfl ⟨by rw [← HVV.out, Int.sub_add_cancel], bel_dn B4.out _⟩

set_option maxRecDepth 100000 in
set_option maxHeartbeats 2000000 in
theorem sFlipMay_any (v u : Value) (r : Reg) (L : List Int) (c : Int) (w : World) (h : RegV w v r) (hu : Il w u L) (_ : -9223372036854775808 ≤ c ∧ c ≤ 9223372036854775807)
    (b : Bool) (hb : flipMay r L c = b) : Calls Try.prog 43 #[v, u, .int .i64 c] w (Ret (.bool b) w) := by
  obtain ⟨a, cap, rfl, hs, hlc, hcm⟩ := h.opened
  have R0 := Lib.hid (RB.new hs)
  have B0 := Lib.hid (below_alloc w (.cells #[.int .i64 r.wide, .int .i64 r.tall, .slice a r.cells.length cap] 25))
  have HU := Lib.hid hu
  have HB := Lib.hid hb
  clear h hs hu hb
  go_enter Try.func43, Try.ntmps43
  go_wp2_with (fail)
  cases hk : laidOk r L
  · refine (sLaidOk_is _ _ r L _ R0.out.v (HU.out.below B0.out) false hk).mono ?_
    rintro e w1 ⟨rfl, hb⟩
    have B1 := Lib.hid (B0.out.trans (hb.mono B0.out.size))
    have E : Hid (b = false) := Lib.hid (by rw [← HB.out]; unfold flipMay; rw [hk]; rfl)
    clear hb
    go_wp2
    go_ret
    exact ⟨ret_bool E.out.symm, B1.out⟩
  refine (sLaidOk_is _ _ r L _ R0.out.v (HU.out.below B0.out) true hk).mono ?_
  rintro e w1 ⟨rfl, hb⟩
  have R1 := Lib.hid (R0.out.on hb)
  have B1 := Lib.hid (B0.out.trans (hb.mono B0.out.size))
  obtain ⟨hv, hlen, _⟩ := laidOk_iff.1 hk
  obtain ⟨v1, v2, v3, _⟩ := Reg.valid_iff.1 hv
  have hA := area_in v1 v2
  have hl1 : 0 < L.length := by omega
  have HN := Lib.hid hlen
  have HV := Lib.hid hv
  have HK := Lib.hid hk
  have hbd := corners_bd hv
  have E : Hid (b = canFl r L c) := Lib.hid (by rw [← HB.out]; unfold flipMay; rw [hk]; rfl)
  clear hb R0 hlen hv hk v3
  obtain ⟨x0, x1, x2⟩ := R1.out.c3
  go_wp2_with (fail)
  refine (sCornerMany_any _ r _ R1.out.v HV.out).mono ?_
  rintro e w2 ⟨rfl, hb⟩
  have R2 := Lib.hid (R1.out.on hb)
  have B2 := Lib.hid (B1.out.trans (hb.mono B1.out.size))
  clear hb R1 x0 x1 x2
  go_wp2_with (fail)
  cases hin : inB c 0 (corners r - 1)
  · refine (l1In_is _ _ _ _ false hin).mono ?_
    rintro e w3 ⟨rfl, rfl⟩
    have E2 : Hid (b = false) := Lib.hid (by
      rw [E.out]
      cases hcf : canFl r L c
      · rfl
      · rw [arOk_in HV.out (canFl_ar hcf)] at hin; cases hin)
    clear hin
    go_wp2
    go_ret
    exact ⟨ret_bool E2.out.symm, B2.out⟩
  refine (l1In_is _ _ _ _ true hin).mono ?_
  rintro e w3 ⟨rfl, rfl⟩
  obtain ⟨x0, x1, x2⟩ := R2.out.c3
  go_wp2_with (fail)
  refine (l5Square_any _ r c _ R2.out.v HV.out hin).mono ?_
  rintro e w3 ⟨rfl, hb⟩
  have B3 := Lib.hid (B2.out.trans (hb.mono B2.out.size))
  have h0 : 0 ≤ c := (inB_iff.1 hin).1
  clear hb R2 x0 x1 x2 hin
  cases hsq : sqAt r c
  · have E2 : Hid (b = false) := Lib.hid (by rw [E.out, sqAt_no HK.out hsq])
    rw [sqV_no hsq]
    clear hsq
    go_wp2
    go_ret
    exact ⟨ret_bool E2.out.symm, B3.out⟩
  have har := sqAt_ar h0 hsq
  obtain ⟨k, wd, q⟩ := sq_of HV.out har
  have F : Hid (b = ((decide (L.getD k 0 = 1) && decide (L.getD (k + wd) 0 = 1)) || (decide (L.getD k 0 = 2) && decide (L.getD (k + 1) 0 = 2)))) := Lib.hid (by rw [E.out]; unfold canFl; rw [flatC_eq q har, uprC_eq q har])
  rw [sqV_yes hsq, q.ba, q.bw]
  obtain ⟨ub, uo, uc, rfl, hub, hucell, hul, hum⟩ := Il.pos HU.out hl1
  have hlt := q.lt
  have hL := HN.out
  obtain ⟨k1, hk1⟩ : ∃ x, k + 1 = x := ⟨_, rfl⟩
  obtain ⟨k2, hk2⟩ : ∃ x, k + wd = x := ⟨_, rfl⟩
  rw [hk1, hk2] at F
  rw [show ((k : Int) + 1) = (k1 : Int) by omega, show ((k : Int) + (wd : Int)) = (k2 : Int) by omega]
  have l0 : k < L.length := by omega
  have l1 : k1 < L.length := by have := q.w2; omega
  have l2 : k2 < L.length := by omega
  have i0 : (k : Int) < (L.length : Int) := by omega
  have i1 : (k1 : Int) < (L.length : Int) := by omega
  have i2 : (k2 : Int) < (L.length : Int) := by omega
  have c0 := hucell w3 B3.out k l0
  have c1 := hucell w3 B3.out k1 l1
  have c2 := hucell w3 B3.out k2 l2
  have hub1 : ub < w3.heap.size := Nat.lt_of_lt_of_le hub B3.out.size
  clear q har hk1 hk2 hlt hL l0 l1 l2 hucell hsq HU E
  generalize L.getD k 0 = y0 at *
  generalize L.getD k1 0 = y1 at *
  generalize L.getD k2 0 = y2 at *
  by_cases e1 : y0 = 1
  · subst e1
    by_cases e2 : y2 = 1
    · subst e2
      have G : Hid (b = true) := Lib.hid (by rw [F.out]; rfl)
      clear F
      go_wp2
      go_ret
      exact ⟨ret_bool G.out.symm, B3.out⟩
    · have G : Hid (b = false) := Lib.hid (by rw [F.out, decide_eq_false e2]; rfl)
      have e2' : (y2 == 1) = false := by simpa using e2
      clear F e2
      go_wp2
      go_ret
      exact ⟨ret_bool G.out.symm, B3.out⟩
  · by_cases e2 : y0 = 2
    · subst e2
      have G : Hid (b = (y1 == 2)) := Lib.hid (by rw [F.out]; rfl)
      clear F
      go_wp2
      go_ret
      exact ⟨ret_bool G.out.symm, B3.out⟩
    · have G : Hid (b = false) := Lib.hid (by rw [F.out, decide_eq_false e1, decide_eq_false e2]; rfl)
      have e1' : (y0 == 1) = false := by simpa using e1
      have e2' : (y0 == 2) = false := by simpa using e2
      clear F e1 e2
      go_wp2
      go_ret
      exact ⟨ret_bool G.out.symm, B3.out⟩
end Go.Proofs.Ytcagpfnlpjfgeaa
