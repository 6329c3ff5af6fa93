/- Walk: the program's HeightsOk. -/
import Derived.Test.YtdggcfpkbmdllaaVWhok
import Derived.Test.YtdggcfpkbmdllaaVWsim
set_option linter.unusedVariables false
namespace Go.Proofs.Ytdggcfpkbmdllaa
open Go.RowKit Domi

abbrev HkS (r : Reg) (s : Value) (X g gs : Nat) (cur : Array Value) (n : Nat) (U : List Bool) : List It :=
  [.box X #[.int .i64 r.wide, .int .i64 r.tall, s] 28, .row 4 (.slice (some ⟨g, 0, none⟩) n n) (U.map Value.bool), .box gs cur 75]
theorem sdV_get {L : List Sd} {k : Nat} (hk : k < L.length) {i : Nat} (hi : i < 6) : (sdV L)[k * 6 + i]? = (L[k]).vals[i]? := by
  induction L generalizing k with
  | nil => simp at hk
  | cons s L ih =>
    have hv : s.vals.length = 6 := rfl
    cases k with
    | zero =>
      simp only [sdV, List.flatMap_cons, Nat.zero_mul, Nat.zero_add, List.getElem_cons_zero]
      rw [List.getElem?_append_left (by omega)]
    | succ k =>
      simp only [sdV, List.flatMap_cons, List.getElem_cons_succ]
      rw [List.getElem?_append_right (by omega), hv, show (k + 1) * 6 + i - 6 = k * 6 + i by omega]
      exact ih (by simpa using hk)
theorem sd_cells {W : World} {gs : Nat} {cur : Array Value} {L : List Sd} (h : W.heap[gs]? = some (.cells cur 75 (0, 0))) (hc : cur.toList.take (L.length * 6) = sdV L) {k : Nat} (hk : k < L.length) :
    W.cell? ⟨gs, k * 6, none⟩ = some (.int .i64 L[k].fr) ∧ W.cell? ⟨gs, k * 6 + 1, none⟩ = some (.int .i64 L[k].tt) ∧ W.cell? ⟨gs, k * 6 + 2, none⟩ = some (.int .i64 L[k].lx) ∧ W.cell? ⟨gs, k * 6 + 3, none⟩ = some (.int .i64 L[k].ly) ∧ W.cell? ⟨gs, k * 6 + 4, none⟩ = some (.int .i64 L[k].rx) ∧ W.cell? ⟨gs, k * 6 + 5, none⟩ = some (.int .i64 L[k].ry) := by
  have key : ∀ i, i < 6 → W.cell? ⟨gs, k * 6 + i, none⟩ = L[k].vals[i]? := fun i hi => by
    rw [cell_of_row W gs _ _ _ _ h, ← sdV_get hk hi, ← hc, List.getElem?_take_of_lt (by omega), Array.getElem?_toList]
  exact ⟨key 0 (by omega), key 1 (by omega), key 2 (by omega), key 3 (by omega), key 4 (by omega), key 5 (by omega)⟩
theorem os_box {w W w' : World} {S : List It} {u : Value} {L : List Sd} (hS : Sep w none W S) (hb : Below W.heap.size W w') (ho : Os w' W.heap.size u L) (hne : L ≠ []) :
    ∃ gs cap cur, u = .slice (some ⟨gs, 0, none⟩) L.length cap ∧ L.length ≤ cap ∧ cap ≤ 9223372036854775807 ∧ cur.toList.take (L.length * 6) = sdV L ∧ gs < w'.heap.size ∧ Sep w none w' (S ++ [.box gs cur 75]) := by
  rcases ho.2 with ⟨_, h⟩ | ⟨gs, cap, cur, rfl, h2, h3, h4, h5, _, h7⟩
  · exact absurd (List.length_eq_zero_iff.1 h) hne
  · refine ⟨gs, cap, cur, rfl, h4, by unfold maxLen at h5; omega, h7, lt_of_heap h3, (hS.below hb).more h3 fun k hk => ?_⟩
    have hk' : gs = k := by simpa [It.id] using hk
    subst hk'
    exact hS.fresh h2
set_option maxRecDepth 100000 in
set_option maxHeartbeats 4000000 in
theorem HeightsOk_any (v u : Value) (r : Reg) (H : List Int) (w : World) (h : RegV w v r) (hH : Il w u H) (b : Bool) (hb0 : okH r H = b) : Calls Try.prog 37 #[v, u] w (Ret (.bool b) w) := by
  obtain ⟨ra, rc, rfl, hs, hlc, hcm⟩ := h.opened
  have HL := Lib.hid hH
  obtain ⟨ua, uc, rfl, hu1, hu2, _⟩ := hH.opened
  have HB := Lib.hid hb0
  have RV : Hid (∀ w' S, Sep w none w' S → RegV w' (.agg #[.int .i64 r.wide, .int .i64 r.tall, .slice ra r.cells.length rc]) r) := Lib.hid fun w' S h => ⟨_, rfl, hs.below h.bel⟩
  have R := RB.new hs
  have B0 := below_alloc w (.cells #[.int .i64 r.wide, .int .i64 r.tall, .slice ra r.cells.length rc] 28)
  obtain ⟨W, hW⟩ : ∃ W, W = w.alloc (.cells #[.int .i64 r.wide, .int .i64 r.tall, .slice ra r.cells.length rc] 28) := ⟨_, rfl⟩
  have S0 := (Sep.start w none).box #[.int .i64 r.wide, .int .i64 r.tall, .slice ra r.cells.length rc] 28
  rw [← hW] at R B0 S0
  have R := Lib.hid R
  have S0 := Lib.hid S0
  have BW := Lib.hid B0
  clear h hH hs hb0 B0
  have C0 := Lib.hid (fun (v : Value) (w : World) (h : RegV w v r) => Simple_is v r w h r.simB rfl)
  cases hsim : r.simB
  · rw [okH_no1 hsim] at HB
    rw [hsim] at C0
    go_enter Try.func37, Try.ntmps37
    go_wp2_with (fail)
    rw [← hW]
    clear hW
    obtain ⟨x0, x1, x2⟩ := R.out.c3
    go_wp2_with (fail)
    refine (C0.out _ _ R.out.v).mono ?_
    rintro e w2 ⟨rfl, hb⟩
    go_wp2_with (fail)
    go_ret
    exact ⟨by rw [← HB.out]; rfl, BW.out.trans (hb.mono BW.out.size)⟩
  · rw [hsim] at C0
    go_enter Try.func37, Try.ntmps37
    go_wp2_with (fail)
    rw [← hW]
    clear hW
    obtain ⟨x0, x1, x2⟩ := R.out.c3
    go_wp2_with (fail)
    refine (C0.out _ _ R.out.v).mono ?_
    rintro e w2 ⟨rfl, hb⟩
    have HV := Lib.hid (sim_holes hsim).1
    obtain ⟨w0, hw0⟩ : ∃ w0, r.wide.toNat = w0 := ⟨_, rfl⟩
    obtain ⟨t, ht0⟩ : ∃ t, r.tall.toNat = t := ⟨_, rfl⟩
    have F := fld_of (sim_holes hsim).1
    rw [hw0, ht0] at F
    have HF := Lib.hid F
    have HSIM := Lib.hid hsim
    have HW0 := Lib.hid hw0
    have C1 := Lib.hid (fun (v : Value) (w : World) (h : RegV w v r) => region_corners v r w0 t F w h)
    have C2 := Lib.hid (fun (v : Value) (w : World) (h : RegV w v r) => sides_os v r w h w0 t F)
    obtain ⟨n, hn⟩ : ∃ n, r.cor = n := ⟨_, rfl⟩
    have hnb : n ≤ 49 := by
      have := cor_is F
      have hk : (w0 + 1) * (t + 1) ≤ 7 * 7 := Nat.mul_le_mul (by have := F.w6; omega) (by have := F.t6; omega)
      omega
    rw [hn] at C1
    have HN := Lib.hid hn
    obtain ⟨q, hq⟩ : ∃ q, H.length = q := ⟨_, rfl⟩
    have HQ := Lib.hid hq
    rw [hq] at hu1 HL ⊢
    clear hq hn F hsim hw0 ht0 x0 x1 x2
    have R1 := Lib.hid (R.out.on hb)
    have S1 := Lib.hid (S0.out.below hb)
    have BW := Lib.hid (BW.out.trans (hb.mono BW.out.size))
    clear hb S0 R
    obtain ⟨x0, x1, x2⟩ := R1.out.c3
    go_wp2_with (fail)
    refine (C1.out _ _ R1.out.v).mono ?_
    rintro e w3 ⟨rfl, hb⟩
    have R2 := Lib.hid (R1.out.on hb)
    have S2 := Lib.hid (S1.out.below hb)
    have BW := Lib.hid (BW.out.trans (hb.mono BW.out.size))
    clear hb S1 R1 x0 x1 x2
    obtain ⟨x0, x1, x2⟩ := R2.out.c3
    by_cases hqn : q = n
    · subst hqn
      go_wp2_with (at_make; refine list_make elem_bools (.bool false) zero_bool rfl q _ _ rfl rfl (q : Int) ?_ ?_ rfl ?_ ?_ ?_; rfl; rfl; omega; omega; intro cs hcs; (have S3 := Lib.hid (S2.out.made (e := 4) hcs (by omega))); (have R3 := Lib.hid (R2.out.on (below_alloc w3 (.cells cs 4)))); (have B3 := Lib.hid (below_alloc w3 (.cells cs 4))); (have ZZ := R3.out.c3); obtain ⟨z0, z1, z2⟩ := ZZ)
      obtain ⟨s0, hs0⟩ := sides_some HF.out (sim_has HSIM.out).choose_spec.1 (sim_has HSIM.out).choose_spec.2
      have HS0 := Lib.hid hs0
      obtain ⟨L, hLd⟩ : ∃ L, sdTo r w0 r.cor = L := ⟨_, rfl⟩
      have HLD := Lib.hid hLd
      have hne : L ≠ [] := by rintro rfl; rw [hLd] at hs0; cases hs0
      have hm : L.length ≤ 200 := by rw [← hLd]; have h2 := HN.out; have := sdTo_len r w0 r.cor; omega
      rw [hLd] at C2
      obtain ⟨W4, hW4⟩ : ∃ W4, W4 = w3.alloc (Obj.cells cs 4) := ⟨_, rfl⟩
      rw [← hW4] at S3 R3 B3 ⊢
      have BW := Lib.hid (BW.out.trans (B3.out.mono BW.out.size))
      clear hW4 z0 z1 z2 x0 x1 x2 R2 S2 B3 hcs hs0 hLd
      refine (C2.out _ _ R3.out.v).mono ?_
      rintro e w5 ⟨u5, rfl, hos, hb⟩
      obtain ⟨gs, cap, cur, rfl, hc1, hc2', hc3, hgs, hS⟩ := os_box S3.out hb hos hne
      have HC := Lib.hid hc3
      generalize hg : w3.heap.size = g at *
      generalize hX : w.heap.size = X at *
      obtain ⟨m, hmm⟩ : ∃ m, L.length = m := ⟨_, rfl⟩
      have HM := Lib.hid hmm
      rw [hmm] at hc1 hm HC ⊢
      have HS : Hid (Sep w none w5 (HkS r (.slice ra r.cells.length rc) X g gs cur q (hus q (L.take 0)))) := Lib.hid (by simpa [HkS, hus] using hS)
      clear hb hos hS hc3 R3 S3 hne hmm
      go_wp2_with (fail)
      go_loopw [28] (fun i wr => ∃ k : Nat, k ≤ m ∧ i = .int .i64 k ∧ Hid (∀ s ∈ L.take k, s.ok r H = true) ∧ Sep w none wr (HkS r (.slice ra r.cells.length rc) X g gs cur q (hus q (L.take k)))) (fun i _ => m - (intOf i).toNat)
      case atStart => exact ⟨0, Nat.zero_le _, rfl, Lib.hid (by simp), HS.out⟩
      case round =>
        clear HS
        obtain ⟨k, hk, rfl, HOK, hS⟩ := hrel
        have HS := Lib.hid hS
        clear hS
        obtain ⟨x0, x1, x2⟩ := HS.out.c3 0 rfl
        by_cases hlt : k < m
        · obtain ⟨y0, y1, y2, y3, y4, y5⟩ := sd_cells (HS.out.blk 2 rfl) (by rw [HM.out]; exact HC.out) (k := k) (by rw [HM.out]; exact hlt)
          obtain ⟨sd, hsd⟩ : ∃ sd, L[k]'(by rw [HM.out]; exact hlt) = sd := ⟨_, rfl⟩
          rw [hsd] at y0 y1 y2 y3 y4 y5
          have hmem : sd ∈ sdTo r w0 r.cor := by rw [HLD.out, ← hsd]; exact List.getElem_mem _
          obtain ⟨a, c, ea, ec, hac, hcq⟩ := side_in HF.out hmem
          have HSM := Lib.hid (sd_small HF.out hmem)
          have HMEM := Lib.hid hmem
          rw [HN.out] at hcq
          have HUN := Lib.hid (show hus q (L.take (k + 1)) = ((hus q (L.take k)).set a true).set c true by rw [hus_take (by rw [HM.out]; exact hlt), hsd]; unfold husSet; rw [ea, ec]; rfl)
          obtain ⟨U, hU⟩ : ∃ U, hus q (L.take k) = U := ⟨_, rfl⟩
          have hUl : U.length = q := by rw [← hU]; exact hus_len _ _
          rw [hU] at HUN HS
          have HOK2 := Lib.hid (show sd.ok r H = true → ∀ s ∈ L.take (k + 1), s.ok r H = true from fun hok s hs => by
            rw [List.take_succ_eq_append_getElem (by rw [HM.out]; exact hlt), hsd] at hs
            rcases List.mem_append.1 hs with h | h
            · exact HOK.out s h
            · rw [List.mem_singleton.1 h]; exact hok)
          have HBAD := Lib.hid (show ¬ sd.ok r H = true → b = false from fun hno => by
            rw [← HB.out]
            exact okH_no3 fun g => by
              rw [HW0.out] at g
              exact hno (g.ok sd HMEM.out))
          rw [ea] at y0
          rw [ec] at y1
          go_wp2_with (fail)
          have S6 := HS.out.box #[.int .i64 (a : Int), .int .i64 (c : Int), .int .i64 sd.lx, .int .i64 sd.ly, .int .i64 sd.rx, .int .i64 sd.ry] 75
          obtain ⟨W6, hW6⟩ : ∃ W6, W6 = wr.alloc (Obj.cells #[.int .i64 (a : Int), .int .i64 (c : Int), .int .i64 sd.lx, .int .i64 sd.ly, .int .i64 sd.rx, .int .i64 sd.ry] 75) := ⟨_, rfl⟩
          rw [← hW6] at S6 ⊢
          clear hW6 x0 x1 x2 y0 y1 y2 y3 y4 y5 HS
          generalize wr.heap.size = Y at *
          have S6 : Hid (Sep w none W6 [.box X #[.int .i64 r.wide, .int .i64 r.tall, .slice ra r.cells.length rc] 28, .row 4 (.slice (some ⟨g, 0, none⟩) q q) (U.map Value.bool), .box gs cur 75, .box Y #[.int .i64 (a : Int), .int .i64 (c : Int), .int .i64 sd.lx, .int .i64 sd.ly, .int .i64 sd.rx, .int .i64 sd.ry] 75]) := Lib.hid S6
          obtain ⟨u1, u2, u3⟩ := own_bool (S6.out.own 1 rfl) (j := a) (by omega)
          obtain ⟨v1, v2, v3⟩ := own_bool (S6.out.own 1 rfl) (j := c) (by omega)
          have y0 := cell_of_row W6 Y 0 _ _ _ (S6.out.blk 3 rfl)
          have y1 := cell_of_row W6 Y 1 _ _ _ (S6.out.blk 3 rfl)
          have sY := S6.out.lt 3 rfl rfl
          have n1 : ¬ Y = g := S6.out.ne 3 1 rfl rfl (by decide) rfl rfl
          have n2 : ¬ g = Y := fun e => n1 e.symm
          have haq : a < q := by omega
          have n3 : ¬ a = c := by omega
          have n4 : ¬ c = a := by omega
          go_region
          obtain ⟨W7, hW7⟩ : ∃ W7, W7 = ((W6.setCell ⟨g, a, none⟩ (.bool true)).setCell ⟨g, c, none⟩ (.bool true)).drew := ⟨_, rfl⟩
          have S7 : Hid (Sep w none W7 [.box X #[.int .i64 r.wide, .int .i64 r.tall, .slice ra r.cells.length rc] 28, .row 4 (.slice (some ⟨g, 0, none⟩) q q) (((U.set a true).set c true).map Value.bool), .box gs cur 75, .box Y #[.int .i64 (a : Int), .int .i64 (c : Int), .int .i64 sd.lx, .int .i64 sd.ly, .int .i64 sd.rx, .int .i64 sd.ry] 75]) := Lib.hid (by
            have := ((S6.out.set 1 rfl a (.bool true)).set 1 rfl c (.bool true)).drew
            rw [← hW7] at this
            rw [List.map_set, List.map_set]
            exact this)
          rw [← hW7]
          clear hW7 u1 u2 u3 v1 v2 v3 y0 y1 sY S6 n1 n2
          rw [← HUN.out] at S7
          obtain ⟨ub, uo, e1, hub, g1⟩ := il_get7 (HL.out.below S7.out.bel) (j := a) (by rw [HQ.out]; exact haq)
          obtain ⟨ub', uo', e2, _, g2⟩ := il_get7 (HL.out.below S7.out.bel) (j := c) (by rw [HQ.out]; exact hcq)
          rw [e1] at e2
          simp only [Option.some.injEq, Addr.mk.injEq, and_true] at e2
          obtain ⟨rfl, rfl⟩ := e2
          subst e1
          obtain ⟨d, hd⟩ : ∃ d, sd.diff H = d := ⟨_, rfl⟩
          have hd2 : IntKind.i64.wrap (H.getD c 0 - H.getD a 0) = d := by rw [← hd]; unfold Sd.diff hgt; rw [ea, ec]; rfl
          obtain ⟨hA, hhA⟩ : ∃ x, H.getD a 0 = x := ⟨_, rfl⟩
          obtain ⟨hC, hhC⟩ : ∃ x, H.getD c 0 = x := ⟨_, rfl⟩
          rw [hhA] at g1 hd2
          rw [hhC] at g2 hd2
          have HD := Lib.hid hd
          clear hd hhA hhC
          have y0 := cell_of_row W7 Y 0 _ _ _ (S7.out.blk 3 rfl)
          have y1 := cell_of_row W7 Y 1 _ _ _ (S7.out.blk 3 rfl)
          have sY := S7.out.lt 3 rfl rfl
          go_wp2_with (fail)
          go_region
          obtain ⟨ri, hri⟩ : ∃ x, riseI sd.dk = x := ⟨_, rfl⟩
          obtain ⟨inn, hinn⟩ : ∃ x, sd.inn r = x := ⟨_, rfl⟩
          have hrb : -1 ≤ ri ∧ ri ≤ 1 := by rw [← hri]; cases sd.dk <;> decide
          have HOKD := Lib.hid (show sd.ok r H = (decide (d = ri) || (inn && decide (d = -3 * ri))) by unfold Sd.ok; rw [HD.out, hri, hinn])
          have C3 : Hid (∀ w, Calls Try.prog 76 #[.agg #[.int .i64 (a : Int), .int .i64 (c : Int), .int .i64 sd.lx, .int .i64 sd.ly, .int .i64 sd.rx, .int .i64 sd.ry]] w (Ret (.int .i64 ri) w)) := Lib.hid fun w => by
            have := side_rise sd HSM.out sd.dk rfl w
            rw [hri] at this
            unfold sdAgg at this
            rw [ea, ec] at this
            exact this
          have C4 : Hid (∀ (v : Value) (w : World) (h : RegV w v r), Calls Try.prog 77 #[v, .agg #[.int .i64 (a : Int), .int .i64 (c : Int), .int .i64 sd.lx, .int .i64 sd.ly, .int .i64 sd.rx, .int .i64 sd.ry]] w (Ret (.bool inn) w)) := Lib.hid fun v w h => by
            have := region_inner v r w h HV.out sd HSM.out inn hinn
            unfold sdAgg at this
            rw [ea, ec] at this
            exact this
          have S8 := S7.out.drew
          obtain ⟨W8, hW8⟩ : ∃ W8, W8 = W7.drew := ⟨_, rfl⟩
          rw [← hW8] at S8 ⊢
          have S8 := Lib.hid S8
          clear hW8 S7 y0 y1 sY hri hinn hd2 g1 g2 hub
          have y0 := cell_of_row W8 Y 0 _ _ _ (S8.out.blk 3 rfl)
          have y1 := cell_of_row W8 Y 1 _ _ _ (S8.out.blk 3 rfl)
          have y2 := cell_of_row W8 Y 2 _ _ _ (S8.out.blk 3 rfl)
          have y3 := cell_of_row W8 Y 3 _ _ _ (S8.out.blk 3 rfl)
          have y4 := cell_of_row W8 Y 4 _ _ _ (S8.out.blk 3 rfl)
          have y5 := cell_of_row W8 Y 5 _ _ _ (S8.out.blk 3 rfl)
          go_wp2_with (fail)
          refine (C3.out _).mono ?_
          rintro e w9 ⟨rfl, hb⟩
          have S9 := Lib.hid (S8.out.below hb)
          clear S8 y0 y1 y2 y3 y4 y5 hb
          by_cases hdr : d = ri
          · have hdr2 : (d != ri) = false := by simp [hdr]
            have OK := Lib.hid (HOK2.out (by rw [HOKD.out, decide_eq_true hdr]; rfl))
            clear hdr
            go_wp2_with (fail)
            go_roundw
            case rel => exact ⟨k + 1, by omega, by go_num, OK, by simpa using S9.out.pick [0, 1, 2] (by decide) rfl⟩
            case measure => simp [intOf]; omega
          · have hdr2 : (d != ri) = true := by simp [hdr]
            obtain ⟨x0, x1, x2⟩ := S9.out.c3 0 rfl
            have y0 := cell_of_row w9 Y 0 _ _ _ (S9.out.blk 3 rfl)
            have y1 := cell_of_row w9 Y 1 _ _ _ (S9.out.blk 3 rfl)
            have y2 := cell_of_row w9 Y 2 _ _ _ (S9.out.blk 3 rfl)
            have y3 := cell_of_row w9 Y 3 _ _ _ (S9.out.blk 3 rfl)
            have y4 := cell_of_row w9 Y 4 _ _ _ (S9.out.blk 3 rfl)
            have y5 := cell_of_row w9 Y 5 _ _ _ (S9.out.blk 3 rfl)
            go_wp2_with (fail)
            refine (C4.out _ _ (RV.out _ _ S9.out)).mono ?_
            rintro e w10 ⟨rfl, hb⟩
            have S10 := Lib.hid (S9.out.below hb)
            clear S9 y0 y1 y2 y3 y4 y5 x0 x1 x2 hb
            cases inn
            · have BAD := Lib.hid (HBAD.out (by rw [HOKD.out, decide_eq_false hdr]; simp))
              go_wp2_with (fail)
              go_ret
              exact ⟨by rw [BAD.out]; rfl, S10.out.bel⟩
            · have y0 := cell_of_row w10 Y 0 _ _ _ (S10.out.blk 3 rfl)
              have y1 := cell_of_row w10 Y 1 _ _ _ (S10.out.blk 3 rfl)
              have y2 := cell_of_row w10 Y 2 _ _ _ (S10.out.blk 3 rfl)
              have y3 := cell_of_row w10 Y 3 _ _ _ (S10.out.blk 3 rfl)
              have y4 := cell_of_row w10 Y 4 _ _ _ (S10.out.blk 3 rfl)
              have y5 := cell_of_row w10 Y 5 _ _ _ (S10.out.blk 3 rfl)
              go_wp2_with (fail)
              refine (C3.out _).mono ?_
              rintro e w11 ⟨rfl, hb⟩
              have S11 := Lib.hid (S10.out.below hb)
              clear S10 y0 y1 y2 y3 y4 y5 hb
              by_cases hd3 : d = -3 * ri
              · have hd4 : (d == -3 * ri) = true := by simp [hd3]
                have OK := Lib.hid (HOK2.out (by rw [HOKD.out, decide_eq_true hd3]; simp))
                clear hdr hd3
                go_wp2_with (fail)
                go_roundw
                case rel => exact ⟨k + 1, by omega, by go_num, OK, by simpa using S11.out.pick [0, 1, 2] (by decide) rfl⟩
                case measure => simp [intOf]; omega
              · have hd4 : (d == -3 * ri) = false := by simp [hd3]
                have BAD := Lib.hid (HBAD.out (by rw [HOKD.out, decide_eq_false hdr, decide_eq_false hd3]; decide))
                go_wp2_with (fail)
                go_ret
                exact ⟨by rw [BAD.out]; rfl, S11.out.bel⟩
        · have hkm : k = m := by omega
          subst hkm
          have HALL := Lib.hid (show ∀ s ∈ sdTo r w0 r.cor, s.ok r H = true by
            rw [HLD.out]
            have := HOK.out
            rwa [List.take_of_length_le (by rw [HM.out]; exact Nat.le_refl _)] at this)
          have HUS := Lib.hid (show hus r.cor (sdTo r w0 r.cor) = hus q (L.take k) by rw [HLD.out, HN.out, List.take_of_length_le (by rw [HM.out]; exact Nat.le_refl _)])
          obtain ⟨U, hU⟩ : ∃ U, hus q (L.take k) = U := ⟨_, rfl⟩
          have hUl : U.length = q := by rw [← hU]; exact hus_len _ _
          rw [hU] at HUS HS
          clear hU HOK
          have CI := Lib.hid (fun (w : World) (v : Value) (h : Bl w v U) => Index_bit v U w h)
          go_wp2_with (fail)
          refine (CI.out _ _ (HS.out.own 1 rfl).sl).mono ?_
          rintro e w6 ⟨f, rfl, hf, rfl⟩
          have hff := ix_first HF.out HS0.out (by rw [HUS.out]; exact hf)
          have HFF := Lib.hid hff
          have HGOOD := Lib.hid (good_iff (H := H) HF.out HS0.out)
          rw [HUS.out, HN.out, ← hff] at HGOOD
          have HBAD := Lib.hid (show ∀ k, k < q → ¬ hc2 U H f k = true → b = false from fun k hk hno => by
            rw [← HB.out]
            exact okH_no3 fun g => by
              rw [HW0.out] at g
              exact hno ((HGOOD.out.1 g).2 k hk))
          clear hf hff
          go_wp2_with (fail)
          go_loopw [73] (fun i wr => ∃ k : Nat, k ≤ q ∧ i = .int .i64 k ∧ Hid (∀ j, j < k → hc2 U H f j = true) ∧ Sep w none wr (HkS r (.slice ra r.cells.length rc) X g gs cur q U)) (fun i _ => q - (intOf i).toNat)
          case atStart => exact ⟨0, Nat.zero_le _, rfl, Lib.hid fun j h => by omega, HS.out⟩
          case round =>
            clear HS
            obtain ⟨j, hj, rfl, HOK, hS⟩ := hrel
            have HS := Lib.hid hS
            clear hS
            by_cases hlt2 : j < q
            · obtain ⟨ub, uo, e1, hub, g1⟩ := il_get7 (HL.out.below HS.out.bel) (j := j) (by rw [HQ.out]; exact hlt2)
              subst e1
              obtain ⟨u1, u2, u3⟩ := own_bool (HS.out.own 1 rfl) (j := j) (by omega)
              obtain ⟨x, hx⟩ : ∃ x, H.getD j 0 = x := ⟨_, rfl⟩
              obtain ⟨uj, huj⟩ : ∃ x, U.getD j false = x := ⟨_, rfl⟩
              rw [hx] at g1
              rw [huj] at u1
              obtain ⟨i6, hi6⟩ : ∃ y, inB x (-60) 60 = y := ⟨_, rfl⟩
              have CIN := Lib.hid (fun w => in7_is x (-60) 60 w i6 hi6)
              have HC2 := Lib.hid (show hc2 U H f j = ((uj || decide (x = 99)) && (!uj || i6) && (!decide ((j : Int) = f) || decide (x = 0))) by unfold hc2 in60; rw [hx, huj, hi6])
              have NEXT := Lib.hid (show hc2 U H f j = true → ∀ i, i < j + 1 → hc2 U H f i = true from fun h i hi => by
                by_cases e : i = j
                · subst e; exact h
                · exact HOK.out i (by omega))
              clear hx huj hi6
              have BAD := Lib.hid (HBAD.out j hlt2)
              rw [HC2.out] at BAD NEXT
              clear HC2
              cases uj
              · by_cases h99 : x = 99
                · have h99' : (x != 99) = false := by simp [h99]
                  by_cases hjf : (j : Int) = f
                  · have hjf' : ((j : Int) == f) = true := by simp [hjf]
                    have h0 : (x != 0) = true := by simp [h99]
                    have BAD := Lib.hid (BAD.out (by simp [hjf, h99]))
                    clear hjf h99
                    go_wp2_with (fail)
                    go_ret
                    exact ⟨by rw [BAD.out]; rfl, HS.out.bel⟩
                  · have hjf' : ((j : Int) == f) = false := by simp [hjf]
                    have NEXT := Lib.hid (NEXT.out (by simp [hjf, h99]))
                    clear hjf h99
                    go_wp2_with (fail)
                    go_roundw
                    case rel => exact ⟨j + 1, by omega, by go_num, NEXT, HS.out⟩
                    case measure => simp [intOf]; omega
                · have h99' : (x != 99) = true := by simp [h99]
                  have BAD := Lib.hid (BAD.out (by simp [h99]))
                  clear h99
                  go_wp2_with (fail)
                  go_ret
                  exact ⟨by rw [BAD.out]; rfl, HS.out.bel⟩
              · go_wp2_with (fail)
                refine (CIN.out _).mono ?_
                rintro e w7 ⟨rfl, rfl⟩
                cases i6
                · have BAD := Lib.hid (BAD.out (by simp))
                  go_wp2_with (fail)
                  go_ret
                  exact ⟨by rw [BAD.out]; rfl, HS.out.bel⟩
                · by_cases hjf : (j : Int) = f
                  · have hjf' : ((j : Int) == f) = true := by simp [hjf]
                    by_cases h0 : x = 0
                    · have h0' : (x != 0) = false := by simp [h0]
                      have NEXT := Lib.hid (NEXT.out (by simp [h0]))
                      clear hjf h0
                      go_wp2_with (fail)
                      go_roundw
                      case rel => exact ⟨j + 1, by omega, by go_num, NEXT, HS.out⟩
                      case measure => simp [intOf]; omega
                    · have h0' : (x != 0) = true := by simp [h0]
                      have BAD := Lib.hid (BAD.out (by simp [hjf, h0]))
                      clear hjf h0
                      go_wp2_with (fail)
                      go_ret
                      exact ⟨by rw [BAD.out]; rfl, HS.out.bel⟩
                  · have hjf' : ((j : Int) == f) = false := by simp [hjf]
                    have NEXT := Lib.hid (NEXT.out (by simp [hjf]))
                    clear hjf
                    go_wp2_with (fail)
                    go_roundw
                    case rel => exact ⟨j + 1, by omega, by go_num, NEXT, HS.out⟩
                    case measure => simp [intOf]; omega
            · have hjq : j = q := by omega
              subst hjq
              have YES := Lib.hid (show b = true by
                rw [← HB.out]
                refine okH_yes HSIM.out (by rw [HQ.out, HN.out]) ?_
                rw [HW0.out]
                exact HGOOD.out.2 ⟨by have h := HALL.out; rw [HN.out] at h; exact h, HOK.out⟩)
              go_wp2_with (fail)
              go_ret
              exact ⟨by rw [YES.out]; rfl, HS.out.bel⟩
    · have hqn' : ¬ (q : Int) = (n : Int) := by omega
      go_wp2_with (fail)
      go_ret
      exact ⟨by rw [← HB.out, okH_no2 (by rw [HQ.out, HN.out]; exact hqn)]; rfl, BW.out⟩
end Go.Proofs.Ytdggcfpkbmdllaa
