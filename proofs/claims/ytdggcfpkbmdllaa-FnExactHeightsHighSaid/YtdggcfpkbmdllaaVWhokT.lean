/- Walk: the reference's HeightsOk. UNDER WAY. -/
import Derived.Test.YtdggcfpkbmdllaaVWhokE
import Derived.Test.YtdggcfpkbmdllaaVWhokW
import Derived.Test.YtdggcfpkbmdllaaVWsimT
import Derived.Test.YtdggcfpkbmdllaaZe
set_option linter.unusedVariables false
namespace Go.Proofs.Ytdggcfpkbmdllaa
open Go.RowKit Domi

theorem l1In6_is (n lo hi : Int) (w : World) (b : Bool) (h : inB n lo hi = b) : Calls Try.prog 66 #[.int .i64 n, .int .i64 lo, .int .i64 hi] w fun e w' => e = .returned (.bool b) ∧ w = w' := by rw [← h]; exact l1In_any n lo hi w
set_option maxRecDepth 100000 in
set_option maxHeartbeats 4000000 in
theorem sHeightsOk_any (v u : Value) (r : Reg) (H : List Int) (w : World) (h : RegV w v r) (hH : Il w u H) (b : Bool) (hb0 : okH r H = b) : Calls Try.prog 35 #[v, u] w (Ret (.bool b) w) := by
  obtain ⟨ra, rc, rfl, hs, hlc, hcm⟩ := h.opened
  have HL := Lib.hid hH
  obtain ⟨ua, uc, rfl, hu1, hu2, _⟩ := hH.opened
  have HB := Lib.hid hb0
  have RV : Hid (∀ w' S, Sep w none w' S → RegV w' (.agg #[.int .i64 r.wide, .int .i64 r.tall, .slice ra r.cells.length rc]) r) := Lib.hid fun w' S h => ⟨_, rfl, hs.below h.bel⟩
  have R := RB.new hs
  have B0 := below_alloc w (.cells #[.int .i64 r.wide, .int .i64 r.tall, .slice ra r.cells.length rc] 28)
  obtain ⟨W, hW⟩ : ∃ W, W = w.alloc (.cells #[.int .i64 r.wide, .int .i64 r.tall, .slice ra r.cells.length rc] 28) := ⟨_, rfl⟩
  have S0 := (Sep.start w none).box #[.int .i64 r.wide, .int .i64 r.tall, .slice ra r.cells.length rc] 28
  rw [← hW] at R B0 S0
  have R := Lib.hid R
  have S0 := Lib.hid S0
  have BW := Lib.hid B0
  clear h hH hs hb0 B0
  have C0 := Lib.hid (fun (v : Value) (w : World) (h : RegV w v r) => sSimple_is v r w h r.simB rfl)
  cases hsim : r.simB
  · rw [okH_no1 hsim] at HB
    rw [hsim] at C0
    go_enter Try.func35, Try.ntmps35
    go_wp2_with (fail)
    rw [← hW]
    clear hW
    obtain ⟨x0, x1, x2⟩ := R.out.c3
    go_wp2_with (fail)
    refine (C0.out _ _ R.out.v).mono ?_
    rintro e w2 ⟨rfl, hb⟩
    go_wp2_with (fail)
    go_ret
    exact ⟨by rw [← HB.out]; rfl, BW.out.trans (hb.mono BW.out.size)⟩
  · rw [hsim] at C0
    go_enter Try.func35, Try.ntmps35
    go_wp2_with (fail)
    rw [← hW]
    clear hW
    obtain ⟨x0, x1, x2⟩ := R.out.c3
    go_wp2_with (fail)
    refine (C0.out _ _ R.out.v).mono ?_
    rintro e w2 ⟨rfl, hb⟩
    have HV := Lib.hid (sim_holes hsim).1
    obtain ⟨w0, hw0⟩ : ∃ w0, r.wide.toNat = w0 := ⟨_, rfl⟩
    obtain ⟨t, ht0⟩ : ∃ t, r.tall.toNat = t := ⟨_, rfl⟩
    have F := fld_of (sim_holes hsim).1
    rw [hw0, ht0] at F
    have HF := Lib.hid F
    have HSIM := Lib.hid hsim
    have HW0 := Lib.hid hw0
    have C1 := Lib.hid (fun (v : Value) (w : World) (h : RegV w v r) => cornerMany_is v r w0 t F w h)
    obtain ⟨n, hn⟩ : ∃ n, r.cor = n := ⟨_, rfl⟩
    have hnb : n ≤ 49 := by
      have := cor_is F
      have hk : (w0 + 1) * (t + 1) ≤ 7 * 7 := Nat.mul_le_mul (by have := F.w6; omega) (by have := F.t6; omega)
      omega
    rw [hn] at C1
    have HN := Lib.hid hn
    obtain ⟨q, hq⟩ : ∃ q, H.length = q := ⟨_, rfl⟩
    have HQ := Lib.hid hq
    rw [hq] at hu1 HL ⊢
    clear hq hn F hsim hw0 ht0 x0 x1 x2
    have R1 := Lib.hid (R.out.on hb)
    have S1 := Lib.hid (S0.out.below hb)
    have BW := Lib.hid (BW.out.trans (hb.mono BW.out.size))
    clear hb S0 R
    obtain ⟨x0, x1, x2⟩ := R1.out.c3
    go_wp2_with (fail)
    refine (C1.out _ _ R1.out.v).mono ?_
    rintro e w3 ⟨rfl, hb⟩
    have R2 := Lib.hid (R1.out.on hb)
    have S2 := Lib.hid (S1.out.below hb)
    have BW := Lib.hid (BW.out.trans (hb.mono BW.out.size))
    clear hb S1 R1 x0 x1 x2
    obtain ⟨x0, x1, x2⟩ := R2.out.c3
    by_cases hqn : q = n
    · subst hqn
      go_wp2_with (at_make; refine list_make elem_bools (.bool false) zero_bool rfl q _ _ rfl rfl (q : Int) ?_ ?_ rfl ?_ ?_ ?_; rfl; rfl; omega; omega; intro cs hcs; (have S3 := Lib.hid (S2.out.made (e := 4) hcs (by omega))); (have R3 := Lib.hid (R2.out.on (below_alloc w3 (.cells cs 4)))); (have B3 := Lib.hid (below_alloc w3 (.cells cs 4))); (have ZZ := R3.out.c3); obtain ⟨z0, z1, z2⟩ := ZZ)
      obtain ⟨s0, hs0⟩ := sides_some HF.out (sim_has HSIM.out).choose_spec.1 (sim_has HSIM.out).choose_spec.2
      have HS0 := Lib.hid hs0
      obtain ⟨W4, hW4⟩ : ∃ W4, W4 = w3.alloc (Obj.cells cs 4) := ⟨_, rfl⟩
      rw [← hW4] at S3 R3 B3 ⊢
      clear hW4 z0 z1 z2 x0 x1 x2 R2 S2 B3 hcs hs0 R3
      generalize hg : w3.heap.size = g at *
      generalize hX : w.heap.size = X at *
      have HS : Hid (Sep w none W4 [.box X #[.int .i64 r.wide, .int .i64 r.tall, .slice ra r.cells.length rc] 28, .row 4 (.slice (some ⟨g, 0, none⟩) q q) ((hus q (sdTo r w0 0)).map Value.bool)]) := Lib.hid (by simpa [hus, sdTo] using S3.out)
      clear S3
      go_wp2_with (fail)
      go_loopw [6, 7] (fun f i wr => ∃ k : Nat, k ≤ q ∧ i = .int .i64 k ∧ f = .int .i64 (fstI (sdTo r w0 k)) ∧ Hid (∀ s ∈ sdTo r w0 k, s.fine r H = true) ∧ Sep w none wr [.box X #[.int .i64 r.wide, .int .i64 r.tall, .slice ra r.cells.length rc] 28, .row 4 (.slice (some ⟨g, 0, none⟩) q q) ((hus q (sdTo r w0 k)).map Value.bool)]) (fun _ i _ => q - (intOf i).toNat)
      case atStart => exact ⟨0, Nat.zero_le _, rfl, rfl, Lib.hid (by simp [sdTo]), HS.out⟩
      case round =>
        clear HS
        obtain ⟨k, hk, rfl, rfl, HOK, hS⟩ := hrel
        have HS := Lib.hid hS
        clear hS
        by_cases hlt : k < q
        · rw [← sdAt_zero] at HS HOK
          have C2 := Lib.hid (fun (v : Value) (w : World) (h : RegV w v r) (nn : Bool) => l4Edge_is v r w0 t HF.out w h k (by rw [HN.out]; exact hlt) nn)
          go_wp2_with (fail)
          go_loopw [6, 8] (fun f i wr => ∃ n : Nat, n ≤ 2 ∧ i = .int .i64 n ∧ f = .int .i64 (fstI (sdAt r w0 k n)) ∧ Hid (∀ s ∈ sdAt r w0 k n, s.fine r H = true) ∧ Sep w none wr [.box X #[.int .i64 r.wide, .int .i64 r.tall, .slice ra r.cells.length rc] 28, .row 4 (.slice (some ⟨g, 0, none⟩) q q) ((hus q (sdAt r w0 k n)).map Value.bool)]) (fun _ i _ => 2 - (intOf i).toNat)
          case atStart => exact ⟨0, Nat.zero_le _, rfl, by rw [sdAt_zero], HOK, HS.out⟩
          case round =>
            clear HS HOK
            obtain ⟨n, hn, rfl, rfl, HOK, hS⟩ := hrel
            have HS := Lib.hid hS
            clear hS
            by_cases hn2 : n < 2
            · obtain ⟨x0, x1, x2⟩ := HS.out.c3 0 rfl
              obtain ⟨sd, hsd⟩ : ∃ s, sdW w0 k n = s := ⟨_, rfl⟩
              obtain ⟨b1, h1⟩ : ∃ x, r.at_ sd.lx sd.ly = x := ⟨_, rfl⟩
              obtain ⟨b2, h2⟩ : ∃ x, r.at_ sd.rx sd.ry = x := ⟨_, rfl⟩
              obtain ⟨dk, hdk⟩ : ∃ x, sd.dk = x := ⟨_, rfl⟩
              have hnb : ((n : Int) == 1) = decide (n = 1) := by
                have h : n = 0 ∨ n = 1 := by omega
                rcases h with rfl | rfl <;> rfl
              have C3 := Lib.hid (fun (v : Value) (w : World) (h : RegV w v r) => C2.out v w h (decide (n = 1)) sd hsd.symm b1 b2 h1 h2 dk hdk)
              have HNX := Lib.hid (sdAt_next r w0 k n hn2)
              rw [hsd, show usd r sd = (b1 || b2) by unfold usd; rw [h1, h2]] at HNX
              go_wp2_with (fail)
              try rw [hnb]
              refine (C3.out _ _ (RV.out _ _ HS.out)).mono ?_
              rintro e w6 ⟨p1, p2, rfl, hb⟩
              have S6 := Lib.hid (HS.out.below hb)
              clear HS hb x0 x1 x2
              cases hu : (b1 || b2)
              · rw [hu] at HNX
                have e1 : sdAt r w0 k (n + 1) = sdAt r w0 k n := by rw [HNX.out]; rfl
                rw [← e1] at HOK S6
                go_wp2_with (fail)
                go_roundw
                case rel => exact ⟨n + 1, by omega, by go_num, by rw [e1], HOK, S6.out⟩
                case measure => simp [intOf]; omega
              · rw [hu, if_pos rfl] at HNX
                have hmem : sd ∈ sdTo r w0 r.cor := by
                  refine mem_sdTo.2 ⟨k, by rw [HN.out]; exact hlt, by unfold usd; rw [h1, h2]; exact hu, ?_⟩
                  rw [← hsd]; unfold sdW; split
                  · exact .inr rfl
                  · exact .inl rfl
                obtain ⟨a, c, ea, ec, hac, hcq⟩ := side_in HF.out hmem
                rw [HN.out] at hcq
                have hak : a = k := by
                  have : sd.fr = (k : Int) := by rw [← hsd]; unfold sdW; split <;> rfl
                  omega
                subst hak
                have HNN := Lib.hid (show ∀ s ∈ sdAt r w0 a n, 0 ≤ s.fr from fun s hs => by
                  have : s ∈ sdTo r w0 (a + 1) := by
                    rw [← sdAt_two]
                    unfold sdAt at hs ⊢
                    simp only [List.mem_append] at hs ⊢
                    rcases hs with (h | h) | h
                    · exact .inl (.inl h)
                    · split at h
                      · exact .inl (.inr (by simpa using h))
                      · simp at h
                    · split at h
                      · exact .inr (by simpa using h)
                      · simp at h
                  obtain ⟨j, _, _, h | h⟩ := mem_sdTo.1 this
                  · rw [h]; exact Int.natCast_nonneg _
                  · rw [h]; exact Int.natCast_nonneg _)
                obtain ⟨U, hU⟩ : ∃ U, hus q (sdAt r w0 a n) = U := ⟨_, rfl⟩
                have hUl : U.length = q := by rw [← hU]; exact hus_len _ _
                have HUN := Lib.hid (show hus q (sdAt r w0 a (n + 1)) = (U.set a true).set c true by rw [HNX.out, hus_snoc, hU]; unfold husSet; rw [ea, ec]; rfl)
                rw [hU] at S6
                have HFS := Lib.hid (show fstI (sdAt r w0 a (n + 1)) = if fstI (sdAt r w0 a n) < 0 then (a : Int) else fstI (sdAt r w0 a n) by
                  rw [HNX.out, fstI_snoc, ea]
                  by_cases h : sdAt r w0 a n = []
                  · rw [if_pos h, if_pos ((fstI_neg HNN.out).2 h)]
                  · rw [if_neg h, if_neg (fun e => h ((fstI_neg HNN.out).1 e))])
                obtain ⟨f, hf⟩ : ∃ f, fstI (sdAt r w0 a n) = f := ⟨_, rfl⟩
                rw [hf] at HFS ⊢
                have S6 : Hid (Sep w none w6 [.box X #[.int .i64 r.wide, .int .i64 r.tall, .slice ra r.cells.length rc] 28, .row 4 (.slice (some ⟨g, 0, none⟩) q q) (U.map Value.bool)]) := S6
                have haq : a < q := hlt
                have n3 : ¬ a = c := by omega
                have n4 : ¬ c = a := by omega
                have HEA := Lib.hid ea
                have HEC := Lib.hid ec
                obtain ⟨x, hx⟩ : ∃ x, H.getD a 0 = x := ⟨_, rfl⟩
                obtain ⟨y, hy⟩ : ∃ y, H.getD c 0 = y := ⟨_, rfl⟩
                have HX := Lib.hid hx
                have HY := Lib.hid hy
                obtain ⟨p1, hp1⟩ : ∃ p, inB x (-60) 60 = p := ⟨_, rfl⟩
                obtain ⟨p2, hp2⟩ : ∃ p, inB y (-60) 60 = p := ⟨_, rfl⟩
                have HP1 := Lib.hid hp1
                have HP2 := Lib.hid hp2
                obtain ⟨ri, hri⟩ : ∃ x, riseI dk = x := ⟨_, rfl⟩
                have C4 : Hid (∀ w, Calls Try.prog 72 #[.bool dk, .bool false] w (Ret (.int .i64 ri) w)) := Lib.hid fun w => by rw [← hri]; exact l4Rise_out dk w
                obtain ⟨r3, hr3⟩ : ∃ x, -3 * ri = x := ⟨_, rfl⟩
                have C5 : Hid (∀ w, Calls Try.prog 72 #[.bool dk, .bool true] w (Ret (.int .i64 r3) w)) := Lib.hid fun w => by rw [← hr3, ← hri]; exact l4Rise_in dk w
                obtain ⟨d, hd⟩ : ∃ d, IntKind.i64.wrap (y - x) = d := ⟨_, rfl⟩
                obtain ⟨bb, hbb⟩ : ∃ z, (b1 && b2) = z := ⟨_, rfl⟩
                have HFN := Lib.hid (show sd.fine r H = (p1 && p2 && (decide (d = ri) || (bb && decide (d = r3)))) by
                  have e1 : hgt H sd.fr = x := by unfold hgt; rw [ea]; exact hx
                  have e2 : hgt H sd.tt = y := by unfold hgt; rw [ec]; exact hy
                  have e3 : sd.diff H = d := by unfold Sd.diff; rw [e1, e2]; exact hd
                  have e4 : sd.inn r = bb := by unfold Sd.inn; rw [h1, h2]; exact hbb
                  unfold Sd.fine in60 Sd.ok
                  rw [e1, e2, e3, e4, hdk, hri, hp1, hp2, hr3])
                have GOOD : Hid ((p1 && p2 && (decide (d = ri) || (bb && decide (d = r3)))) = true → ∀ s ∈ sdAt r w0 a (n + 1), s.fine r H = true) := Lib.hid fun h s hs => by
                  rw [HNX.out] at hs
                  rcases List.mem_append.1 hs with h' | h'
                  · exact HOK.out s h'
                  · rw [List.mem_singleton.1 h', HFN.out]; exact h
                have BAD : Hid (¬ (p1 && p2 && (decide (d = ri) || (bb && decide (d = r3)))) = true → b = false) := Lib.hid fun h => by
                  rw [← HB.out]
                  refine okH_no3 fun g => h ?_
                  rw [HW0.out] at g
                  obtain ⟨s0, hs0⟩ := sides_some HF.out (sim_has HSIM.out).choose_spec.1 (sim_has HSIM.out).choose_spec.2
                  rw [← HFN.out]
                  exact ((good_fine HF.out hs0).1 g).1 sd hmem
                have HD := Lib.hid hd
                obtain ⟨f', hf'⟩ : ∃ f', (if f < 0 then (a : Int) else f) = f' := ⟨_, rfl⟩
                rw [hf'] at HFS
                rw [ec]
                rw [hbb]
                clear hx hy hp1 hp2 hri hr3 hd hbb hdk h1 h2 hU hf hmem hsd ea ec HOK HNX C3 HNN
                obtain ⟨u1, u2, u3⟩ := own_bool (S6.out.own 1 rfl) (j := a) (by omega)
                obtain ⟨v1, v2, v3⟩ := own_bool (S6.out.own 1 rfl) (j := c) (by omega)
                have HUL := Lib.hid hUl
                by_cases hneg : f < 0
                case' pos =>
                  rw [if_pos hneg] at hf'
                  subst hf'
                  go_wp2_with (fail)
                case' neg =>
                  rw [if_neg hneg] at hf'
                  subst hf'
                  go_wp2_with (fail)
                all_goals
                  obtain ⟨W7, hW7⟩ : ∃ W7, W7 = ((w6.setCell ⟨g, a, none⟩ (.bool true)).setCell ⟨g, c, none⟩ (.bool true)) := ⟨_, rfl⟩
                  have S7 : Hid (Sep w none W7 [.box X #[.int .i64 r.wide, .int .i64 r.tall, .slice ra r.cells.length rc] 28, .row 4 (.slice (some ⟨g, 0, none⟩) q q) ((hus q (sdAt r w0 a (n + 1))).map Value.bool)]) := Lib.hid (by
                    have := ((S6.out.set 1 rfl a (.bool true)).set 1 rfl c (.bool true))
                    rw [← hW7] at this
                    rw [HUN.out, List.map_set, List.map_set]
                    exact this)
                  rw [← hW7]
                  clear hW7 u1 u2 u3 v1 v2 v3 S6 hUl hneg
                  obtain ⟨ub, uo, e1, hub, g1⟩ := il_get7 (HL.out.below S7.out.bel) (j := a) (by rw [HQ.out]; exact haq)
                  obtain ⟨ub', uo', e2, _, g2⟩ := il_get7 (HL.out.below S7.out.bel) (j := c) (by rw [HQ.out]; exact hcq)
                  rw [e1] at e2
                  simp only [Option.some.injEq, Addr.mk.injEq, and_true] at e2
                  obtain ⟨rfl, rfl⟩ := e2
                  subst e1
                  rw [HX.out] at g1
                  rw [HY.out] at g2
                  have hd := HD.out
                  go_region
                  have S8 := S7.out.drew
                  have g1 : W7.drew.cell? ⟨ub, uo + a, none⟩ = _ := g1
                  have g2 : W7.drew.cell? ⟨ub, uo + c, none⟩ = _ := g2
                  have hub : ub < W7.drew.heap.size := hub
                  obtain ⟨W8, hW8⟩ : ∃ W8, W8 = W7.drew := ⟨_, rfl⟩
                  rw [← hW8] at S8 g1 g2 hub ⊢
                  have S8 := Lib.hid S8
                  clear hW8 S7 hd
                  have HB8 : Hid (∀ w', Below W8.heap.size W8 w' → Sep w none w' [.box X #[.int .i64 r.wide, .int .i64 r.tall, .slice ra r.cells.length rc] 28, .row 4 (.slice (some ⟨g, 0, none⟩) q q) ((hus q (sdAt r w0 a (n + 1))).map Value.bool)]) := Lib.hid fun w' hb => S8.out.below hb
                  go_wp2_with (fail)
                  refine (l1In6_is x (-60) 60 _ p1 HP1.out).mono ?_
                  rintro e w9 ⟨rfl, rfl⟩
                  cases p1
                  · have BAD := Lib.hid (BAD.out (by simp))
                    go_wp2_with (fail)
                    go_ret
                    exact ⟨by rw [BAD.out]; rfl, S8.out.bel⟩
                  go_wp2_with (fail)
                  refine (l1In6_is y (-60) 60 _ p2 HP2.out).mono ?_
                  rintro e w9 ⟨rfl, rfl⟩
                  cases p2
                  · have BAD := Lib.hid (BAD.out (by simp))
                    go_wp2_with (fail)
                    go_ret
                    exact ⟨by rw [BAD.out]; rfl, S8.out.bel⟩
                  go_wp2_with (fail)
                  refine (C4.out _).mono ?_
                  rintro e w9 ⟨rfl, hb⟩
                  have S9 := Lib.hid (S8.out.below hb)
                  clear hb g1 g2
                  by_cases hdr : d = ri
                  · have hdr2 : (d != ri) = false := by simp [hdr]
                    have OK := Lib.hid (GOOD.out (by rw [decide_eq_true hdr]; rfl))
                    clear hdr
                    go_wp2_with (fail)
                    go_roundw
                    case rel => exact ⟨n + 1, by omega, by go_num, by rw [HFS.out], OK, S9.out⟩
                    case measure => simp [intOf]; omega
                  · have hdr2 : (d != ri) = true := by simp [hdr]
                    cases bb
                    · have BAD := Lib.hid (BAD.out (by rw [decide_eq_false hdr]; simp))
                      clear hdr
                      go_wp2_with (fail)
                      go_ret
                      exact ⟨by rw [BAD.out]; rfl, S9.out.bel⟩
                    · go_wp2_with (fail)
                      refine (C5.out _).mono ?_
                      rintro e w10 ⟨rfl, hb⟩
                      have S10 := Lib.hid (S9.out.below hb)
                      clear hb
                      by_cases hdr3 : d = r3
                      · have hdr4 : (d != r3) = false := by simp [hdr3]
                        have OK := Lib.hid (GOOD.out (by rw [decide_eq_true hdr3]; simp))
                        clear hdr hdr3
                        go_wp2_with (fail)
                        go_roundw
                        case rel => exact ⟨n + 1, by omega, by go_num, by rw [HFS.out], OK, S10.out⟩
                        case measure => simp [intOf]; omega
                      · have hdr4 : (d != r3) = true := by simp [hdr3]
                        have BAD := Lib.hid (BAD.out (by rw [decide_eq_false hdr, decide_eq_false hdr3]; simp))
                        clear hdr hdr3
                        go_wp2_with (fail)
                        go_ret
                        exact ⟨by rw [BAD.out]; rfl, S10.out.bel⟩
            · have e2 : n = 2 := by omega
              subst e2
              rw [sdAt_two] at HOK HS ⊢
              go_wp2_with (fail)
              go_roundw
              case rel => exact ⟨k + 1, by omega, by go_num, rfl, HOK, HS.out⟩
              case measure => simp [intOf]; omega
        · have hkq : k = q := by omega
          subst hkq
          have HGF := Lib.hid (good_fine (H := H) HF.out HS0.out)
          rw [HN.out] at HGF
          have hfs : fstI (sdTo r w0 k) = s0.fr := by
            have h := HS0.out
            rw [HN.out] at h
            unfold fstI
            rw [h]
          rw [hfs]
          obtain ⟨U, hU⟩ : ∃ U, hus k (sdTo r w0 k) = U := ⟨_, rfl⟩
          have hUl : U.length = k := by rw [← hU]; exact hus_len _ _
          rw [hU] at HGF HS
          clear hfs hU
          go_wp2_with (fail)
          go_loopw [16] (fun i wr => ∃ j : Nat, j ≤ k ∧ i = .int .i64 j ∧ Hid (∀ i, i < j → U.getD i false = true ∨ H.getD i 0 = 99) ∧ Sep w none wr [.box X #[.int .i64 r.wide, .int .i64 r.tall, .slice ra r.cells.length rc] 28, .row 4 (.slice (some ⟨g, 0, none⟩) k k) (U.map Value.bool)]) (fun i _ => k - (intOf i).toNat)
          case atStart => exact ⟨0, Nat.zero_le _, rfl, Lib.hid fun i h => by omega, HS.out⟩
          case round =>
            clear HS
            obtain ⟨j, hj, rfl, HU, hS⟩ := hrel
            have HS := Lib.hid hS
            clear hS
            by_cases hlt2 : j < k
            · obtain ⟨ub, uo, e1, hub, g1⟩ := il_get7 (HL.out.below HS.out.bel) (j := j) (by rw [HQ.out]; exact hlt2)
              subst e1
              obtain ⟨u1, u2, u3⟩ := own_bool (HS.out.own 1 rfl) (j := j) (by omega)
              obtain ⟨x, hx⟩ : ∃ x, H.getD j 0 = x := ⟨_, rfl⟩
              obtain ⟨uj, huj⟩ : ∃ x, U.getD j false = x := ⟨_, rfl⟩
              rw [hx] at g1
              rw [huj] at u1
              have NEXT := Lib.hid (show (uj = true ∨ x = 99) → ∀ i, i < j + 1 → U.getD i false = true ∨ H.getD i 0 = 99 from fun h i hi => by
                by_cases e : i = j
                · subst e; rw [huj, hx]; exact h
                · exact HU.out i (by omega))
              have BAD := Lib.hid (show ¬ (uj = true ∨ x = 99) → b = false from fun h => by
                rw [← HB.out]
                exact okH_no3 fun g => by
                  rw [HW0.out] at g
                  have := (HGF.out.1 g).2.1 j hlt2
                  rw [huj, hx] at this
                  exact h this)
              clear hx huj
              cases uj
              · by_cases h99 : x = 99
                · have h99' : (x != 99) = false := by simp [h99]
                  have NEXT := Lib.hid (NEXT.out (.inr h99))
                  clear h99
                  go_wp2_with (fail)
                  go_roundw
                  case rel => exact ⟨j + 1, by omega, by go_num, NEXT, HS.out⟩
                  case measure => simp [intOf]; omega
                · have h99' : (x != 99) = true := by simp [h99]
                  have BAD := Lib.hid (BAD.out (by simp [h99]))
                  clear h99
                  go_wp2_with (fail)
                  go_ret
                  exact ⟨by rw [BAD.out]; rfl, HS.out.bel⟩
              · have NEXT := Lib.hid (NEXT.out (.inl rfl))
                go_wp2_with (fail)
                go_roundw
                case rel => exact ⟨j + 1, by omega, by go_num, NEXT, HS.out⟩
                case measure => simp [intOf]; omega
            · have hjk : j = k := by omega
              subst hjk
              obtain ⟨a, c, ea, ec, hac, hcq⟩ := side_in HF.out (List.mem_of_mem_head? HS0.out)
              rw [HN.out] at hcq
              have haq : a < j := by omega
              obtain ⟨ub, uo, e1, hub, g1⟩ := il_get7 (HL.out.below HS.out.bel) (j := a) (by rw [HQ.out]; exact haq)
              subst e1
              obtain ⟨x, hx⟩ : ∃ x, H.getD a 0 = x := ⟨_, rfl⟩
              rw [hx] at g1
              have HB2 := Lib.hid (show b = (x == 0) by
                have hh : hgt H s0.fr = x := by unfold hgt; rw [ea]; exact hx
                rw [← HB.out]
                by_cases h0 : x = 0
                · rw [okH_yes HSIM.out (by rw [HQ.out, HN.out]) (by rw [HW0.out]; exact HGF.out.2 ⟨by have h := HOK.out; exact h, HU.out, by rw [hh]; exact h0⟩)]
                  simp [h0]
                · rw [okH_no3 fun g => by
                    rw [HW0.out] at g
                    have := (HGF.out.1 g).2.2
                    rw [hh] at this
                    exact h0 this]
                  simp [h0])
              rw [ea]
              clear hx
              go_wp2_with (fail)
              go_ret
              exact ⟨by rw [HB2.out]; rfl, HS.out.bel⟩
    · have hqn' : ¬ (q : Int) = (n : Int) := by omega
      go_wp2_with (fail)
      go_ret
      exact ⟨by rw [← HB.out, okH_no2 (by rw [HQ.out, HN.out]; exact hqn)]; rfl, BW.out⟩
end Go.Proofs.Ytdggcfpkbmdllaa
