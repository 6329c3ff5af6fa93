/- Walks: FlipOne, FlipsOf, Frozen of the reference. -/
import Derived.Test.YtcagpfnlpjfgeaaVWflipS
import Derived.Test.YtcagpfnlpjfgeaaVWtokS
import Derived.Test.YtcagpfnlpjfgeaaVWflipC
set_option linter.unusedVariables false
namespace Go.Proofs.Ytcagpfnlpjfgeaa
open Go.RowKit Domi

theorem four_alt {L : List Int} {k w : Nat} {x y z u : Int} (h2 : 2 ≤ w) : (((L.set k x).set (k + w) z).set (k + 1) y).set (k + w + 1) u = four L k w x y z u := by
  unfold four; rw [List.set_comm z y (by omega)]
theorem flipOne_no {r : Reg} {L : List Int} {c : Int} (h : laidOk r L = false) : flipOne r L c = ([], false) := by unfold flipOne; rw [h]; rfl
theorem flipOne_same {r : Reg} {L : List Int} {c : Int} (h : laidOk r L = true) (hf : canFl r L c = false) : flipOne r L c = (L, false) := by unfold flipOne; rw [h, hf, flipL_no hf]; rfl
theorem flipOne_flat {r : Reg} {L : List Int} {c : Int} {k w : Nat} (h : laidOk r L = true) (q : Sq r c k w) (hf : flatC r L c = true) : flipOne r L c = (four L k w 2 2 4 4, true) := by unfold flipOne canFl; rw [h, hf, flipL_flat q hf]; rfl
theorem flipOne_upr {r : Reg} {L : List Int} {c : Int} {k w : Nat} (h : laidOk r L = true) (q : Sq r c k w) (h0 : flatC r L c = false) (hf : uprC r L c = true) : flipOne r L c = (four L k w 1 3 1 3, true) := by unfold flipOne canFl; rw [h, hf, h0, flipL_upr q h0 hf]; rfl
theorem flipOne_len (r : Reg) (L : List Int) (c : Int) : (flipOne r L c).1.length ≤ L.length := by
  unfold flipOne; split
  · exact Nat.le_of_eq (flipL_len r L c)
  · exact Nat.zero_le _
theorem flipsOf_len (r : Reg) (L : List Int) : (flipsOf r L).length ≤ 49 := by
  cases h : laidOk r L
  · unfold flipsOf; rw [h]; simp
  · unfold flipsOf; rw [if_pos h]; exact flipsL_len (laidOk_iff.1 h).1 L
theorem flipMay_yes {r : Reg} {L : List Int} {c : Int} (h : laidOk r L = true) : flipMay r L c = canFl r L c := by unfold flipMay; rw [h]; rfl
theorem flipMay_no {r : Reg} {L : List Int} {c : Int} (h : laidOk r L = false) : flipMay r L c = false := by unfold flipMay; rw [h]; rfl
set_option maxRecDepth 100000 in
set_option maxHeartbeats 4000000 in
theorem sFlipOne_any (v u : Value) (r : Reg) (L : List Int) (c : Int) (w : World) (h : RegV w v r) (hu : Il w u L) (hc : -9223372036854775808 ≤ c ∧ c ≤ 9223372036854775807) :
    Calls Try.prog 54 #[v, u, .int .i64 c] w (RetLB (flipOne r L c) w) := by
  obtain ⟨a, cap, rfl, hs, hlc, hcm⟩ := h.opened
  have S0 := Lib.hid ((Sep.start w none).box #[.int .i64 r.wide, .int .i64 r.tall, .slice a r.cells.length cap] 25)
  have HS := Lib.hid hs
  have HU := Lib.hid hu
  have RV : Hid (∀ w', Below w.heap.size w w' → RegV w' (.agg #[.int .i64 r.wide, .int .i64 r.tall, .slice a r.cells.length cap]) r) := Lib.hid fun w' hb => ⟨_, rfl, HS.out.below hb⟩
  cases hk : laidOk r L
  · obtain ⟨ua, uc, rfl, hul, hum, _⟩ := hu.opened
    clear h hs hu
    go_enter Try.func54, Try.ntmps54
    go_wp2_with (fail)
    refine (sLaidOk_is _ _ r L _ (RV.out _ S0.out.bel) (HU.out.below S0.out.bel) false hk).mono ?_
    rintro e w1 ⟨rfl, hb⟩
    have S1 := Lib.hid (S0.out.below hb)
    clear hb
    go_wp2
    go_ret2
    exact boolp_one (P := True) _ _ _ (flipOne_no hk) (own_empty S1.out.bel) (below_two S1.out.bel _)
  · obtain ⟨hv, hlen, _⟩ := laidOk_iff.1 hk
    obtain ⟨v1, v2, v3, _⟩ := Reg.valid_iff.1 hv
    have hA := area_in v1 v2
    have hL1 : 0 < L.length := by omega
    have hL36 : L.length ≤ 36 := by omega
    have HK := Lib.hid hk
    have HV := Lib.hid hv
    have HN := Lib.hid hlen
    obtain ⟨ub, uo, uc, rfl, hub, hucell, hul, hum⟩ := Il.pos hu hL1
    have HUC := Lib.hid hucell
    clear h hs hu hk hv hlen hucell v3 hA
    go_enter Try.func54, Try.ntmps54
    go_wp2_with (fail)
    refine (sLaidOk_is _ _ r L _ (RV.out _ S0.out.bel) (HU.out.below S0.out.bel) true HK.out).mono ?_
    rintro e w1 ⟨rfl, hb⟩
    have S1 := Lib.hid (S0.out.below hb)
    clear hb
    have H1c := Lib.hid (int_cells L)
    have S2 : Hid (Sep w none (w1.alloc (.cells #[] 3)) [.box w.heap.size #[.int .i64 r.wide, .int .i64 r.tall, .slice a r.cells.length cap] 25, .row 3 (.slice (some ⟨w1.heap.size, 0, none⟩) 0 0) []]) := Lib.hid (S1.out.empty 3)
    clear S0 S1
    go_wp2_with (at_builtin; refine list_copy elem_ints _ (S2.out.own 1 rfl) _ (L.map (Value.int .i64)) (HU.out.below S2.out.bel) L.length (by rw [List.length_map]) hL1 (.tmp 19) (.tmp 20) rfl rfl rfl rfl H1c.out (by omega) ?_; intro g c2 w5 A5; (have S5 := Lib.hid (S2.out.copied 1 rfl A5)); (have L5 := Lib.hid (And.intro A5.le A5.max)); clear A5; obtain ⟨x0, x1, x2⟩ := S5.out.c3 0 rfl)
    clear S2
    obtain ⟨f, hf⟩ : ∃ f, flipMay r L c = f := ⟨_, rfl⟩
    refine (sFlipMay_any _ _ r L c _ (RV.out _ S5.out.bel) (HU.out.below S5.out.bel) hc f hf).mono ?_
    rintro e w6 ⟨rfl, hb⟩
    have S6 := Lib.hid (S5.out.below hb)
    rw [flipMay_yes HK.out] at hf
    clear hb S5 x0 x1 x2
    cases f
    · have E := Lib.hid (flipOne_same HK.out hf)
      clear hf
      go_wp2
      go_ret2
      exact boolp_one (P := True) _ _ _ E.out (S6.out.high 1 rfl) S6.out.bel
    · have har := canFl_ar hf
      have hin := arOk_in HV.out har
      have hsq : sqAt r c = true := by
        cases e : sqAt r c
        · rw [sqAt_no HK.out e] at hf; cases hf
        · rfl
      obtain ⟨k, wd, q⟩ := sq_of HV.out har
      obtain ⟨x0, x1, x2⟩ := S6.out.c3 0 rfl
      have Hin := Lib.hid hin
      have Hsq := Lib.hid hsq
      have Hf := Lib.hid hf
      have Q := Lib.hid q
      have Har := Lib.hid har
      clear hin hsq hf q har
      go_wp2_with (fail)
      refine (l5Square_any _ r c _ (RV.out _ S6.out.bel) HV.out Hin.out).mono ?_
      rintro e w7 ⟨rfl, hb⟩
      have S7 := Lib.hid (S6.out.below hb)
      clear hb S6 x0 x1 x2
      rw [sqV_yes Hsq.out, Q.out.ba, Q.out.bw]
      have hlt := Q.out.lt
      have h2 := Q.out.w2
      have hL := HN.out
      obtain ⟨k1, hk1⟩ : ∃ x, k + 1 = x := ⟨_, rfl⟩
      obtain ⟨k2, hk2⟩ : ∃ x, k + wd = x := ⟨_, rfl⟩
      obtain ⟨k3, hk3⟩ : ∃ x, k2 + 1 = x := ⟨_, rfl⟩
      rw [show ((k : Int) + 1) = (k1 : Int) by omega, show ((k : Int) + (wd : Int)) = (k2 : Int) by omega, show ((k2 : Int) + 1) = (k3 : Int) by omega]
      have l0 : k < L.length := by omega
      have l1 : k1 < L.length := by omega
      have l2 : k2 < L.length := by omega
      have l3 : k3 < L.length := by omega
      have i0 : (k : Int) < (L.length : Int) := by omega
      have i1 : (k1 : Int) < (L.length : Int) := by omega
      have i2 : (k2 : Int) < (L.length : Int) := by omega
      have i3 : (k3 : Int) < (L.length : Int) := by omega
      have c0 := HUC.out w7 S7.out.bel k l0
      have hub1 : ub < w7.heap.size := Nat.lt_of_lt_of_le hub S7.out.bel.size
      have HK1 := Lib.hid hk1
      have HK2 := Lib.hid hk2
      have HK3 := Lib.hid hk3
      clear hk1 hk2 hk3 hlt hL h2
      by_cases e1 : L.getD k 0 = 1
      · have hflat : flatC r L c = true := by
          have := Hf.out
          unfold canFl at this
          rw [uprC_eq Q.out Har.out, e1] at this
          simpa using this
        have E := Lib.hid (flipOne_flat HK.out Q.out hflat)
        rw [e1] at c0
        clear e1 hflat
        obtain ⟨u0, z00, z01, z02⟩ := (S7.out.own 1 rfl).there k l0
        have T1 := Lib.hid (S7.out.set 1 rfl k (.int .i64 2))
        obtain ⟨u1, z10, z11, z12⟩ := (T1.out.own 1 rfl).there k1 l1
        have T2 := Lib.hid (T1.out.set 1 rfl k1 (.int .i64 2))
        obtain ⟨u2, z20, z21, z22⟩ := (T2.out.own 1 rfl).there k2 l2
        have T3 := Lib.hid (T2.out.set 1 rfl k2 (.int .i64 4))
        obtain ⟨u3, z30, z31, z32⟩ := (T3.out.own 1 rfl).there k3 l3
        have T4 := Lib.hid (T3.out.set 1 rfl k3 (.int .i64 4))
        have HQ := Lib.hid (show List.set (List.set (List.set (List.set (L.map (Value.int .i64)) k (.int .i64 2)) k1 (.int .i64 2)) k2 (.int .i64 4)) k3 (.int .i64 4) = (four L k wd 2 2 4 4).map (Value.int .i64) by unfold four; rw [← HK3.out, ← HK2.out, ← HK1.out, List.map_set, List.map_set, List.map_set, List.map_set])
        clear HK1 HK2 HK3
        go_wp2
        go_ret2
        have ho := T4.out.high 1 rfl
        rw [HQ.out] at ho
        exact boolp_one (P := True) _ _ _ E.out ho T4.out.bel
      · have hflat : flatC r L c = false := by
          rw [flatC_eq Q.out Har.out, decide_eq_false e1]; rfl
        have hupr : uprC r L c = true := by
          have := Hf.out
          unfold canFl at this
          rw [hflat] at this
          simpa using this
        have E := Lib.hid (flipOne_upr HK.out Q.out hflat hupr)
        have e1' : (L.getD k 0 == 1) = false := by simpa using e1
        generalize L.getD k 0 = y0 at *
        clear e1 hflat hupr
        obtain ⟨u0, z00, z01, z02⟩ := (S7.out.own 1 rfl).there k l0
        have T1 := Lib.hid (S7.out.set 1 rfl k (.int .i64 1))
        obtain ⟨u1, z10, z11, z12⟩ := (T1.out.own 1 rfl).there k2 l2
        have T2 := Lib.hid (T1.out.set 1 rfl k2 (.int .i64 1))
        obtain ⟨u2, z20, z21, z22⟩ := (T2.out.own 1 rfl).there k1 l1
        have T3 := Lib.hid (T2.out.set 1 rfl k1 (.int .i64 3))
        obtain ⟨u3, z30, z31, z32⟩ := (T3.out.own 1 rfl).there k3 l3
        have T4 := Lib.hid (T3.out.set 1 rfl k3 (.int .i64 3))
        have HQ := Lib.hid (show List.set (List.set (List.set (List.set (L.map (Value.int .i64)) k (.int .i64 1)) k2 (.int .i64 1)) k1 (.int .i64 3)) k3 (.int .i64 3) = (four L k wd 1 3 1 3).map (Value.int .i64) by rw [← four_alt Q.out.w2, ← HK3.out, ← HK2.out, ← HK1.out, List.map_set, List.map_set, List.map_set, List.map_set])
        clear HK1 HK2 HK3
        go_wp2
        go_ret2
        have ho := T4.out.high 1 rfl
        rw [HQ.out] at ho
        exact boolp_one (P := True) _ _ _ E.out ho T4.out.bel

/-- The corners below k that the reference finds. -/
def flipsM (r : Reg) (L : List Int) (k : Nat) : List Int := ((List.range k).filter (fun k => flipMay r L (k : Nat))).map Int.ofNat
theorem flipsM_yes {r : Reg} {L : List Int} {k : Nat} (h : flipMay r L (k : Nat) = true) : flipsM r L (k + 1) = flipsM r L k ++ [(k : Int)] := by
  unfold flipsM; rw [List.range_succ, List.filter_append, List.map_append]; simp [h]
theorem flipsM_no {r : Reg} {L : List Int} {k : Nat} (h : flipMay r L (k : Nat) = false) : flipsM r L (k + 1) = flipsM r L k := by
  unfold flipsM; rw [List.range_succ, List.filter_append, List.map_append]; simp [h]
theorem flipsM_len (r : Reg) (L : List Int) (k : Nat) : (flipsM r L k).length ≤ k := by
  unfold flipsM; rw [List.length_map]; exact Nat.le_trans (List.length_filter_le _ _) (by simp)
/-- How many corners the reference goes through. -/
def cornN (r : Reg) : Int := if r.valid then corners r else -1
theorem cornN_bd (r : Reg) : -1 ≤ cornN r ∧ cornN r ≤ 49 := by
  unfold cornN; split
  · next h => have := corners_bd h; omega
  · omega
theorem sCornerMany_is (v : Value) (r : Reg) (w : World) (h : RegV w v r) : Calls Try.prog 90 #[v] w (Ret (.int .i64 (cornN r)) w) := by
  unfold cornN
  cases hv : r.valid
  · exact sCornerMany_no v r w h hv
  · exact sCornerMany_any v r w h hv
theorem flipsOf_M (r : Reg) (L : List Int) : flipsOf r L = flipsM r L (cornN r).toNat := by
  unfold flipsOf cornN
  cases hk : laidOk r L
  · rw [if_neg (by decide)]
    unfold flipsM
    rw [List.filter_eq_nil_iff.2 (fun x _ => by rw [flipMay_no hk]; decide)]; rfl
  · rw [if_pos rfl, (laidOk_iff.1 hk).1, if_pos rfl]
    unfold flipsL flipsM
    congr 1
    exact List.filter_congr fun x _ => (flipMay_yes hk).symm
def FmS (w : World) (r : Reg) (s v : Value) (L : List Int) (k : Nat) : List It := [.box w.heap.size #[.int .i64 r.wide, .int .i64 r.tall, s] 25, .row 3 v ((flipsM r L k).map (Value.int .i64))]
theorem fmS_app {w wr w5 : World} {r : Reg} {s : Value} {a : Option Addr} {n c : Nat} {L : List Int} {k g c2 : Nat} (h : Sep w none wr (FmS w r s (.slice a n c) L k)) (hc : flipMay r L (k : Nat) = true)
    (A : App wr 0 3 (.slice a n c) ((flipsM r L k).map (Value.int .i64)) (.int .i64 k) g c2 w5) (hn : n = (flipsM r L k).length) : Sep w none w5 (FmS w r s (.slice (some ⟨g, 0, none⟩) (n + 1) c2) L (k + 1)) := by
  have := h.app 1 rfl A
  rw [List.length_map, ← hn] at this
  unfold FmS
  rw [flipsM_yes hc, List.map_append]
  exact this
set_option maxRecDepth 100000 in
set_option maxHeartbeats 4000000 in
theorem sFlipsOf_any (v u : Value) (r : Reg) (L : List Int) (w : World) (h : RegV w v r) (hu : Il w u L) :
    Calls Try.prog 49 #[v, u] w (RetL (flipsOf r L) w) := by
  obtain ⟨N, hN⟩ : ∃ N, cornN r = N := ⟨_, rfl⟩
  have hbd := cornN_bd r
  rw [hN] at hbd
  obtain ⟨n, hn⟩ : ∃ n, N.toNat = n := ⟨_, rfl⟩
  have HE : Hid (flipsOf r L = flipsM r L n) := Lib.hid (by rw [flipsOf_M, hN, hn])
  have hn0 : n ≤ 49 ∧ (∀ k : Nat, k ≤ n → ((k : Int) < N ↔ k < n)) := ⟨by omega, fun k hk => by omega⟩
  have hn49 := hn0.1
  have HNN := Lib.hid hn0.2
  clear hn hn0
  obtain ⟨ra, rc, rfl, hs, hlc, hcm⟩ := h.opened
  have S0 := Lib.hid (((Sep.start w none).box #[.int .i64 r.wide, .int .i64 r.tall, .slice ra r.cells.length rc] 25).empty 3)
  have HS := Lib.hid hs
  have HU := Lib.hid hu
  have RV : Hid (∀ w', Below w.heap.size w w' → RegV w' (.agg #[.int .i64 r.wide, .int .i64 r.tall, .slice ra r.cells.length rc]) r) := Lib.hid fun w' hb => ⟨_, rfl, HS.out.below hb⟩
  have HC : Hid (∀ w', Below w.heap.size w w' → Calls Try.prog 90 #[.agg #[.int .i64 r.wide, .int .i64 r.tall, .slice ra r.cells.length rc]] w' (Ret (.int .i64 N) w')) := Lib.hid fun w' hb => by rw [← hN]; exact sCornerMany_is _ r w' (RV.out w' hb)
  clear h hs hu hN hbd
  have hsz : (w.alloc (.cells #[.int .i64 r.wide, .int .i64 r.tall, .slice ra r.cells.length rc] 25)).heap.size = w.heap.size + 1 := by simp
  rw [hsz] at S0
  have S0' : Hid (Sep w none _ (FmS w r (.slice ra r.cells.length rc) (.slice (some ⟨w.heap.size + 1, 0, none⟩) 0 0) L 0)) := S0
  clear S0 hsz
  go_enter Try.func49, Try.ntmps49
  go_wp2_with (fail)
  go_loopw [5, 6] (fun o i wr => ∃ (k m g c : Nat), k ≤ n ∧ i = .int .i64 k ∧ o = .slice (some ⟨g, 0, none⟩) m c ∧ m = (flipsM r L k).length ∧ Sep w none wr (FmS w r (.slice ra r.cells.length rc) (.slice (some ⟨g, 0, none⟩) m c) L k)) (fun _ i _ => n - (intOf i).toNat)
  case atStart => exact ⟨0, 0, _, 0, Nat.zero_le _, rfl, rfl, rfl, S0'.out⟩
  case round =>
    clear S0'
    obtain ⟨k, m, g, c, hk, rfl, rfl, hm, S⟩ := hrel
    have HD := Lib.hid S
    have HM := Lib.hid hm
    have hmk : m ≤ 49 := by rw [hm]; exact Nat.le_trans (flipsM_len r L k) (by omega)
    have hiff := HNN.out k hk
    clear S hm
    obtain ⟨x0, x1, x2⟩ := HD.out.c3 0 rfl
    go_wp2_with (fail)
    refine (HC.out _ HD.out.bel).mono ?_
    rintro e w1 ⟨rfl, hb⟩
    have S1 := Lib.hid (HD.out.below hb)
    clear hb HD x0 x1 x2
    by_cases hlt : (k : Int) < N
    · have hlt2 := hiff.1 hlt
      obtain ⟨f, hf⟩ : ∃ f, flipMay r L (k : Nat) = f := ⟨_, rfl⟩
      obtain ⟨x0, x1, x2⟩ := S1.out.c3 0 rfl
      clear hiff
      go_wp2_with (fail)
      refine (sFlipMay_any _ _ r L k _ (RV.out _ S1.out.bel) (HU.out.below S1.out.bel) (by omega) f hf).mono ?_
      rintro e w2 ⟨rfl, hb⟩
      have S2 := Lib.hid (S1.out.below hb)
      clear hb S1 x0 x1 x2
      have HF := Lib.hid hf
      clear hf
      cases f
      · have E : Hid (flipsM r L (k + 1) = flipsM r L k) := Lib.hid (flipsM_no HF.out)
        clear HF
        go_wp2
        go_roundw
        case rel => exact ⟨k + 1, m, g, c, by omega, by go_num, rfl, by rw [E.out]; exact HM.out, by have := S2.out; unfold FmS at this ⊢; rw [E.out]; exact this⟩
        case measure => simp [intOf]; omega
      · go_wp2_with (at_builtin; refine list_app elem_ints 0 (.slice (some ⟨g, 0, none⟩) m c) ((flipsM r L k).map (Value.int .i64)) ?_ w2.heap.size (.int .i64 k) (.tmp 18) (.tmp 20) rfl rfl rfl rfl (heap_alloc_new _ _) rfl ?_ (Nat.zero_le _) ?_; exact Own.alloc (S2.out.own 1 rfl) _; (rw [List.length_map, ← HM.out]; omega); intro g2 c2 w5 A5; (have S5 := Lib.hid (fmS_app (S2.out.alloc _) HF.out A5 HM.out)); clear A5 S2; rw [List.length_map, ← HM.out])
        go_roundw
        case rel => exact ⟨k + 1, m + 1, g2, c2, by omega, by go_num, rfl, by rw [flipsM_yes HF.out, List.length_append, ← HM.out]; rfl, S5.out⟩
        case measure => simp [intOf]; omega
    · have e : k = n := by
        rcases Nat.lt_or_ge k n with h | h
        · exact absurd (hiff.2 h) hlt
        · omega
      subst e
      have HO := Lib.hid (S1.out.high 1 rfl)
      clear hiff
      go_wp2
      go_ret
      exact ⟨_, rfl, by rw [HE.out]; exact HO.out, S1.out.bel⟩

theorem sTilOk_is (v u : Value) (r : Reg) (L : List Int) (w : World) (h : RegV w v r) (hu : Il w u L) (b : Bool) (hb : tilingOk r L = b) : Calls Try.prog 17 #[v, u] w (Ret (.bool b) w) := by rw [← hb]; exact sTilingOk_any v u r L w h hu
set_option maxHeartbeats 1000000 in
theorem sFrozen_any (v u : Value) (r : Reg) (L : List Int) (w : World) (h : RegV w v r) (hu : Il w u L) (b : Bool) (hb0 : frozenB r L = b) : Calls Try.prog 47 #[v, u] w (Ret (.bool b) w) := by
  obtain ⟨a, cap, rfl, hs, hlc, hcm⟩ := h.opened
  have R0 := Lib.hid (RB.new hs)
  have B0 := Lib.hid (below_alloc w (.cells #[.int .i64 r.wide, .int .i64 r.tall, .slice a r.cells.length cap] 25))
  have HU := Lib.hid hu
  have HB := Lib.hid hb0
  clear h hs hu hb0
  go_enter Try.func47, Try.ntmps47
  go_wp2_with (fail)
  cases hk : tilingOk r L
  · refine (sTilOk_is _ _ r L _ R0.out.v (HU.out.below B0.out) false hk).mono ?_
    rintro e w1 ⟨rfl, hb⟩
    have B1 := Lib.hid (B0.out.trans (hb.mono B0.out.size))
    have E : Hid (b = false) := Lib.hid (by rw [← HB.out]; unfold frozenB; rw [hk]; rfl)
    clear hb
    go_wp2
    go_ret
    exact ⟨ret_bool E.out.symm, B1.out⟩
  · refine (sTilOk_is _ _ r L _ R0.out.v (HU.out.below B0.out) true hk).mono ?_
    rintro e w1 ⟨rfl, hb⟩
    have R1 := Lib.hid (R0.out.on hb)
    have B1 := Lib.hid (B0.out.trans (hb.mono B0.out.size))
    have E : Hid (b = decide ((flipsOf r L).length = 0)) := Lib.hid (by rw [← HB.out]; unfold frozenB flipsOf; rw [hk, (tilingOk_iff.1 hk).1]; rfl)
    clear hb R0
    obtain ⟨x0, x1, x2⟩ := R1.out.c3
    go_wp2_with (fail)
    refine (sFlipsOf_any _ _ r L _ R1.out.v (HU.out.below B1.out)).mono ?_
    rintro e w2 ⟨v2, rfl, ho, hb⟩
    have B2 := Lib.hid (B1.out.trans (hb.mono B1.out.size))
    obtain ⟨a2, c2, rfl⟩ := ho.formM
    clear hb ho R1 x0 x1 x2
    generalize (flipsOf r L).length = m at *
    by_cases hm : m = 0
    · subst hm
      go_wp2
      go_ret
      exact ⟨ret_bool E.out.symm, B2.out⟩
    · have G : Hid (b = false) := Lib.hid (by rw [E.out]; exact decide_eq_false hm)
      have hm' : ((m : Int) == 0) = false := by simpa using hm
      go_wp2
      go_ret
      exact ⟨ret_bool G.out.symm, B2.out⟩
end Go.Proofs.Ytcagpfnlpjfgeaa
