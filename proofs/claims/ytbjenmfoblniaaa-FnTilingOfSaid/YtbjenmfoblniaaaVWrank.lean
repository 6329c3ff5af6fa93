/- Walks: l3With, RankOf, TilingOf of the reference. -/
import Derived.Test.YtbjenmfoblniaaaZe
import Derived.Test.YtbjenmfoblniaaaVClipI
import Derived.Test.YtbjenmfoblniaaaVWless
import Derived.Test.YtbjenmfoblniaaaVWfrontB
import Derived.Test.YtbjenmfoblniaaaVWone
import Derived.Test.YtbjenmfoblniaaaVWcomp
import Derived.Test.YtbjenmfoblniaaaVWtokS
import Derived.Test.YtbjenmfoblniaaaVLaw
import Derived.Test.YtbjenmfoblniaaaVLil
import Derived.Test.YtbjenmfoblniaaaZd
import Derived.Test.YtbjenmfoblniaaaVWd
set_option linter.unusedVariables false
namespace Go.Proofs.Ytbjenmfoblniaaa
open Go.RowKit Domi

/-- The covered cells below k. -/
def covN (L : List Int) (k : Nat) : List Nat := (List.range k).filter fun j => decide (L.getD j 0 ≠ 0)
theorem covN_yes {L : List Int} {k : Nat} (h : L.getD k 0 ≠ 0) : covN L (k + 1) = covN L k ++ [k] := by
  have hd : decide (L.getD k 0 ≠ 0) = true := decide_eq_true h
  unfold covN; rw [List.range_succ, List.filter_append]
  simp only [List.filter_cons, List.filter_nil, hd, if_true]
theorem covN_no {L : List Int} {k : Nat} (h : L.getD k 0 = 0) : covN L (k + 1) = covN L k := by
  have hd : decide (L.getD k 0 ≠ 0) = false := decide_eq_false fun h1 => h1 h
  unfold covN; rw [List.range_succ, List.filter_append]
  simp only [List.filter_cons, List.filter_nil, hd, Bool.false_eq_true, if_false, List.append_nil]
theorem covN_len (L : List Int) (k : Nat) : (covN L k).length ≤ k := by
  unfold covN; exact Nat.le_trans (List.length_filter_le _ _) (by simp)
theorem covN_lt (L : List Int) (n : Nat) : ∀ i, i < (covN L n).length → (covN L n).getD i 0 < n := fun i hi => by
  have hm : (covN L n).getD i 0 ∈ covN L n := by
    rw [List.getD_eq_getElem?_getD, List.getElem?_eq_getElem hi]; exact List.getElem_mem hi
  exact List.mem_range.1 (List.mem_filter.1 hm).1
theorem lessL_get (cs : List Nat) (j : Nat) : ∀ l : List Bool, (lessL l cs).getD j false = (l.getD j false && !cs.contains j) := by
  induction cs with
  | nil => intro l; simp [lessL]
  | cons c cs ih =>
    intro l
    show (lessL (l.set c false) cs).getD j false = _
    rw [ih, List.contains_cons]
    by_cases e : c = j
    · subst e
      by_cases hc : c < l.length
      · rw [getD_setB _ _ _ _ hc, if_pos rfl]; simp
      · rw [show (l.set c false).getD c false = false by rw [List.getD_eq_getElem?_getD, List.getElem?_eq_none (by rw [List.length_set]; omega)]; rfl]; simp
    · rw [getD_setB' _ _ _ _ e]
      have : (j == c) = false := by simpa using fun h => e h.symm
      rw [this, Bool.false_or]
theorem cnt_lessL (cs : List Nat) : ∀ l : List Bool, cnt (lessL l cs) ≤ cnt l := by
  induction cs with
  | nil => intro l; exact Int.le_refl _
  | cons c cs ih => intro l; exact Int.le_trans (ih (l.set c false)) (cnt_less l c)
theorem lessN_valid {r : Reg} (h : r.valid = true) (cs : List Nat) : (r.lessN cs).valid = true := by
  obtain ⟨h1, h2, h3, h4⟩ := Reg.valid_iff.1 h
  refine Reg.valid_iff.2 ⟨h1, h2, ?_, Int.le_trans (cnt_lessL cs r.cells) h4⟩
  show ((lessL r.cells cs).length : Int) = _
  rw [lessL_len]; exact h3
theorem with_cov {r : Reg} {L : List Int} (h : laidOk r L = true) : manyT (r.lessN (covN L L.length)) = ((withL r L : Nat) : Int) := by
  obtain ⟨hv, hlen, _⟩ := laidOk_iff.1 h
  have hv2 := lessN_valid hv (covN L L.length)
  rw [← withL_bare hv2]
  congr 1
  unfold withL
  have hl : (bareL (r.lessN (covN L L.length))).length = L.length := by
    rw [bareL_len hv2, hlen]; exact lessL_len _ _
  rw [hl]
  refine tilC_left (by rfl) (by rfl) _ _ _ _ ?_ fun j => ?_
  · unfold covB; rw [List.length_map, List.length_map, hl]
  rw [covB_get, covB_get, bareL_get]
  have e : (r.lessN (covN L L.length)).f j = (r.f j && !(covN L L.length).contains j) := lessL_get _ _ _
  rw [e]
  have e2 : (covN L L.length).contains j = decide (L.getD j 0 ≠ 0) := by
    rw [List.contains_eq_mem]
    refine decide_eq_decide.2 ?_
    unfold covN
    rw [List.mem_filter, List.mem_range, decide_eq_true_eq]
    refine ⟨fun h => h.2, fun h => ⟨?_, h⟩⟩
    rcases Nat.lt_or_ge j L.length with hj | hj
    · exact hj
    · exact absurd (getD_far hj) h
  rw [e2]
  simp
theorem covS_app {w wr w5 : World} {r : Reg} {s : Value} {g n c : Nat} {L : List Int} {k g2 c2 : Nat} (h : Sep w none wr (BoS w r s (.slice (some ⟨g, 0, none⟩) n c) ((covN L k).map fun j : Nat => (j : Int))))
    (A : App wr 0 3 (.slice (some ⟨g, 0, none⟩) n c) (((covN L k).map fun j : Nat => (j : Int)).map (Value.int .i64)) (.int .i64 k) g2 c2 w5) (hn : n = (covN L k).length) (hc : L.getD k 0 ≠ 0) :
    Sep w none w5 (BoS w r s (.slice (some ⟨g2, 0, none⟩) (n + 1) c2) ((covN L (k + 1)).map fun j : Nat => (j : Int))) := by
  have := boS_app h A (by rw [List.length_map]; exact hn)
  rw [covN_yes hc, List.map_append]
  exact this
set_option maxRecDepth 100000 in
set_option maxHeartbeats 2000000 in
theorem l3With_any (v u : Value) (r : Reg) (L : List Int) (w : World) (h : RegV w v r) (hu : Il w u L) (hk : laidOk r L = true) (n : Nat) (hn0 : withL r L = n) :
    Calls Try.prog 98 #[v, u] w (Ret (.int .i64 (n : Int)) w) := by
  obtain ⟨hv, hlen, _⟩ := laidOk_iff.1 hk
  obtain ⟨v1, v2, v3, _⟩ := Reg.valid_iff.1 hv
  have hA := area_in v1 v2
  have hl : 0 < r.cells.length ∧ r.cells.length ≤ 36 := by omega
  have hL36 : 0 < L.length ∧ L.length ≤ 36 := by omega
  have HQ := Lib.hid ((with_cov hk).trans (by rw [hn0]))
  have HLT : Hid (∀ i, i < (covN L L.length).length → (covN L L.length).getD i 0 < r.cells.length) := Lib.hid fun i hi => by rw [← hlen]; exact covN_lt L _ i hi
  obtain ⟨ra, rc, rfl, hs, hlc, hcm⟩ := h.opened
  have S0 := Lib.hid (((Sep.start w none).box #[.int .i64 r.wide, .int .i64 r.tall, .slice ra r.cells.length rc] 29).empty 3)
  have hsz : (w.alloc (.cells #[.int .i64 r.wide, .int .i64 r.tall, .slice ra r.cells.length rc] 29)).heap.size = w.heap.size + 1 := by simp
  rw [hsz] at S0
  have S0 : Hid (Sep w none _ (BoS w r (.slice ra r.cells.length rc) (.slice (some ⟨w.heap.size + 1, 0, none⟩) 0 0) ((covN L 0).map fun j : Nat => (j : Int)))) := S0
  have HS := Lib.hid hs
  have RV : Hid (∀ w', Below w.heap.size w w' → RegV w' (.agg #[.int .i64 r.wide, .int .i64 r.tall, .slice ra r.cells.length rc]) r) := Lib.hid fun w' hb => ⟨_, rfl, HS.out.below hb⟩
  obtain ⟨ub, uo, uc, rfl, hub, hucell, hul, hum⟩ := Il.pos hu hL36.1
  have HUC := Lib.hid hucell
  clear h hs hsz hu hucell hk hv hlen v1 v2 v3 hA hn0
  go_enter Try.func98, Try.ntmps98
  go_wp2_with (fail)
  go_loopw [5, 6] (fun o i wr => ∃ (k m g c : Nat), k ≤ L.length ∧ i = .int .i64 k ∧ o = .slice (some ⟨g, 0, none⟩) m c ∧ Hid (m = (covN L k).length) ∧ Sep w none wr (BoS w r (.slice ra r.cells.length rc) (.slice (some ⟨g, 0, none⟩) m c) ((covN L k).map fun j : Nat => (j : Int)))) (fun _ i _ => L.length - (intOf i).toNat)
  case atStart => exact ⟨0, 0, _, 0, Nat.zero_le _, rfl, rfl, Lib.hid rfl, S0.out⟩
  case round =>
    clear S0
    obtain ⟨k, m, g, c, hk, rfl, rfl, HM, S⟩ := hrel
    have HD := Lib.hid S
    have hm36 : m ≤ 36 := by have h1 := HM.out; have h2 := covN_len L k; omega
    clear S
    by_cases hlt : k < L.length
    · have hlt' : (k : Int) < (L.length : Int) := by omega
      have hc0 := HUC.out wr HD.out.bel k hlt
      have hub1 : ub < wr.heap.size := Nat.lt_of_lt_of_le hub HD.out.bel.size
      by_cases hz : L.getD k 0 = 0
      · have E : Hid (covN L (k + 1) = covN L k) := Lib.hid (covN_no hz)
        rw [hz] at hc0
        clear hz
        go_wp2
        go_roundw
        case rel => exact ⟨k + 1, m, g, c, by omega, by go_num, rfl, by rw [E.out]; exact HM, by rw [E.out]; exact HD.out⟩
        case measure => simp [intOf]; omega
      · have E : Hid (covN L (k + 1) = covN L k ++ [k]) := Lib.hid (covN_yes hz)
        have HZ := Lib.hid hz
        have hz' : (L.getD k 0 != 0) = true := by simpa using hz
        generalize hy : L.getD k 0 = y at hc0 hz'
        clear hz hy
        go_wp2_with (at_builtin; refine list_app elem_ints 0 (.slice (some ⟨g, 0, none⟩) m c) (((covN L k).map fun j : Nat => (j : Int)).map (Value.int .i64)) ?_ wr.heap.size (.int .i64 k) (.tmp 19) (.tmp 21) rfl rfl rfl rfl (heap_alloc_new _ _) rfl ?_ (Nat.zero_le _) ?_; exact Own.alloc (HD.out.own 1 rfl) _; (rw [List.length_map, List.length_map, ← HM.out]; omega); intro g2 c2 w5 A5; (have S5 := Lib.hid (covS_app (HD.out.alloc _) A5 HM.out HZ.out)); clear A5 HD; rw [List.length_map, List.length_map, ← HM.out])
        go_roundw
        case rel => exact ⟨k + 1, m + 1, g2, c2, by omega, by go_num, rfl, Lib.hid (by rw [E.out, List.length_append, ← HM.out]; rfl), S5.out⟩
        case measure => simp [intOf]; omega
    · have e : k = L.length := by omega
      subst e
      have HO := Lib.hid (HD.out.own 1 rfl).sl
      have B1 := Lib.hid HD.out.bel
      obtain ⟨x0, x1, x2⟩ := HD.out.c3 0 rfl
      go_wp2_with (fail)
      refine (l3Less_any _ _ r (covN L L.length) _ (RV.out _ B1.out) HO.out hl HLT.out).mono ?_
      rintro e w6 ⟨v6, rfl, hv6, hb6⟩
      have HV6 := Lib.hid hv6
      have B6 := Lib.hid (B1.out.trans (hb6.mono B1.out.size))
      clear hv6 hb6 HD x0 x1 x2
      go_wp2_with (fail)
      refine (sTilingsMany_any _ _ _ HV6.out).mono ?_
      rw [HQ.out]
      rintro e w7 ⟨rfl, hb7⟩
      have B7 := Lib.hid (B6.out.trans (hb7.mono B6.out.size))
      clear hb7 HV6
      go_wp2
      go_ret
      exact ⟨rfl, B7.out⟩
theorem manyBd {r : Reg} {L : List Int} (h : laidOk r L = true) : withL r L ≤ 1099511627776 := by
  have h1 := manyT_bd (lessN_valid (laidOk_iff.1 h).1 (covN L L.length))
  rw [with_cov h] at h1
  omega
theorem sTilOk2_is (v u : Value) (r : Reg) (L : List Int) (w : World) (h : RegV w v r) (hu : Il w u L) (b : Bool) (hb : tilingOk r L = b) : Calls Try.prog 94 #[v, u] w (Ret (.bool b) w) := by rw [← hb]; exact sTilingOk_any v u r L w h hu
theorem l2First_is (v u : Value) (r : Reg) (L : List Int) (w : World) (h : RegV w v r) (hu : Il w u L) (hlen : L.length = r.cells.length) (c : Int) (hc : firstI r L = c) : Calls Try.prog 96 #[v, u] w (Ret (.int .i64 c) w) := by rw [← hc]; exact l2First_any v u r L w h hu hlen
theorem sLayOne_is (v u : Value) (r : Reg) (L : List Int) (c way : Int) (w : World) (h : RegV w v r) (hu : Il w u L) (X : List Int) (b : Bool) (hq : layOne r L c way = (X, b)) : Calls Try.prog 97 #[v, u, .int .i64 c, .int .i64 way] w (fun e w' => ∃ v, e = .returned (.tuple #[v, .bool b]) ∧ Il w' v X ∧ Below w.heap.size w w') :=
  (sLayOne_any v u r L c way w h hu).mono fun e w' ⟨x, he, ho, hb⟩ => by rw [hq] at he ho; exact ⟨x, he, ho.sl, hb⟩
/-- What the reference's RankOf keeps. -/
structure RkI (r : Reg) (T L : List Int) (tot rk n : Nat) : Prop where
  ok : laidOk r L = true
  ext : Ext L T
  fuel : openN r L < n
  sum : rk + idxN (tils n r L) T = tot
theorem RkI.north {r : Reg} {T L : List Int} {tot rk n k : Nat} (h : RkI r T L tot rk n) (hT : tilingOk r T = true) (hf : firstN r L = some k) (h2 : T.getD k 0 = 2) : free r L k 2 = true ∧ ∃ m, RkI r T (layL r L k 2) tot (rk + eastM r L k) m := by
  obtain ⟨m, rfl⟩ : ∃ m, n = m + 1 := ⟨n - 1, by have := h.fuel; omega⟩
  obtain ⟨a, b⟩ := first_free hf h.ok hT h.ext
  rw [h2] at a b
  have := openN_lay h.ok a
  have hs := h.sum
  have hfu := h.fuel
  rw [rank_north hf h.ok h.fuel hT h.ext h2] at hs
  exact ⟨a, m, lay_ok h.ok a, b, by omega, by omega⟩
theorem RkI.east {r : Reg} {T L : List Int} {tot rk n k : Nat} (h : RkI r T L tot rk n) (hT : tilingOk r T = true) (hf : firstN r L = some k) (h2 : T.getD k 0 = 1) : free r L k 1 = true ∧ ∃ m, RkI r T (layL r L k 1) tot rk m := by
  obtain ⟨m, rfl⟩ : ∃ m, n = m + 1 := ⟨n - 1, by have := h.fuel; omega⟩
  obtain ⟨a, b⟩ := first_free hf h.ok hT h.ext
  rw [h2] at a b
  have := openN_lay h.ok a
  have hs := h.sum
  have hfu := h.fuel
  rw [rank_east hf h.ok h.fuel hT h.ext h2] at hs
  exact ⟨a, m, lay_ok h.ok a, b, by omega, hs⟩
theorem RkI.end_ {r : Reg} {T L : List Int} {tot rk n : Nat} (h : RkI r T L tot rk n) (hT : tilingOk r T = true) (hf : firstN r L = none) : rk = tot := by
  obtain ⟨m, rfl⟩ : ∃ m, n = m + 1 := ⟨n - 1, by have := h.fuel; omega⟩
  have hs := h.sum
  rw [rank_done hf h.ok hT h.ext] at hs
  omega
theorem RkI.start {r : Reg} {T : List Int} (hT : tilingOk r T = true) : RkI r T (bareL r) (idxN (tilsR r) T) 0 40 := by
  have hv := (laidOk_iff.1 (tilingOk_iff.1 hT).1).1
  exact ⟨bare_laid hv, fun k hk => absurd (bareL_get r k) hk, bare_open hv, by rw [tilsR_yes hv]; omega⟩
theorem RkI.le {r : Reg} {T L : List Int} {tot rk n : Nat} (h : RkI r T L tot rk n) : rk ≤ tot := by have := h.sum; omega
theorem first_at {r : Reg} {L : List Int} {k : Nat} (h : laidOk r L = true) (hf : firstN r L = some k) : k < r.cells.length ∧ k < L.length := by
  have h1 := (firstN_is hf).1
  have h2 := (laidOk_iff.1 h).2.1
  exact ⟨by omega, h1⟩
theorem east_yes {r : Reg} {L : List Int} {k : Nat} (h : free r L k 1 = true) : eastM r L k = withL r (layL r L k 1) := by unfold eastM; rw [if_pos h]
theorem east_no {r : Reg} {L : List Int} {k : Nat} (h : free r L k 1 = false) : eastM r L k = 0 := by unfold eastM; rw [h]; rfl
set_option maxRecDepth 100000 in
set_option maxHeartbeats 4000000 in
theorem sRankOf_any (v u : Value) (r : Reg) (T : List Int) (w : World) (h : RegV w v r) (hu : Il w u T) (b : Int) (hb0 : rankR r T = b) :
    Calls Try.prog 55 #[v, u] w (Ret (.int .i64 b) w) := by
  obtain ⟨a, cap, rfl, hs, hlc, hcm⟩ := h.opened
  have R0 := Lib.hid (RB.new hs)
  have B0 := Lib.hid (below_alloc w (.cells #[.int .i64 r.wide, .int .i64 r.tall, .slice a r.cells.length cap] 29))
  have HU := Lib.hid hu
  have HB := Lib.hid hb0
  obtain ⟨ua, uc, rfl, hul, hum, _⟩ := hu.opened
  clear h hs hu hb0
  go_enter Try.func55, Try.ntmps55
  go_wp2_with (fail)
  cases hk : tilingOk r T
  · refine (sTilOk2_is _ _ r T _ R0.out.v (HU.out.below B0.out) false hk).mono ?_
    rintro e w1 ⟨rfl, hb⟩
    have B1 := Lib.hid (B0.out.trans (hb.mono B0.out.size))
    have E : Hid (b = -1) := Lib.hid (by rw [← HB.out, rankR_no hk])
    clear hb
    go_wp2
    go_ret
    exact ⟨ret_int E.out.symm, B1.out⟩
  refine (sTilOk2_is _ _ r T _ R0.out.v (HU.out.below B0.out) true hk).mono ?_
  rintro e w1 ⟨rfl, hb⟩
  have B1 := Lib.hid (B0.out.trans (hb.mono B0.out.size))
  have R1 := Lib.hid (R0.out.on hb)
  obtain ⟨tot, ht⟩ : ∃ t, idxN (tilsR r) T = t := ⟨_, rfl⟩
  have E : Hid (b = (tot : Int)) := Lib.hid (by rw [← HB.out, rankR_yes hk, ht])
  have I0 := RkI.start hk
  have htb : tot ≤ 1099511627776 := by
    have h1 := idxN_le (tilsR r) T
    have hv := (laidOk_iff.1 (tilingOk_iff.1 hk).1).1
    have h2 := manyT_bd hv
    rw [manyT_yes hv] at h2
    omega
  rw [ht] at I0
  have I0 := Lib.hid I0
  have HT := Lib.hid hk
  have HLT := Lib.hid (laidOk_iff.1 (tilingOk_iff.1 hk).1).2.1
  clear hb R0 B0 HB ht hk
  obtain ⟨x0, x1, x2⟩ := R1.out.c3
  go_wp2_with (fail)
  refine (sLaidBare_any _ r _ R1.out.v).mono ?_
  rintro e w2 ⟨v2, rfl, ho, hb⟩
  have B2 := Lib.hid (B1.out.trans (hb.mono B1.out.size))
  have R2 := Lib.hid (R1.out.on hb)
  have N2 := Lib.hid ho.sl
  clear hb ho R1 x0 x1 x2
  obtain ⟨x0, x1, x2⟩ := R2.out.c3
  obtain ⟨c0, hc0⟩ : ∃ c, firstI r (bareL r) = c := ⟨_, rfl⟩
  go_wp2_with (fail)
  refine (l2First_is _ _ r (bareL r) _ R2.out.v N2.out (laidOk_iff.1 I0.out.ok).2.1 c0 hc0).mono ?_
  rintro e w3 ⟨rfl, hb⟩
  have B3 := Lib.hid (B2.out.trans (hb.mono B2.out.size))
  have R3 := Lib.hid (R2.out.on hb)
  have N3 := Lib.hid (Sl.below N2.out hb)
  have HC := Lib.hid hc0
  clear hb R2 N2 x0 x1 x2 hc0
  go_wp2_with (fail)
  go_loopw [5, 6, 7] (fun p o i wr => ∃ (L : List Int) (rk n : Nat) (c : Int), i = .int .i64 c ∧ p = .int .i64 (rk : Int) ∧ Hid (firstI r L = c) ∧ Hid (RkI r T L tot rk n) ∧ Il wr o L ∧ Below w3.heap.size w3 wr) (fun _ _ i _ => leftI r.cells.length (intOf i))
  case atStart => exact ⟨bareL r, 0, 40, c0, rfl, rfl, HC, I0, N3.out, Below.refl _ _⟩
  case round =>
    clear N3 HC I0
    obtain ⟨L, rk, n, c, rfl, rfl, HC, HI, hn, hbw⟩ := hrel
    have HBW := Lib.hid hbw
    have R4 := Lib.hid (R3.out.on hbw)
    have N4 := Lib.hid hn
    have B4 := Lib.hid (B3.out.trans (hbw.mono B3.out.size))
    have hrk := HI.out.le
    clear hn hbw
    cases hf : firstN r L with
    | none =>
      have e := HC.out
      rw [firstI_none hf] at e
      subst e
      have e2 := HI.out.end_ HT.out hf
      subst e2
      clear HC HI
      go_wp2
      go_ret
      exact ⟨ret_int E.out.symm, B4.out⟩
    | some k =>
      have e := HC.out
      rw [firstI_some hf] at e
      subst e
      have hkl := first_at HI.out.ok hf
      have hkT : k < T.length := by have := HLT.out; omega
      have hkT' : (k : Int) < (T.length : Int) := by omega
      obtain ⟨tb, tf, rfl, htb1, htc⟩ := il_at (Sl.below HU.out B4.out) hkT
      have hw := first_way HI.out.ok HT.out HI.out.ext hf
      have HF := Lib.hid hf
      have hll : L.length = r.cells.length := (laidOk_iff.1 HI.out.ok).2.1
      have HLL := Lib.hid hll
      have R4v := R4
      clear HC hf hll
      obtain ⟨x0, x1, x2⟩ := R4.out.c3
      have sX := R4.out.lt
      by_cases h2 : T.getD k 0 = 2
      · rw [h2] at htc
        obtain ⟨hfr2, m2, hI2⟩ := HI.out.north HT.out HF.out h2
        have HI2 := Lib.hid hI2
        have HFR2 := Lib.hid hfr2
        have HM2 : Hid (leftI r.cells.length (firstI r (layL r L k 2)) < leftI r.cells.length (k : Int)) := Lib.hid (by rw [← HLL.out]; exact left_less HI.out.ok HF.out hfr2)
        clear hw h2 hI2 hfr2
        cases hfr1 : free r L k 1
        · have Q1 := Lib.hid (layOne_same HI.out.ok hfr1)
          rw [east_no hfr1] at HI2
          have HI2 : Hid (RkI r T (layL r L k 2) tot rk m2) := HI2
          clear hfr1
          go_wp2_with (fail)
          refine (sLayOne_is _ _ r L k 1 _ R4.out.v N4.out _ _ Q1.out).mono ?_
          rintro e w5 ⟨v5, rfl, hv5, hb⟩
          have HB5 := Lib.hid (HBW.out.trans (hb.mono HBW.out.size))
          have R5 := Lib.hid (R4.out.on hb)
          have N5 := Lib.hid (Sl.below N4.out hb)
          have htc := ((bcell hb).1 tb (tf + k) htb1).trans htc
          have htb1 : tb < w5.heap.size := Nat.lt_of_lt_of_le htb1 hb.size
          clear hv5 hb x0 x1 x2 sX
          obtain ⟨x0, x1, x2⟩ := R5.out.c3
          have sX := R5.out.lt
          have Q2 := Lib.hid (layOne_yes HI.out.ok HFR2.out)
          go_wp2_with (fail)
          go_region_held3 (fun w' => w'.cell? ⟨w.heap.size, 0, none⟩ = some (.int .i64 r.wide) ∧ w'.cell? ⟨w.heap.size, 1, none⟩ = some (.int .i64 r.tall) ∧ w'.cell? ⟨w.heap.size, 2, none⟩ = some (.slice a r.cells.length cap) ∧ w'.cell? ⟨tb, tf + k, none⟩ = some (.int .i64 2))
            (first | go_keep | assumption | exact ⟨(cell_behind BY sX).trans x0, (cell_behind BY sX).trans x1, (cell_behind BY sX).trans x2, (cell_behind BY htb1).trans htc⟩)
            ((first | (go_at_call 97; refine (sLayOne_is _ _ r L k 2 _ (R5.out.on (Below.refl _ _).drew).v (N5.out.below (Below.refl _ _).drew) _ _ Q2.out).mono ?_; rintro e w6 ⟨v6, rfl, hv6, hb6⟩; (have BY : Below w5.heap.size w5 w6 := (Below.refl _ _).drew.trans hb6); have N6 := Lib.hid hv6; clear hv6 hb6)))
          have HB6 := Lib.hid (HB5.out.trans (BY.mono HB5.out.size))
          have R6 := Lib.hid (R5.out.on BY)
          clear BY x0 x1 x2 sX htc htb1 N5 R5
          obtain ⟨x0, x1, x2⟩ := R6.out.c3
          obtain ⟨c7, hc7⟩ : ∃ c, firstI r (layL r L k 2) = c := ⟨_, rfl⟩
          rw [hc7] at HM2
          go_wp2_with (fail)
          refine (l2First_is _ _ r _ _ R6.out.v N6.out (laidOk_iff.1 HI2.out.ok).2.1 c7 hc7).mono ?_
          rintro e w7 ⟨rfl, hb⟩
          have HB7 := Lib.hid (HB6.out.trans (hb.mono HB6.out.size))
          have N7 := Lib.hid (Sl.below N6.out hb)
          have HC7 := Lib.hid hc7
          clear hb hc7 x0 x1 x2
          go_wp2
          go_roundw
          case rel => exact ⟨_, rk, m2, c7, rfl, rfl, HC7, HI2, N7.out, HB7.out⟩
          case measure => exact HM2.out
        · have Q1 := Lib.hid (layOne_yes HI.out.ok hfr1)
          obtain ⟨q, hq⟩ : ∃ q, withL r (layL r L k 1) = q := ⟨_, rfl⟩
          rw [east_yes hfr1, hq] at HI2
          have hqb : q ≤ 1099511627776 := by rw [← hq]; exact manyBd (lay_ok HI.out.ok hfr1)
          have HLO := Lib.hid (lay_ok HI.out.ok hfr1)
          have HQ := Lib.hid hq
          clear hfr1 hq
          go_wp2_with (fail)
          refine (sLayOne_is _ _ r L k 1 _ R4.out.v N4.out _ _ Q1.out).mono ?_
          rintro e w5 ⟨v5, rfl, hv5, hb⟩
          have HB5 := Lib.hid (HBW.out.trans (hb.mono HBW.out.size))
          have R5 := Lib.hid (R4.out.on hb)
          have N5 := Lib.hid (Sl.below N4.out hb)
          have V5 := Lib.hid hv5
          have htc := ((bcell hb).1 tb (tf + k) htb1).trans htc
          have htb1 : tb < w5.heap.size := Nat.lt_of_lt_of_le htb1 hb.size
          clear hv5 hb x0 x1 x2 sX
          obtain ⟨x0, x1, x2⟩ := R5.out.c3
          go_wp2_with (fail)
          refine (l3With_any _ _ r (layL r L k 1) _ R5.out.v V5.out HLO.out q HQ.out).mono ?_
          rintro e w8 ⟨rfl, hb⟩
          have HB5 := Lib.hid (HB5.out.trans (hb.mono HB5.out.size))
          have R5 := Lib.hid (R5.out.on hb)
          have N5 := Lib.hid (Sl.below N5.out hb)
          have htc := ((bcell hb).1 tb (tf + k) htb1).trans htc
          have htb1 : tb < w8.heap.size := Nat.lt_of_lt_of_le htb1 hb.size
          clear hb x0 x1 x2 V5 HLO HQ Q1
          obtain ⟨x0, x1, x2⟩ := R5.out.c3
          have sX := R5.out.lt
          have Q2 := Lib.hid (layOne_yes HI.out.ok HFR2.out)
          go_wp2_with (fail)
          go_region_held3 (fun w' => w'.cell? ⟨w.heap.size, 0, none⟩ = some (.int .i64 r.wide) ∧ w'.cell? ⟨w.heap.size, 1, none⟩ = some (.int .i64 r.tall) ∧ w'.cell? ⟨w.heap.size, 2, none⟩ = some (.slice a r.cells.length cap) ∧ w'.cell? ⟨tb, tf + k, none⟩ = some (.int .i64 2))
            (first | go_keep | assumption | exact ⟨(cell_behind BY sX).trans x0, (cell_behind BY sX).trans x1, (cell_behind BY sX).trans x2, (cell_behind BY htb1).trans htc⟩)
            ((first | (go_at_call 97; refine (sLayOne_is _ _ r L k 2 _ (R5.out.on (Below.refl _ _).drew).v (N5.out.below (Below.refl _ _).drew) _ _ Q2.out).mono ?_; rintro e w6 ⟨v6, rfl, hv6, hb6⟩; (have BY : Below w8.heap.size w8 w6 := (Below.refl _ _).drew.trans hb6); have N6 := Lib.hid hv6; clear hv6 hb6)))
          have HB6 := Lib.hid (HB5.out.trans (BY.mono HB5.out.size))
          have R6 := Lib.hid (R5.out.on BY)
          clear BY x0 x1 x2 sX htc htb1 N5 R5
          obtain ⟨x0, x1, x2⟩ := R6.out.c3
          obtain ⟨c7, hc7⟩ : ∃ c, firstI r (layL r L k 2) = c := ⟨_, rfl⟩
          rw [hc7] at HM2
          go_wp2_with (fail)
          refine (l2First_is _ _ r _ _ R6.out.v N6.out (laidOk_iff.1 HI2.out.ok).2.1 c7 hc7).mono ?_
          rintro e w7 ⟨rfl, hb⟩
          have HB7 := Lib.hid (HB6.out.trans (hb.mono HB6.out.size))
          have N7 := Lib.hid (Sl.below N6.out hb)
          have HC7 := Lib.hid hc7
          clear hb hc7 x0 x1 x2
          go_wp2
          go_roundw
          case rel => exact ⟨_, rk + q, m2, c7, rfl, by go_num, HC7, HI2, N7.out, HB7.out⟩
          case measure => exact HM2.out
      · have h1 : T.getD k 0 = 1 := by omega
        rw [h1] at htc
        obtain ⟨hfr1, m2, hI2⟩ := HI.out.east HT.out HF.out h1
        have HI2 := Lib.hid hI2
        have HFR2 := Lib.hid hfr1
        have HM2 : Hid (leftI r.cells.length (firstI r (layL r L k 1)) < leftI r.cells.length (k : Int)) := Lib.hid (by rw [← HLL.out]; exact left_less HI.out.ok HF.out hfr1)
        have Q2 := Lib.hid (layOne_yes HI.out.ok HFR2.out)
        clear hw h1 h2 hI2 hfr1
        go_wp2_with (fail)
        go_region_held3 (fun w' => w'.cell? ⟨w.heap.size, 0, none⟩ = some (.int .i64 r.wide) ∧ w'.cell? ⟨w.heap.size, 1, none⟩ = some (.int .i64 r.tall) ∧ w'.cell? ⟨w.heap.size, 2, none⟩ = some (.slice a r.cells.length cap) ∧ w'.cell? ⟨tb, tf + k, none⟩ = some (.int .i64 1))
          (first | go_keep | assumption | exact ⟨(cell_behind BY sX).trans x0, (cell_behind BY sX).trans x1, (cell_behind BY sX).trans x2, (cell_behind BY htb1).trans htc⟩)
          ((first | (go_at_call 97; refine (sLayOne_is _ _ r L k 1 _ (R4.out.on (Below.refl _ _).drew).v (N4.out.below (Below.refl _ _).drew) _ _ Q2.out).mono ?_; rintro e w6 ⟨v6, rfl, hv6, hb6⟩; (have BY : Below wr.heap.size wr w6 := (Below.refl _ _).drew.trans hb6); have N6 := Lib.hid hv6; clear hv6 hb6)))
        have HB6 := Lib.hid (HBW.out.trans (BY.mono HBW.out.size))
        have R6 := Lib.hid (R4.out.on BY)
        clear BY x0 x1 x2 sX htc htb1 N4 R4
        obtain ⟨x0, x1, x2⟩ := R6.out.c3
        obtain ⟨c7, hc7⟩ : ∃ c, firstI r (layL r L k 1) = c := ⟨_, rfl⟩
        rw [hc7] at HM2
        go_wp2_with (fail)
        refine (l2First_is _ _ r _ _ R6.out.v N6.out (laidOk_iff.1 HI2.out.ok).2.1 c7 hc7).mono ?_
        rintro e w7 ⟨rfl, hb⟩
        have HB7 := Lib.hid (HB6.out.trans (hb.mono HB6.out.size))
        have N7 := Lib.hid (Sl.below N6.out hb)
        have HC7 := Lib.hid hc7
        clear hb hc7 x0 x1 x2
        go_wp2
        go_roundw
        case rel => exact ⟨_, rk, m2, c7, rfl, rfl, HC7, HI2, N7.out, HB7.out⟩
        case measure => exact HM2.out
end Go.Proofs.Ytbjenmfoblniaaa
