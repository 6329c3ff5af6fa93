/- Walks: RankOf, TilingOf of the program; TilingOf of the reference. -/
import Derived.Test.YtbjenmfoblniaaaVWrank
import Derived.Test.YtbjenmfoblniaaaVWtilsC
import Derived.Test.YtbjenmfoblniaaaVWmany
set_option linter.unusedVariables false
namespace Go.Proofs.Ytbjenmfoblniaaa
open Go.RowKit Domi

theorem idxN_first {l : List (List Int)} {T : List Int} {k : Nat} (hk : k < l.length) (h : ∀ j, j < k → l.getD j [] ≠ T) (e : l.getD k [] = T) : idxN l T = k := by
  unfold idxN
  rw [List.findIdx_eq hk]
  refine ⟨decide_eq_true (by rw [← e, ← Domi.get_at _ _ _ hk]), fun j hj => decide_eq_false fun h2 => h j hj (by rw [← h2, ← Domi.get_at _ _ _ (by omega)])⟩
set_option maxHeartbeats 1000000 in
theorem Equal_is (v u : Value) (l m : List Int) (w : World) (h : Il w v l) (g : Il w u m) (b : Bool) (hb0 : decide (l = m) = b) :
    Calls Try.prog 93 #[v, u] w (Ret (.bool b) w) := by
  obtain ⟨a, cap, rfl, hlc, hcm, _⟩ := h.opened
  obtain ⟨a', cap', rfl, glc, gcm, _⟩ := g.opened
  have H := Lib.hid h
  have G := Lib.hid g
  have HB := Lib.hid hb0
  clear h g hb0
  by_cases hne : l.length = m.length
  · have Hne := Lib.hid hne
    rw [← hne] at G glc ⊢
    clear hne
    have hne' : ((l.length : Int) != (l.length : Int)) = false := by simp
    go_enter Try.func93, Try.ntmps93
    go_wp2_with (fail)
    go_loopw [13] (fun i wr => ∃ k : Nat, k ≤ l.length ∧ i = .int .i64 k ∧ Below w.heap.size w wr ∧ Hid (∀ j, j < k → l.getD j 0 = m.getD j 0)) (fun i _ => l.length - (intOf i).toNat)
    case atStart => exact ⟨0, Nat.zero_le _, rfl, Below.refl _ _, Lib.hid (fun _ h => by omega)⟩
    case round =>
      obtain ⟨k, hk, rfl, hbw, heq⟩ := hrel
      by_cases hlt : k < l.length
      · obtain ⟨b1, o1, rfl, hl1, hck⟩ := il_at (Sl.below H.out hbw) hlt
        obtain ⟨b2, o2, rfl, hl2, gck⟩ := il_at (Sl.below G.out hbw) (show k < m.length by have := Hne.out; omega)
        have hlt' : (k : Int) < (l.length : Int) := by omega
        by_cases hv : l.getD k 0 = m.getD k 0
        · have HT : Hid (∀ j, j < k + 1 → l.getD j 0 = m.getD j 0) := Lib.hid fun j hj => by
            by_cases e : j = k
            · subst e; exact hv
            · exact heq.out j (by omega)
          rw [← hv] at gck
          generalize l.getD k 0 = c at *
          clear hv
          have hcc : (c != c) = false := by simp
          go_wp2
          go_quiet (fail)
          go_wp2
          go_roundw
          case rel => exact ⟨k + 1, by omega, by go_num, bel_dn hbw _, HT⟩
          case measure => simp [intOf]; omega
        · have HN : Hid (b = false) := Lib.hid (by rw [← HB.out]; exact decide_eq_false fun e => hv (by rw [e]))
          have hcc : ((l.getD k 0) != (m.getD k 0)) = true := by simpa using hv
          generalize l.getD k 0 = c at *
          generalize m.getD k 0 = d at *
          clear hv
          go_wp2
          go_quiet (fail)
          go_wp2
          go_ret
          exact ⟨ret_bool HN.out.symm, bel_dn hbw _⟩
      · have HN : Hid (b = true) := Lib.hid (by
          rw [← HB.out]
          exact decide_eq_true (ext_getD Hne.out fun j hj => heq.out j (by omega)))
        go_wp2
        go_ret
        exact ⟨ret_bool HN.out.symm, hbw⟩
  · have HN : Hid (b = false) := Lib.hid (by rw [← HB.out]; exact decide_eq_false fun e => hne (by rw [e]))
    have hne' : ((l.length : Int) != (m.length : Int)) = true := by simp; omega
    clear hne
    go_enter Try.func93, Try.ntmps93
    go_wp2
    go_ret
    exact ⟨ret_bool HN.out.symm, by go_grown⟩
set_option maxHeartbeats 1000000 in
theorem RankOf1_is (u t : Value) (X L : List Int) (g : Nat) (w : World) (hu : Il w u X) (hg : w.cell? ⟨g, 0, none⟩ = some t) (ht : Il w t L) (b : Bool) (hb0 : decide (X = L) = b) :
    Calls Try.prog 92 #[u, .pointer (some ⟨g, 0, none⟩)] w (Ret (.bool b) w) := by
  have HU := Lib.hid hu
  have HT := Lib.hid ht
  have HB := Lib.hid hb0
  obtain ⟨ta, tc, rfl, _, _, _⟩ := ht.opened
  clear hu ht hb0
  go_enter Try.func92, Try.ntmps92
  go_wp2_with (fail)
  refine (Equal_is _ _ X L _ HU.out HT.out b HB.out).mono ?_
  rintro e w1 ⟨rfl, hb⟩
  have B1 := Lib.hid hb
  clear hb
  go_wp2
  go_ret
  exact ⟨rfl, B1.out⟩
set_option maxHeartbeats 1000000 in
theorem IndexFunc_is (v t : Value) (T : List (List Int)) (L : List Int) (g : Nat) (w : World) (h : Ll w v T) (hg : w.cell? ⟨g, 0, none⟩ = some t) (hgl : g < w.heap.size) (ht : Il w t L) (hin : L ∈ T) (n : Nat) (hn : idxN T L = n) :
    Calls Try.prog 91 #[v, .func (.func 92) #[] #[.pointer (some ⟨g, 0, none⟩)]] w (Ret (.int .i64 (n : Int)) w) := by
  obtain ⟨a, cap, rfl, hlc, hcm, _⟩ := h.opened
  have H := Lib.hid h
  have HT := Lib.hid ht
  have HI := Lib.hid hin
  have HN := Lib.hid hn
  have HG := Lib.hid hg
  clear h ht hin hn hg
  go_enter Try.func91, Try.ntmps91
  go_wp2_with (fail)
  go_loopw [8] (fun i wr => ∃ k : Nat, k ≤ T.length ∧ i = .int .i64 k ∧ Below w.heap.size w wr ∧ Hid (∀ j, j < k → T.getD j [] ≠ L)) (fun i _ => T.length - (intOf i).toNat)
  case atStart => exact ⟨0, Nat.zero_le _, rfl, Below.refl _ _, Lib.hid (fun _ h => by omega)⟩
  case round =>
    obtain ⟨k, hk, rfl, hbw, hno⟩ := hrel
    have HW := Lib.hid hbw
    clear hbw
    by_cases hlt : k < T.length
    · have hlt' : (k : Int) < (T.length : Int) := by omega
      obtain ⟨X, hX⟩ : ∃ X, T.getD k [] = X := ⟨_, rfl⟩
      obtain ⟨m, hm⟩ : ∃ m, X.length = m := ⟨_, rfl⟩
      obtain ⟨zb, zf, u, q, rfl, hzb, hcell, hq, hil⟩ := ll_at (Ll.below H.out HW.out) hlt hX hm
      have HX := Lib.hid hX
      have HIL := Lib.hid hil
      obtain ⟨b, hb0⟩ : ∃ b, decide (X = L) = b := ⟨_, rfl⟩
      have HB := Lib.hid hb0
      clear hX hm hil hb0
      go_wp2_with (fail)
      refine (RankOf1_is _ t X L g _ HIL.out (((bcell HW.out).1 g 0 hgl).trans HG.out) (Sl.below HT.out HW.out) b HB.out).mono ?_
      rintro e w2 ⟨rfl, hb⟩
      have HW2 := Lib.hid (HW.out.trans (hb.mono HW.out.size))
      clear hb
      cases b
      · have HN2 : Hid (∀ j, j < k + 1 → T.getD j [] ≠ L) := Lib.hid fun j hj => by
          by_cases e : j = k
          · subst e; rw [HX.out]; exact of_decide_eq_false HB.out
          · exact hno.out j (by omega)
        clear hno HB
        go_wp2
        go_roundw
        case rel => exact ⟨k + 1, by omega, by go_num, HW2.out, HN2⟩
        case measure => simp [intOf]; omega
      · have E : Hid (n = k) := Lib.hid (by rw [← HN.out]; exact idxN_first hlt hno.out (by rw [HX.out]; exact of_decide_eq_true HB.out))
        clear hno HB
        go_wp2
        go_ret
        exact ⟨ret_int (by rw [E.out]), HW2.out⟩
    · exfalso
      obtain ⟨j, hj, e⟩ := List.getElem_of_mem HI.out
      exact hno.out j (by omega) (by rw [← Domi.get_at _ _ _ hj]; exact e)
theorem tilingOk2_is (v u : Value) (r : Reg) (L : List Int) (w : World) (h : RegV w v r) (hu : Il w u L) (b : Bool) (hb : tilingOk r L = b) : Calls Try.prog 56 #[v, u] w (Ret (.bool b) w) := by rw [← hb]; exact TilingOk_any v u r L w h hu
set_option maxRecDepth 100000 in
set_option maxHeartbeats 2000000 in
theorem RankOf_any (v u : Value) (r : Reg) (L : List Int) (w : World) (h : RegV w v r) (hu : Il w u L) (b : Int) (hb0 : rankR r L = b) :
    Calls Try.prog 54 #[v, u] w (Ret (.int .i64 b) w) := by
  obtain ⟨a, cap, rfl, hs, hlc, hcm⟩ := h.opened
  have HU := Lib.hid hu
  have HB := Lib.hid hb0
  obtain ⟨W, hW⟩ : ∃ W, W = (w.alloc (.cells #[.int .i64 r.wide, .int .i64 r.tall, .slice a r.cells.length cap] 29)).alloc (.cells #[u] 39) := ⟨_, rfl⟩
  have R0 : Hid (RB W w.heap.size r (.slice a r.cells.length cap)) := Lib.hid (by rw [hW]; exact (RB.new hs).on (below_alloc _ _))
  have B0 : Hid (Below w.heap.size w W) := Lib.hid (by rw [hW]; exact (below_alloc w _).alloc (by simp) _)
  have hg1 : W.heap[w.heap.size + 1]? = some (.cells #[u] 39 (0, 0)) := by
    rw [hW]
    have := heap_alloc_new (w.alloc (.cells #[.int .i64 r.wide, .int .i64 r.tall, .slice a r.cells.length cap] 29)) (.cells #[u] 39)
    simpa using this
  obtain ⟨ua, uc, rfl, hul, hum, _⟩ := hu.opened
  have c1 : W.cell? ⟨w.heap.size + 1, 0, none⟩ = some (.slice ua L.length uc) := by rw [cell_of_row W _ 0 _ _ _ hg1]; rfl
  have l1 := lt_of_heap hg1
  obtain ⟨x0, x1, x2⟩ := R0.out.c3
  clear h hs hu hb0 hg1
  go_enter Try.func54, Try.ntmps54
  go_wp2_with (fail)
  rw [← hW]
  clear hW
  generalize w.heap.size + 1 = G at *
  cases hk : tilingOk r L
  · refine (tilingOk2_is _ _ r L _ R0.out.v (HU.out.below B0.out) false hk).mono ?_
    rintro e w1 ⟨rfl, hb⟩
    have B1 := Lib.hid (B0.out.trans (hb.mono B0.out.size))
    have E : Hid (b = -1) := Lib.hid (by rw [← HB.out, rankR_no hk])
    clear hb
    go_wp2
    go_ret
    exact ⟨ret_int E.out.symm, B1.out⟩
  refine (tilingOk2_is _ _ r L _ R0.out.v (HU.out.below B0.out) true hk).mono ?_
  rintro e w1 ⟨rfl, hb⟩
  have B1 := Lib.hid (B0.out.trans (hb.mono B0.out.size))
  have R1 := Lib.hid (R0.out.on hb)
  have c1 := ((bcell hb).1 G 0 l1).trans c1
  have l1 := Nat.lt_of_lt_of_le l1 hb.size
  obtain ⟨n, hn⟩ : ∃ n, idxN (tilsR r) L = n := ⟨_, rfl⟩
  have E : Hid (b = (n : Int)) := Lib.hid (by rw [← HB.out, rankR_yes hk, hn])
  have HIn := Lib.hid (mem_tilsR'.2 hk)
  have hv := (laidOk_iff.1 (tilingOk_iff.1 hk).1).1
  have HN := Lib.hid hn
  clear hb R0 B0 x0 x1 x2 hk hn
  obtain ⟨x0, x1, x2⟩ := R1.out.c3
  go_wp2_with (fail)
  refine (tilings_any _ r _ R1.out.v hv).mono ?_
  rintro e w2 ⟨v2, rfl, hl, hb⟩
  have B2 := Lib.hid (B1.out.trans (hb.mono B1.out.size))
  have c1 := ((bcell hb).1 G 0 l1).trans c1
  have l1 := Nat.lt_of_lt_of_le l1 hb.size
  have HL := Lib.hid hl
  have C1 := Lib.hid c1
  clear hb hl x0 x1 x2 R1 c1
  go_wp2_with (fail)
  refine (IndexFunc_is _ _ (tilsR r) L G _ HL.out C1.out l1 (HU.out.below B2.out) HIn.out n HN.out).mono ?_
  rintro e w3 ⟨rfl, hb⟩
  have B3 := Lib.hid (B2.out.trans (hb.mono B2.out.size))
  clear hb
  go_wp2
  go_ret
  exact ⟨ret_int E.out.symm, B3.out⟩
theorem in2_is (n lo hi : Int) (w : World) (b : Bool) (h : inB n lo hi = b) : Calls Try.prog 67 #[.int .i64 n, .int .i64 lo, .int .i64 hi] w fun e w' => e = .returned (.bool b) ∧ w = w' := by rw [← h]; exact in_any n lo hi w
theorem retIB_mk {q : List Int × Bool} {X : List Int} {b : Bool} (h : q = (X, b)) {w w' : World} {v : Value} (hv : Il w' v X) (hb : Below w.heap.size w w') : RetIB q w (.returned (.tuple #[v, .bool b])) w' := by subst h; exact ⟨v, rfl, hv, hb⟩
set_option maxRecDepth 100000 in
set_option maxHeartbeats 2000000 in
theorem TilingOf_any (v : Value) (r : Reg) (c : Int) (w : World) (h : RegV w v r) : Calls Try.prog 57 #[v, .int .i64 c] w (RetIB (tilOf r c) w) := by
  obtain ⟨a, cap, rfl, hs, hlc, hcm⟩ := h.opened
  have R0 := Lib.hid (RB.new hs)
  have B0 := Lib.hid (below_alloc w (.cells #[.int .i64 r.wide, .int .i64 r.tall, .slice a r.cells.length cap] 29))
  clear h hs
  go_enter Try.func57, Try.ntmps57
  go_wp2_with (fail)
  cases hv : r.valid
  · refine (RegionValid_is _ r _ R0.out.v false hv).mono ?_
    rintro e w1 ⟨rfl, hb⟩
    have B1 := Lib.hid (B0.out.trans (hb.mono B0.out.size))
    have E := Lib.hid (tilOf_no1 (rank := c) hv)
    clear hb
    go_wp2
    go_ret2
    exact retIB_mk E.out (Sl.nil _) B1.out
  refine (RegionValid_is _ r _ R0.out.v true hv).mono ?_
  rintro e w1 ⟨rfl, hb⟩
  have B1 := Lib.hid (B0.out.trans (hb.mono B0.out.size))
  have R1 := Lib.hid (R0.out.on hb)
  have htl := tilsR_len r
  have E1 : Hid (inB c 0 (((tilsR r).length : Int) - 1) = false → tilOf r c = ([], false)) := Lib.hid tilOf_no2
  have E2 : Hid (inB c 0 (((tilsR r).length : Int) - 1) = true → tilOf r c = ((tilsR r).getD c.toNat [], true)) := Lib.hid (tilOf_yes hv)
  clear hb R0 B0
  obtain ⟨x0, x1, x2⟩ := R1.out.c3
  go_wp2_with (fail)
  refine (tilings_any _ r _ R1.out.v hv).mono ?_
  obtain ⟨T, hT⟩ : ∃ T, tilsR r = T := ⟨_, rfl⟩
  rw [hT] at E1 E2 htl ⊢
  clear hT
  rintro e w2 ⟨v2, rfl, hl, hb⟩
  have B2 := Lib.hid (B1.out.trans (hb.mono B1.out.size))
  obtain ⟨ta, tc, rfl, ht1, ht2, _⟩ := hl.opened
  have HL := Lib.hid hl
  clear hb hl x0 x1 x2 R1
  go_wp2_with (fail)
  cases hin : inB c 0 ((T.length : Int) - 1)
  · refine (in2_is _ _ _ _ false hin).mono ?_
    rintro e w3 ⟨rfl, rfl⟩
    have E := Lib.hid (E1.out hin)
    clear hin
    go_wp2
    go_ret2
    exact retIB_mk E.out (Sl.nil _) B2.out
  · refine (in2_is _ _ _ _ true hin).mono ?_
    rintro e w3 ⟨rfl, rfl⟩
    have E := E2.out hin
    have hcc := inB_iff.1 hin
    obtain ⟨k, rfl⟩ := Int.eq_ofNat_of_zero_le hcc.1
    have hk : k < T.length := by omega
    have hk' : (k : Int) < (T.length : Int) := by omega
    rw [Int.toNat_natCast] at E
    obtain ⟨X, hX⟩ : ∃ X, T.getD k [] = X := ⟨_, rfl⟩
    obtain ⟨m, hm⟩ : ∃ m, X.length = m := ⟨_, rfl⟩
    obtain ⟨zb, zf, u, q, rfl, hzb, hcell, hq, hil⟩ := ll_at HL.out hk hX hm
    rw [hX] at E
    have E := Lib.hid E
    have HIL := Lib.hid hil
    clear hX hm hil hin hcc
    go_wp2
    go_ret2
    exact retIB_mk E.out HIL.out B2.out
/-- What the reference's TilingOf keeps. -/
structure PkI (r : Reg) (T L : List Int) (i n : Nat) : Prop where
  ok : laidOk r L = true
  fuel : openN r L < n
  lt : i < (tils n r L).length
  at_ : (tils n r L).getD i [] = T
theorem PkI.east {r : Reg} {T L : List Int} {i n k : Nat} (h : PkI r T L i n) (hf : firstN r L = some k) (hi : i < eastM r L k) : free r L k 1 = true ∧ ∃ m, PkI r T (layL r L k 1) i m := by
  obtain ⟨m, rfl⟩ : ∃ m, n = m + 1 := ⟨n - 1, by have := h.fuel; omega⟩
  obtain ⟨a, b, c⟩ := pick_east hf h.ok h.fuel hi
  have := openN_lay h.ok a
  have hfu := h.fuel
  exact ⟨a, m, lay_ok h.ok a, by omega, b, by rw [← c]; exact h.at_⟩
theorem PkI.north {r : Reg} {T L : List Int} {i n k : Nat} (h : PkI r T L i n) (hf : firstN r L = some k) (hi : eastM r L k ≤ i) : free r L k 2 = true ∧ ∃ m, PkI r T (layL r L k 2) (i - eastM r L k) m := by
  obtain ⟨m, rfl⟩ : ∃ m, n = m + 1 := ⟨n - 1, by have := h.fuel; omega⟩
  obtain ⟨a, b, c⟩ := pick_north hf h.ok h.fuel hi h.lt
  have := openN_lay h.ok a
  have hfu := h.fuel
  exact ⟨a, m, lay_ok h.ok a, by omega, b, by rw [← c]; exact h.at_⟩
theorem PkI.end_ {r : Reg} {T L : List Int} {i n : Nat} (h : PkI r T L i n) (hf : firstN r L = none) : L = T := by
  obtain ⟨m, rfl⟩ : ∃ m, n = m + 1 := ⟨n - 1, by have := h.fuel; omega⟩
  have h1 := (pick_done hf h.lt).2
  rw [h.at_] at h1; exact h1.symm
theorem PkI.start {r : Reg} {i : Nat} (hv : r.valid = true) (hi : i < (tilsR r).length) : PkI r ((tilsR r).getD i []) (bareL r) i 40 := by
  rw [tilsR_yes hv] at hi ⊢
  exact ⟨bare_laid hv, bare_open hv, hi, rfl⟩
theorem l1In2_is (n lo hi : Int) (w : World) (b : Bool) (hb : inB n lo hi = b) : Calls Try.prog 68 #[.int .i64 n, .int .i64 lo, .int .i64 hi] w (fun e w' => e = .returned (.bool b) ∧ w = w') := l1In_is n lo hi w b hb
set_option maxRecDepth 100000 in
set_option maxHeartbeats 4000000 in
theorem sTilingOf_any (v : Value) (r : Reg) (c : Int) (w : World) (h : RegV w v r) : Calls Try.prog 59 #[v, .int .i64 c] w (RetIB (tilOf r c) w) := by
  obtain ⟨a, cap, rfl, hs, hlc, hcm⟩ := h.opened
  have R0 := Lib.hid (RB.new hs)
  have B0 := Lib.hid (below_alloc w (.cells #[.int .i64 r.wide, .int .i64 r.tall, .slice a r.cells.length cap] 29))
  clear h hs
  go_enter Try.func59, Try.ntmps59
  go_wp2_with (fail)
  cases hv : r.valid
  · refine (sRegionValid_is _ r _ R0.out.v false hv).mono ?_
    rintro e w1 ⟨rfl, hb⟩
    have B1 := Lib.hid (B0.out.trans (hb.mono B0.out.size))
    have E := Lib.hid (tilOf_no1 (rank := c) hv)
    clear hb
    go_wp2
    go_ret2
    exact retIB_mk E.out (own_empty B1.out).sl (below_two B1.out _)
  refine (sRegionValid_is _ r _ R0.out.v true hv).mono ?_
  rintro e w1 ⟨rfl, hb⟩
  have B1 := Lib.hid (B0.out.trans (hb.mono B0.out.size))
  have R1 := Lib.hid (R0.out.on hb)
  have hmb := manyT_bd hv
  have E1 : Hid (inB c 0 (((tilsR r).length : Int) - 1) = false → tilOf r c = ([], false)) := Lib.hid tilOf_no2
  have E2 : Hid (inB c 0 (((tilsR r).length : Int) - 1) = true → tilOf r c = ((tilsR r).getD c.toNat [], true)) := Lib.hid (tilOf_yes hv)
  have P0 : Hid (∀ i, i < (tilsR r).length → PkI r ((tilsR r).getD i []) (bareL r) i 40) := Lib.hid fun i hi => PkI.start hv hi
  rw [← manyT_yes hv] at E1 E2
  have HMY := Lib.hid (manyT_yes hv)
  clear hb R0 B0
  obtain ⟨x0, x1, x2⟩ := R1.out.c3
  go_wp2_with (fail)
  refine (sTilingsMany_any _ r _ R1.out.v).mono ?_
  obtain ⟨M, hM⟩ : ∃ M, manyT r = M := ⟨_, rfl⟩
  rw [hM] at E1 E2 hmb HMY ⊢
  clear hM
  rintro e w2 ⟨rfl, hb⟩
  have B2 := Lib.hid (B1.out.trans (hb.mono B1.out.size))
  have R2 := Lib.hid (R1.out.on hb)
  clear hb x0 x1 x2 R1
  go_wp2_with (fail)
  cases hin : inB c 0 (M - 1)
  · refine (l1In2_is _ _ _ _ false hin).mono ?_
    rintro e w3 ⟨rfl, rfl⟩
    have E := Lib.hid (E1.out hin)
    clear hin
    go_wp2
    go_ret2
    exact retIB_mk E.out (own_empty B2.out).sl (below_two B2.out _)
  refine (l1In2_is _ _ _ _ true hin).mono ?_
  rintro e w3 ⟨rfl, rfl⟩
  have E := E2.out hin
  have hcc := inB_iff.1 hin
  obtain ⟨k0, rfl⟩ := Int.eq_ofNat_of_zero_le hcc.1
  have hk0 : k0 < (tilsR r).length := by have := HMY.out; omega
  have hk0b : k0 ≤ 1099511627776 := by omega
  rw [Int.toNat_natCast] at E
  have P0 := P0.out k0 hk0
  obtain ⟨T, hT⟩ : ∃ T, (tilsR r).getD k0 [] = T := ⟨_, rfl⟩
  rw [hT] at E P0
  have E := Lib.hid E
  have P0 := Lib.hid P0
  clear hT hin hcc hk0 E1 E2 HMY hmb
  obtain ⟨x0, x1, x2⟩ := R2.out.c3
  go_wp2_with (fail)
  refine (sLaidBare_any _ r _ R2.out.v).mono ?_
  rintro e w4 ⟨v2, rfl, ho, hb⟩
  have B4 := Lib.hid (B2.out.trans (hb.mono B2.out.size))
  have R4 := Lib.hid (R2.out.on hb)
  have N4 := Lib.hid ho.sl
  clear hb ho R2 x0 x1 x2
  obtain ⟨x0, x1, x2⟩ := R4.out.c3
  obtain ⟨c0, hc0⟩ : ∃ c, firstI r (bareL r) = c := ⟨_, rfl⟩
  go_wp2_with (fail)
  refine (l2First_is _ _ r (bareL r) _ R4.out.v N4.out (laidOk_iff.1 P0.out.ok).2.1 c0 hc0).mono ?_
  rintro e w5 ⟨rfl, hb⟩
  have B5 := Lib.hid (B4.out.trans (hb.mono B4.out.size))
  have R5 := Lib.hid (R4.out.on hb)
  have N5 := Lib.hid (Sl.below N4.out hb)
  have HC := Lib.hid hc0
  clear hb R4 N4 x0 x1 x2 hc0
  go_wp2_with (fail)
  go_loopw [1, 6, 7] (fun p o i wr => ∃ (L : List Int) (rk n : Nat) (c : Int), i = .int .i64 c ∧ p = .int .i64 (rk : Int) ∧ rk ≤ 1099511627776 ∧ Hid (firstI r L = c) ∧ Hid (PkI r T L rk n) ∧ Il wr o L ∧ Below w5.heap.size w5 wr) (fun _ _ i _ => leftI r.cells.length (intOf i))
  case atStart => exact ⟨bareL r, k0, 40, c0, rfl, rfl, hk0b, HC, P0, N5.out, Below.refl _ _⟩
  case round =>
    clear N5 HC P0
    obtain ⟨L, rk, n, c, rfl, rfl, hrk, HC, HI, hn, hbw⟩ := hrel
    have HBW := Lib.hid hbw
    have R6 := Lib.hid (R5.out.on hbw)
    have N6 := Lib.hid hn
    have B6 := Lib.hid (B5.out.trans (hbw.mono B5.out.size))
    clear hn hbw
    cases hf : firstN r L with
    | none =>
      have e := HC.out
      rw [firstI_none hf] at e
      subst e
      have e2 := HI.out.end_ hf
      subst e2
      clear HC HI
      go_wp2
      go_ret2
      exact retIB_mk E.out N6.out B6.out
    | some k =>
      have e := HC.out
      rw [firstI_some hf] at e
      subst e
      have HF := Lib.hid hf
      have hll : L.length = r.cells.length := (laidOk_iff.1 HI.out.ok).2.1
      have HLL := Lib.hid hll
      obtain ⟨q, hq⟩ : ∃ q, eastM r L k = q := ⟨_, rfl⟩
      have hqb : q ≤ 1099511627776 := by
        rw [← hq]; unfold eastM; split
        · next h => exact manyBd (lay_ok HI.out.ok h)
        · omega
      have HQ := Lib.hid hq
      clear HC hf hll hq
      obtain ⟨x0, x1, x2⟩ := R6.out.c3
      by_cases hlt : rk < q
      · obtain ⟨hfr, m2, hI2⟩ := HI.out.east HF.out (by rw [HQ.out]; exact hlt)
        have HI2 := Lib.hid hI2
        have HM2 : Hid (leftI r.cells.length (firstI r (layL r L k 1)) < leftI r.cells.length (k : Int)) := Lib.hid (by rw [← HLL.out]; exact left_less HI.out.ok HF.out hfr)
        have Q1 := Lib.hid (layOne_yes HI.out.ok hfr)
        have HW : Hid (withL r (layL r L k 1) = q) := Lib.hid (by rw [← east_yes hfr]; exact HQ.out)
        have hltI : ¬ (q : Int) ≤ (rk : Int) := by omega
        clear hfr hI2
        go_wp2_with (fail)
        refine (sLayOne_is _ _ r L k 1 _ R6.out.v N6.out _ _ Q1.out).mono ?_
        rintro e w7 ⟨v7, rfl, hv7, hb⟩
        have HB7 := Lib.hid (HBW.out.trans (hb.mono HBW.out.size))
        have R7 := Lib.hid (R6.out.on hb)
        have N7 := Lib.hid hv7
        clear hv7 hb x0 x1 x2 N6 R6
        obtain ⟨x0, x1, x2⟩ := R7.out.c3
        go_wp2_with (fail)
        refine (l3With_any _ _ r (layL r L k 1) _ R7.out.v N7.out HI2.out.ok q HW.out).mono ?_
        rintro e w8 ⟨rfl, hb⟩
        have HB8 := Lib.hid (HB7.out.trans (hb.mono HB7.out.size))
        have R8 := Lib.hid (R7.out.on hb)
        have N8 := Lib.hid (Sl.below N7.out hb)
        clear hb x0 x1 x2 N7 R7
        obtain ⟨x0, x1, x2⟩ := R8.out.c3
        obtain ⟨c7, hc7⟩ : ∃ c, firstI r (layL r L k 1) = c := ⟨_, rfl⟩
        rw [hc7] at HM2
        go_wp2_with (fail)
        refine (l2First_is _ _ r _ _ R8.out.v N8.out (laidOk_iff.1 HI2.out.ok).2.1 c7 hc7).mono ?_
        rintro e w9 ⟨rfl, hb⟩
        have HB9 := Lib.hid (HB8.out.trans (hb.mono HB8.out.size))
        have N9 := Lib.hid (Sl.below N8.out hb)
        have HC9 := Lib.hid hc7
        clear hb hc7 x0 x1 x2
        go_wp2
        go_roundw
        case rel => exact ⟨_, rk, m2, c7, rfl, rfl, hrk, HC9, HI2, N9.out, HB9.out⟩
        case measure => exact HM2.out
      · obtain ⟨hfr, m2, hI2⟩ := HI.out.north HF.out (by rw [HQ.out]; omega)
        rw [HQ.out] at hI2
        have HI2 := Lib.hid hI2
        have HM2 : Hid (leftI r.cells.length (firstI r (layL r L k 2)) < leftI r.cells.length (k : Int)) := Lib.hid (by rw [← HLL.out]; exact left_less HI.out.ok HF.out hfr)
        have Q2 := Lib.hid (layOne_yes HI.out.ok hfr)
        have hltI : (q : Int) ≤ (rk : Int) := by omega
        have hsub : ((rk : Int) - (q : Int)) = ((rk - q : Nat) : Int) := by omega
        have HSUB := Lib.hid hsub
        clear hfr hI2 hsub
        cases hfr1 : free r L k 1
        · have Q1 := Lib.hid (layOne_same HI.out.ok hfr1)
          have hq0 : q = 0 := by rw [← HQ.out]; exact east_no hfr1
          subst hq0
          have HI2 : Hid (PkI r T (layL r L k 2) rk m2) := HI2
          clear hfr1 HSUB
          have h0le : (0 : Int) ≤ (rk : Int) := by omega
          go_wp2_with (fail)
          refine (sLayOne_is _ _ r L k 1 _ R6.out.v N6.out _ _ Q1.out).mono ?_
          rintro e w7 ⟨v7, rfl, hv7, hb⟩
          have HB7 := Lib.hid (HBW.out.trans (hb.mono HBW.out.size))
          have R7 := Lib.hid (R6.out.on hb)
          have N7 := Lib.hid (Sl.below N6.out hb)
          clear hv7 hb x0 x1 x2 N6 R6
          obtain ⟨x0, x1, x2⟩ := R7.out.c3
          go_wp2_with (fail)
          refine (sLayOne_is _ _ r L k 2 _ R7.out.v N7.out _ _ Q2.out).mono ?_
          rintro e w8 ⟨v8, rfl, hv8, hb⟩
          have HB8 := Lib.hid (HB7.out.trans (hb.mono HB7.out.size))
          have R8 := Lib.hid (R7.out.on hb)
          have N8 := Lib.hid hv8
          clear hv8 hb x0 x1 x2 N7 R7
          obtain ⟨x0, x1, x2⟩ := R8.out.c3
          obtain ⟨c7, hc7⟩ : ∃ c, firstI r (layL r L k 2) = c := ⟨_, rfl⟩
          rw [hc7] at HM2
          go_wp2_with (fail)
          refine (l2First_is _ _ r _ _ R8.out.v N8.out (laidOk_iff.1 HI2.out.ok).2.1 c7 hc7).mono ?_
          rintro e w9 ⟨rfl, hb⟩
          have HB9 := Lib.hid (HB8.out.trans (hb.mono HB8.out.size))
          have N9 := Lib.hid (Sl.below N8.out hb)
          have HC9 := Lib.hid hc7
          clear hb hc7 x0 x1 x2
          go_wp2
          go_roundw
          case rel => exact ⟨_, rk, m2, c7, rfl, by first | rfl | go_num, hrk, HC9, HI2, N9.out, HB9.out⟩
          case measure => exact HM2.out
        · have Q1 := Lib.hid (layOne_yes HI.out.ok hfr1)
          have HW : Hid (withL r (layL r L k 1) = q) := Lib.hid (by rw [← east_yes hfr1]; exact HQ.out)
          have HLO := Lib.hid (lay_ok HI.out.ok hfr1)
          clear hfr1
          go_wp2_with (fail)
          refine (sLayOne_is _ _ r L k 1 _ R6.out.v N6.out _ _ Q1.out).mono ?_
          rintro e w7 ⟨v7, rfl, hv7, hb⟩
          have HB7 := Lib.hid (HBW.out.trans (hb.mono HBW.out.size))
          have R7 := Lib.hid (R6.out.on hb)
          have N7 := Lib.hid (Sl.below N6.out hb)
          have V7 := Lib.hid hv7
          clear hv7 hb x0 x1 x2 N6 R6
          obtain ⟨x0, x1, x2⟩ := R7.out.c3
          go_wp2_with (fail)
          refine (l3With_any _ _ r (layL r L k 1) _ R7.out.v V7.out HLO.out q HW.out).mono ?_
          rintro e w8 ⟨rfl, hb⟩
          have HB7 := Lib.hid (HB7.out.trans (hb.mono HB7.out.size))
          have R7 := Lib.hid (R7.out.on hb)
          have N7 := Lib.hid (Sl.below N7.out hb)
          clear hb x0 x1 x2 V7
          obtain ⟨x0, x1, x2⟩ := R7.out.c3
          go_wp2_with (fail)
          refine (sLayOne_is _ _ r L k 2 _ R7.out.v N7.out _ _ Q2.out).mono ?_
          rintro e w9 ⟨v8, rfl, hv8, hb⟩
          have HB8 := Lib.hid (HB7.out.trans (hb.mono HB7.out.size))
          have R8 := Lib.hid (R7.out.on hb)
          have N8 := Lib.hid hv8
          clear hv8 hb x0 x1 x2 N7 R7
          obtain ⟨x0, x1, x2⟩ := R8.out.c3
          obtain ⟨c7, hc7⟩ : ∃ c, firstI r (layL r L k 2) = c := ⟨_, rfl⟩
          rw [hc7] at HM2
          go_wp2_with (fail)
          refine (l2First_is _ _ r _ _ R8.out.v N8.out (laidOk_iff.1 HI2.out.ok).2.1 c7 hc7).mono ?_
          rintro e w10 ⟨rfl, hb⟩
          have HB9 := Lib.hid (HB8.out.trans (hb.mono HB8.out.size))
          have N9 := Lib.hid (Sl.below N8.out hb)
          have HC9 := Lib.hid hc7
          clear hb hc7 x0 x1 x2
          go_wp2
          go_roundw
          case rel => exact ⟨_, rk - q, m2, c7, rfl, congrArg (Value.int .i64) HSUB.out, by omega, HC9, HI2, N9.out, HB9.out⟩
          case measure => exact HM2.out
end Go.Proofs.Ytbjenmfoblniaaa
