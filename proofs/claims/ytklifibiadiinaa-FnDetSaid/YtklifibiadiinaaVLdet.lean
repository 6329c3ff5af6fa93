/- The law FnDet: its walk. -/
import Derived.Test.YtklifibiadiinaaVDrawDet
import Derived.Test.YtklifibiadiinaaZe
import Derived.Test.YtklifibiadiinaaVWdetS
import Derived.Test.YtklifibiadiinaaZc
set_option linter.unusedVariables false
namespace Go.Proofs.Ytklifibiadiinaa
open Go.RowKit Domi

/-- Rows as columns, those that are done. -/
def colTo (M : List (List Int)) (k j : Nat) : List Int := (List.range j).map fun i => ent M i k
def turnTo (M : List (List Int)) (n k : Nat) : List (List Int) := (List.range k).map fun i => colTo M i n
theorem colTo_snoc (M : List (List Int)) (k j : Nat) : colTo M k (j + 1) = colTo M k j ++ [ent M j k] := by unfold colTo; rw [List.range_succ, List.map_append]; rfl
theorem turnTo_snoc (M : List (List Int)) (n k : Nat) : turnTo M n (k + 1) = turnTo M n k ++ [colTo M k n] := by unfold turnTo; rw [List.range_succ, List.map_append]; rfl
theorem colTo_len (M : List (List Int)) (k j : Nat) : (colTo M k j).length = j := by simp [colTo]
theorem turnTo_len (M : List (List Int)) (n k : Nat) : (turnTo M n k).length = k := by simp [turnTo]
theorem turnTo_all (M : List (List Int)) (n : Nat) : turnTo M n n = turnM M n := rfl
/-- A list of rows of the call's own, whose rows are others'. -/
theorem ll_own {w : World} {B : Nat} {e : TypeId} {v : Value} {vs : List Value} {M : List (List Int)} (h : Own w B e v vs) (hl : vs.length = M.length) (hr : ∀ i, i < M.length → Il w (vs.getD i (.bool false)) (M.getD i [])) : Ll w v M := ⟨vs, h.sl, hl, hr⟩
theorem own_nil0 (w : World) (e : TypeId) : Own (w.alloc (.cells #[] e)) w.heap.size e (.slice (some ⟨w.heap.size, 0, none⟩) 0 0) [] := Own.made (n := 0) (z := .bool false) (Lib.hid rfl) (Nat.le_refl _) (by omega)
set_option maxRecDepth 100000 in
set_option maxHeartbeats 4000000 in
theorem FnDet_walk (v : Value) (ys : List Int) (w : World) (h : Yl w v ys) (hr : ∀ i, i < ys.length → 0 ≤ ys.getD i 0 ∧ ys.getD i 0 ≤ 255) :
    Calls Try.prog 6 #[v] w (Ret (.bool true) w) := by
  have H := Lib.hid h
  have Hr := Lib.hid hr
  obtain ⟨a0, cap0, rfl, hlc0, hcm0, _⟩ := h.opened
  clear h hr
  by_cases hlen : (1048576 : Int) < (ys.length : Int)
  · go_enter Try.func6, Try.ntmps6
    go_wp2
    go_ret
    exact ⟨rfl, Below.refl _ _⟩
  go_enter Try.func6, Try.ntmps6
  go_wp2_with (fail)
  refine (DrawDet_any _ ys w H.out Hr.out).mono ?_
  rintro e w1 ⟨ma, mc, M, rfl, hl, hsm, hb1⟩
  have BW := Lib.hid hb1
  have LM := Lib.hid hl
  have HSM := Lib.hid hsm
  obtain ⟨n, hn⟩ : ∃ n, M.length = n := ⟨_, rfl⟩
  have HN := Lib.hid hn
  have hn12 : n ≤ 12 := by rw [← hn]; exact hsm.1
  rw [hn] at LM ⊢
  obtain ⟨x, hx⟩ : ∃ x, detR M = x := ⟨_, rfl⟩
  have HX := Lib.hid hx
  have hxb := detR_bd (M := M)
  rw [hx] at hxb
  clear hb1 hl hsm hn hx hlen H Hr hlc0 hcm0
  go_wp2_with (fail)
  refine (Det_any _ M _ LM.out x HX.out).mono ?_
  rintro e w2 ⟨rfl, hb⟩
  have BW := Lib.hid (BW.out.trans (hb.mono BW.out.size))
  have LM := Lib.hid (LM.out.below hb)
  clear hb
  go_wp2_with (fail)
  refine (sDet_any _ M _ LM.out x HX.out).mono ?_
  rintro e w3 ⟨rfl, hb⟩
  have BW := Lib.hid (BW.out.trans (hb.mono BW.out.size))
  have LM := Lib.hid (LM.out.below hb)
  clear hb
  have hxx : (x != x) = false := by simp
  go_wp2_with (fail)
  cases hv : matB M
  · refine (sMatrixValid_any _ M _ LM.out false hv).mono ?_
    rintro e w4 ⟨rfl, hw⟩
    subst hw
    have hx0 : x = 0 := by rw [← HX.out, detR_no hv]
    subst hx0
    clear hv hxx
    go_wp2_with (fail)
    refine (alive_any _).mono ?_
    rintro e w6 ⟨rfl, hb⟩
    have BW := Lib.hid (BW.out.trans (hb.mono BW.out.size))
    clear hb
    go_wp2
    go_ret
    exact ⟨rfl, BW.out⟩
  · refine (sMatrixValid_any _ M _ LM.out true hv).mono ?_
    rintro e w4 ⟨rfl, hw⟩
    subst hw
    have HV := Lib.hid hv
    have HSQ := Lib.hid (show ∀ i, i < n → (M.getD i []).length = n from fun i hi => by
      have := (matB_sq hv).1
      rw [HN.out] at this
      exact this.2 i hi)
    clear hv hxx
    go_wp2_with (fail)
    have M0 := Lib.hid (show Mx w3 (w3.alloc (.cells #[] 39)) 39 3 (.slice (some ⟨w3.heap.size, 0, none⟩) 0 0) [] [] from Mx.start (n := 0) (Lib.hid rfl) (by omega))
    go_loopw [5, 6] (fun o i wr => ∃ (k m c g : Nat) (vs : List Value), k ≤ n ∧ i = .int .i64 k ∧ o = .slice (some ⟨g, 0, none⟩) m c ∧ Hid (m = vs.length) ∧ Mx w3 wr 39 3 (.slice (some ⟨g, 0, none⟩) m c) vs (turnTo M n k)) (fun _ i _ => n - (intOf i).toNat)
    case atStart => exact ⟨0, 0, 0, _, [], Nat.zero_le _, rfl, rfl, Lib.hid rfl, M0.out⟩
    case round =>
      clear M0
      obtain ⟨k, m, c, g, vs, hk, rfl, rfl, HM, hmx⟩ := hrel
      have MX := Lib.hid hmx
      have LX := Lib.hid (LM.out.below hmx.bel)
      have hm12 : m ≤ 12 := by
        have h1 := HM.out
        have h2 := hmx.len
        rw [turnTo_len] at h2
        omega
      clear hmx
      by_cases hlt : k < n
      · have hlt' : (k : Int) < (n : Int) := by omega
        go_wp2_with (fail)
        have OA := Lib.hid (show Own (wr.alloc (.cells #[] 3)) wr.heap.size 3 (.slice (some ⟨wr.heap.size, 0, none⟩) 0 0) (([] : List Int).map (Value.int .i64)) from Own.made (n := 0) (z := .int .i64 0) (Lib.hid rfl) (Nat.le_refl _) (by omega))
        have BA := Lib.hid (show Below wr.heap.size wr (wr.alloc (.cells #[] 3)) from below_alloc wr _)
        obtain ⟨wA, hwA⟩ : ∃ wA, wA = wr := ⟨_, rfl⟩
        rw [← hwA] at MX LX OA BA ⊢
        clear hwA
        obtain ⟨SZ, hSZ⟩ : ∃ SZ, wA.heap.size = SZ := ⟨_, rfl⟩
        have HSZ := Lib.hid hSZ
        rw [hSZ] at OA BA ⊢
        clear hSZ
        go_loopw [7, 8] (fun o i wr => ∃ (t q d rg : Nat) (L : List Int), t ≤ n ∧ i = .int .i64 t ∧ o = .slice (some ⟨rg, 0, none⟩) q d ∧ Hid (L = colTo M k t) ∧ Hid (q = L.length) ∧ Own wr SZ 3 (.slice (some ⟨rg, 0, none⟩) q d) (L.map (Value.int .i64)) ∧ Below SZ wA wr) (fun _ i _ => n - (intOf i).toNat)
        case atStart => exact ⟨0, 0, 0, SZ, [], Nat.zero_le _, rfl, rfl, Lib.hid rfl, Lib.hid rfl, OA.out, BA.out⟩
        case round =>
          clear OA BA
          obtain ⟨t, q, d, rg, L, ht, rfl, rfl, HL, HQ, hown, hbel⟩ := hrel
          have OW := Lib.hid hown
          have BA := Lib.hid (show Below wA.heap.size wA wr by rw [HSZ.out]; exact hbel)
          have NB : Hid (Below SZ wA wr) := Lib.hid hbel
          have hSZ3 : SZ ≤ wr.heap.size := by rw [← HSZ.out]; exact BA.out.size
          have hq12 : q ≤ 12 := by
            have h1 := HQ.out
            rw [HL.out, colTo_len] at h1
            omega
          clear hown hbel
          by_cases htl : t < n
          · have htl' : (t : Int) < (n : Int) := by omega
            obtain ⟨b, o, u, rfl, hb, hcell, hil⟩ := ll_got8 (LX.out.below BA.out) (k := t) (by rw [HN.out]; exact htl)
            obtain ⟨ua, uc, rfl, hu1, hu2, _⟩ := hil.opened
            rw [HSQ.out t htl] at hcell hil hu1
            obtain ⟨b2, o2, rfl, hb2, hc2⟩ := il_get8 hil (j := k) (by rw [HSQ.out t htl]; exact hlt)
            obtain ⟨y, hy⟩ : ∃ y, (M.getD t []).getD k 0 = y := ⟨_, rfl⟩
            rw [hy] at hc2
            have NL : Hid (L ++ [y] = colTo M k (t + 1)) := Lib.hid (by rw [colTo_snoc, HL.out, ← hy]; rfl)
            clear hil hy hu1 hu2
            go_wp2_with (at_builtin; refine list_app elem_ints SZ (.slice (some ⟨rg, 0, none⟩) q d) (L.map (Value.int .i64)) ?_ wr.heap.size (.int .i64 y) (.tmp 45) (.tmp 53) rfl rfl rfl rfl (heap_alloc_new _ _) rfl ?_ ?_ ?_; exact Own.alloc OW.out _; (rw [List.length_map, ← HQ.out]; omega); (simp; omega); intro g2 c2 w5 A5; (have NO5 := Lib.hid (own_snoc A5.own HQ.out)); (have NB5 := Lib.hid (app_bel NB.out hSZ3 A5 (Own.alloc OW.out _))); clear A5; rw [List.length_map, ← HQ.out])
            go_roundw
            case rel => exact ⟨t + 1, q + 1, c2, g2, L ++ [y], by omega, by go_num, rfl, NL, Lib.hid (by rw [List.length_append, ← HQ.out]; rfl), NO5.out, NB5.out⟩
            case measure => simp [intOf]; omega
          · have e : t = n := by omega
            subst e
            have NM : Hid (turnTo M t (k + 1) = turnTo M t k ++ [L]) := Lib.hid (by rw [turnTo_snoc, HL.out])
            have MW := Lib.hid (MX.out.below BA.out)
            have hAS : wA.heap.size ≤ wr.heap.size := BA.out.size
            clear ht htl HL
            go_wp2_with (at_builtin; refine list_app elem_rows w3.heap.size (.slice (some ⟨g, 0, none⟩) m c) vs ?_ wr.heap.size (.slice (some ⟨rg, 0, none⟩) q d) (.tmp 55) (.tmp 57) rfl rfl rfl rfl (heap_alloc_new _ _) rfl ?_ ?_ ?_; (rw [HM.out]; exact Own.alloc (by have := MW.out.out; rw [HM.out] at this; exact this) _); (rw [← HM.out]; omega); (have := MW.out.g.size; simp; omega); intro g2 c2 w5 A5; (have M5 := Lib.hid (MX.out.addRow (grown_alloc (grown_below BA.out none) _) (row := L) (Own.alloc (by rw [HSZ.out]; exact OW.out) _) A5)); clear A5; rw [← HM.out])
            have NM5 : Hid (Mx w3 w5 39 3 (.slice (some ⟨g2, 0, none⟩) (m + 1) c2) (vs ++ [.slice (some ⟨rg, 0, none⟩) q d]) (turnTo M t (k + 1))) := Lib.hid (by rw [NM.out, HM.out]; exact M5.out)
            go_roundw
            case rel => exact ⟨k + 1, m + 1, c2, g2, _, by omega, by go_num, rfl, Lib.hid (by rw [List.length_append, ← HM.out]; rfl), NM5.out⟩
            case measure => simp [intOf]; omega
      · have e : k = n := by omega
        subst e
        have LT := Lib.hid (show Ll wr (.slice (some ⟨g, 0, none⟩) m c) (turnM M k) from MX.out.ll)
        have BX := Lib.hid MX.out.bel
        clear hk hlt
        go_wp2_with (fail)
        obtain ⟨wT, hwT⟩ : ∃ wT, wT = wr := ⟨_, rfl⟩
        rw [← hwT] at LT BX MX LX ⊢
        clear hwT
        have BT := Lib.hid (BW.out.trans (BX.out.mono BW.out.size))
        clear BX BW LM MX HM
        go_loopw [9] (fun i wr => ∃ q : Nat, q ≤ k + 1 ∧ Hid (1 ≤ q) ∧ i = .int .i64 q ∧ Below wT.heap.size wT wr) (fun i _ => k + 1 - (intOf i).toNat)
        case atStart => exact ⟨1, by omega, Lib.hid (Nat.le_refl _), rfl, Below.refl _ _⟩
        case round =>
          obtain ⟨q, hq, HQ1, rfl, hbel⟩ := hrel
          have BQ := Lib.hid hbel
          have LQ := Lib.hid (LX.out.below hbel)
          clear hbel
          by_cases hql : q < k
          · have hql' : (q : Int) < (k : Int) := by omega
            have hq1 := HQ1.out
            obtain ⟨rvs, hsl, hrl, hil⟩ := LQ.out
            rw [HN.out] at hrl
            have hone : ∀ u ∈ rvs, u.oneCell' = true := fun u hu => by
              obtain ⟨i, hi, rfl⟩ := List.mem_iff_getElem.1 hu
              have := hil i (by rw [HN.out, ← hrl]; exact hi)
              rw [← Domi.get_at _ _ _ hi] at this
              obtain ⟨_, _, e, _⟩ := this.opened
              rw [e]; rfl
            obtain ⟨b, o, c0, e0, hb, hcs⟩ := hsl.form (by rw [hrl]; omega)
            rw [hrl, Value.slice.injEq] at e0
            obtain ⟨rfl, _, rfl⟩ := e0
            have hcell : ∀ (w' : World) (i : Nat), Below wr.heap.size wr w' → i < k → w'.cell? ⟨b, o + i, none⟩ = some (rvs.getD i (.bool false)) := fun w' i hw hi => by
              have h1 := hcs i (rvs.getD i (.bool false)) (by rw [List.getD_eq_getElem?_getD, List.getElem?_eq_getElem (by omega)]; rfl)
              rw [addr_add] at h1
              rw [← h1]
              exact hw.cell hb
            have HC := Lib.hid hcell
            have HSL := Lib.hid hsl
            have HRL := Lib.hid hrl
            have HIL := Lib.hid hil
            have HONE := Lib.hid hone
            obtain ⟨ka, kn, kc, huk⟩ : ∃ ka kn kc, rvs.getD q (.bool false) = .slice ka kn kc := by
              obtain ⟨a, c, e, _⟩ := (hil q (by rw [HN.out]; exact hql)).opened; exact ⟨_, _, _, e⟩
            obtain ⟨pa, pn, pc, hup⟩ : ∃ ka kn kc, rvs.getD (q - 1) (.bool false) = .slice ka kn kc := by
              obtain ⟨a, c, e, _⟩ := (hil (q - 1) (by rw [HN.out]; omega)).opened; exact ⟨_, _, _, e⟩
            clear hcs hcell hsl hrl hil hone
            have HUK := Lib.hid huk
            have HUP := Lib.hid hup
            clear huk hup
            have BL : ∀ (wx wy : World) (cs : Array Value) (e : TypeId), Below wr.heap.size wr wx → (wx.alloc (.cells cs e)).grownBy wy (some wx.heap.size) → Below wr.heap.size wr wy := fun wx wy cs e h1 h2 =>
              (h1.trans ((below_alloc wx _).mono h1.size)).trans (below_grown h2 (by have := h1.size; simp; omega) fun i hi => by cases hi; exact h1.size)
            go_upto_region 23 with (at_builtin; refine list_appM elem_rows wr.heap.size wr.heap.size 0 0 [] (own_nil0 wr _) b o k mc rvs ?_ (.tmp 65) (.tmp 66) rfl rfl rfl rfl HONE.out ?_ ?_ ?_; exact HSL.out.below (below_alloc wr _); (simp; omega); simp; intro gy cy w4 A4; (have B4 := Lib.hid (BL wr w4 _ _ (Below.refl _ _) A4.grown)); (have Y4 := Lib.hid A4.own); clear A4; rw [Nat.zero_add])
            have Y4 : Hid (Own w4 wr.heap.size 39 (.slice (some ⟨gy, 0, none⟩) k cy) rvs) := Lib.hid (by have := Y4.out; rw [List.length_nil, Nat.zero_add, HRL.out, List.nil_append] at this; exact this)
            -- a store into y: row q - 1 becomes row q
            have hgy : wr.heap.size ≤ gy := (Y4.out.lt rfl).1
            have s1 := HC.out w4 q B4.out hql
            rw [HUK.out] at s1
            have f1 := (Y4.out.cell (q - 1) (by omega)).2.1
            obtain ⟨t1, s2, _, s3⟩ := Y4.out.there (q - 1) (by omega)
            have B5 := Lib.hid (B4.out.trans ((below_grown (grown_setCell w4 gy (q - 1) none (.slice ka kn kc)) B4.out.size (fun i hi => by cases hi; exact hgy))))
            have Y5 := Lib.hid (Y4.out.stored (q - 1) (.slice ka kn kc))
            go_upto_region 24 with (fail)
            obtain ⟨W5, hW5⟩ : ∃ W, W = w4.setCell ⟨gy, q - 1, none⟩ (.slice ka kn kc) := ⟨_, rfl⟩
            rw [← hW5] at B5 Y5 ⊢
            clear s1 f1 s2 s3 hW5 B4 Y4
            -- a store into y: row q becomes row q - 1
            have s1 := HC.out W5 (q - 1) B5.out (by omega)
            rw [HUP.out] at s1
            have f1 := (Y5.out.cell q hql).2.1
            obtain ⟨t2, s2, _, s3⟩ := Y5.out.there q hql
            have B6 := Lib.hid (B5.out.trans ((below_grown (grown_setCell W5 gy q none (.slice pa pn pc)) B5.out.size (fun i hi => by cases hi; exact hgy))))
            have Y6 := Lib.hid (Y5.out.stored q (.slice pa pn pc))
            go_upto_region 25 with (fail)
            obtain ⟨W6, hW6⟩ : ∃ W, W = W5.setCell ⟨gy, q, none⟩ (.slice pa pn pc) := ⟨_, rfl⟩
            rw [← hW6] at B6 Y6 ⊢
            clear s1 f1 s2 s3 hW6 B5 Y5
            have LY := Lib.hid (show Ll W6 (.slice (some ⟨gy, 0, none⟩) k cy) ((M.set (q - 1) (M.getD q [])).set q (M.getD (q - 1) [])) from ll_own Y6.out (by simp [HRL.out, HN.out]) fun i hi => by
              have hi' : i < k := by simpa [HN.out] using hi
              rw [getD_set _ _ _ _ _ (by rw [List.length_set, HRL.out]; exact hql), getD_set _ _ _ _ _ (by rw [HRL.out]; omega), getD_set _ _ _ _ _ (by rw [List.length_set, HN.out]; exact hql), getD_set _ _ _ _ _ (by rw [HN.out]; omega)]
              by_cases e1 : q = i
              · rw [if_pos e1, if_pos e1, ← HUP.out]; exact (HIL.out (q - 1) (by rw [HN.out]; omega)).below B6.out
              · rw [if_neg e1, if_neg e1]
                by_cases e2 : q - 1 = i
                · rw [if_pos e2, if_pos e2, ← HUK.out]; exact (HIL.out q (by rw [HN.out]; exact hql)).below B6.out
                · rw [if_neg e2, if_neg e2]; exact (HIL.out i (by rw [HN.out]; exact hi')).below B6.out)
            clear Y6
            -- z, with one row twice
            have hS6 : wr.heap.size ≤ W6.heap.size := B6.out.size
            go_upto_region 26 with (at_builtin; refine list_appM elem_rows W6.heap.size W6.heap.size 0 0 [] (own_nil0 W6 _) b o k mc rvs ?_ (.tmp 84) (.tmp 85) rfl rfl rfl rfl HONE.out ?_ ?_ ?_; exact (HSL.out.below B6.out).below (below_alloc W6 _); (simp; omega); simp; intro gz cz w7 A7; (have B7 := Lib.hid (BL W6 w7 _ _ B6.out A7.grown)); (have D7 := Lib.hid ((below_alloc W6 _).trans (below_grown A7.grown (by simp) fun i hi => by cases hi; exact Nat.le_refl _))); (have Z7 := Lib.hid A7.own); clear A7; rw [Nat.zero_add])
            have Z7 : Hid (Own w7 W6.heap.size 39 (.slice (some ⟨gz, 0, none⟩) k cz) rvs) := Lib.hid (by have := Z7.out; rw [List.length_nil, Nat.zero_add, HRL.out, List.nil_append] at this; exact this)
            have hgz : W6.heap.size ≤ gz := (Z7.out.lt rfl).1
            have s1 := HC.out w7 q B7.out hql
            rw [HUK.out] at s1
            have f1 := (Z7.out.cell (q - 1) (by omega)).2.1
            obtain ⟨t3, s2, _, s3⟩ := Z7.out.there (q - 1) (by omega)
            have B8 := Lib.hid (B7.out.trans ((below_grown (grown_setCell w7 gz (q - 1) none (.slice ka kn kc)) B7.out.size (fun i hi => by cases hi; omega))))
            have D8 := Lib.hid (D7.out.trans ((below_grown (grown_setCell w7 gz (q - 1) none (.slice ka kn kc)) D7.out.size (fun i hi => by cases hi; exact hgz))))
            have Z8 := Lib.hid (Z7.out.stored (q - 1) (.slice ka kn kc))
            go_upto_region 27 with (fail)
            obtain ⟨W8, hW8⟩ : ∃ W, W = w7.setCell ⟨gz, q - 1, none⟩ (.slice ka kn kc) := ⟨_, rfl⟩
            rw [← hW8] at B8 D8 Z8 ⊢
            clear s1 f1 s2 s3 hW8 B7 D7 Z7
            have LZ := Lib.hid (show Ll W8 (.slice (some ⟨gz, 0, none⟩) k cz) (M.set (q - 1) (M.getD q [])) from ll_own Z8.out (by simp [HRL.out, HN.out]) fun i hi => by
              have hi' : i < k := by simpa [HN.out] using hi
              rw [getD_set _ _ _ _ _ (by rw [HRL.out]; omega), getD_set _ _ _ _ _ (by rw [HN.out]; omega)]
              by_cases e2 : q - 1 = i
              · rw [if_pos e2, if_pos e2, ← HUK.out]; exact (HIL.out q (by rw [HN.out]; exact hql)).below B8.out
              · rw [if_neg e2, if_neg e2]; exact (HIL.out i (by rw [HN.out]; exact hi')).below B8.out)
            have LY8 := Lib.hid (LY.out.below D8.out)
            have B8T := Lib.hid (BQ.out.trans (B8.out.mono BQ.out.size))
            clear Z8 LY D8 B6
            have HY : Hid (detR ((M.set (q - 1) (M.getD q [])).set q (M.getD (q - 1) [])) = -x) := Lib.hid (by
              rw [detR_flip HV.out (by omega) (by rw [HN.out]; exact hql), HX.out])
            have HZ : Hid (detR (M.set (q - 1) (M.getD q [])) = 0) := Lib.hid (detR_twice HV.out (by omega) (by rw [HN.out]; exact hql))
            have hnn : (-x != -x) = false := by simp
            clear HC HSL HONE HIL BL
            go_wp2_with (fail)
            refine (Det_any _ _ _ LY8.out (-x) HY.out).mono ?_
            rintro e w9 ⟨rfl, hb⟩
            have LZ9 := Lib.hid (LZ.out.below hb)
            have B9 := Lib.hid (B8T.out.trans (hb.mono B8T.out.size))
            clear hb
            go_wp2_with (fail)
            refine (Det_any _ _ _ LZ9.out 0 HZ.out).mono ?_
            rintro e w10 ⟨rfl, hb⟩
            have B10 := Lib.hid (B9.out.trans (hb.mono B9.out.size))
            clear hb
            go_wp2_with (fail)
            go_roundw
            case rel => exact ⟨q + 1, by omega, Lib.hid (by omega), by go_num, B10.out⟩
            case measure => simp [intOf]; omega
          · have hq1 := HQ1.out
            have LT2 := Lib.hid (LT.out.below BQ.out)
            have BT2 := Lib.hid (BT.out.trans (BQ.out.mono BT.out.size))
            go_wp2_with (fail)
            refine (Det_any _ (turnM M k) _ LT2.out x (by rw [← HX.out, ← HN.out]; exact detR_turn HV.out)).mono ?_
            rintro e w5 ⟨rfl, hb⟩
            have BE := Lib.hid (BT2.out.trans (hb.mono BT2.out.size))
            clear hb
            have hxx : (x == x) = true := by simp
            go_wp2_with (fail)
            go_ret
            exact ⟨rfl, BE.out⟩
end Go.Proofs.Ytklifibiadiinaa
