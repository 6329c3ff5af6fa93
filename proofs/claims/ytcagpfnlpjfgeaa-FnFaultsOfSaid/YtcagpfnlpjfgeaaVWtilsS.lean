/- Walks: l2All, TilingsAll of the reference. -/
import Derived.Test.YtcagpfnlpjfgeaaVWcompB
import Derived.Test.YtcagpfnlpjfgeaaZb
import Derived.Test.YtcagpfnlpjfgeaaZc
set_option linter.unusedVariables false
namespace Go.Proofs.Ytcagpfnlpjfgeaa
open Go.RowKit Domi

theorem elem_listsS : ElemOk Try.prog 31 26 24 := ⟨Try.underlying31, by kernel_rfl⟩
/-- A slice of lists, of the call's own, not nil. -/
def OwnL (w : World) (B : Nat) (v : Value) (xs : List (List Int)) : Prop :=
  ∃ g c vs, v = .slice (some ⟨g, 0, none⟩) xs.length c ∧ Own w B 26 v vs ∧ vs.length = xs.length ∧ (∀ u ∈ vs, u.oneCell' = true) ∧ ∀ i, i < xs.length → Ow w 0 3 (vs.getD i (.bool false)) ((xs.getD i []).map (Value.int .i64))
theorem OwnL.ll {w : World} {B : Nat} {v : Value} {xs : List (List Int)} (h : OwnL w B v xs) : Ll w v xs := by
  obtain ⟨g, c, vs, _, h2, h3, _, h5⟩ := h; exact ⟨vs, h2.sl, h3, fun i hi => (h5 i hi).il⟩
theorem OwnL.mono {w : World} {B B' : Nat} {v : Value} {xs : List (List Int)} (h : OwnL w B v xs) (hB : B' ≤ B) : OwnL w B' v xs := by
  obtain ⟨g, c, vs, h1, h2, h3⟩ := h; exact ⟨g, c, vs, h1, h2.mono hB, h3⟩
theorem OwnL.below {w w' : World} {B : Nat} {v : Value} {xs : List (List Int)} (h : OwnL w B v xs) (hb : Below w.heap.size w w') : OwnL w' B v xs := by
  obtain ⟨g, c, vs, h1, h2, h3, h4, h5⟩ := h; exact ⟨g, c, vs, h1, h2.below hb, h3, h4, fun i hi => (h5 i hi).below hb⟩
def RetOL (l : List (List Int)) (w : World) (e : Ending) (w' : World) : Prop := ∃ v, e = .returned v ∧ OwnL w' w.heap.size v l ∧ Below w.heap.size w w'
theorem retOL_is {l m : List (List Int)} (h : l = m) {w w' : World} {v : Value} (ho : OwnL w' w.heap.size v m) (hb : Below w.heap.size w w') : RetOL l w (.returned v) w' := by subst h; exact ⟨v, rfl, ho, hb⟩
theorem il_one {w : World} {v : Value} {l : List Int} (h : Il w v l) : v.oneCell' = true := by obtain ⟨a, c, rfl, _⟩ := h.opened; rfl
/-- A list of lists that an append has made. -/
theorem OwnL.appN {w w' : World} {B g n c : Nat} {xs ys : List (List Int)} {vs us : List Value} {g' cap : Nat} (ho : Own w B 26 (.slice (some ⟨g, 0, none⟩) n c) vs) (A : AppN w B 26 (.slice (some ⟨g, 0, none⟩) n c) vs us g' cap w')
    (h1 : vs.length = xs.length) (h2 : us.length = ys.length) (q1 : ∀ u ∈ vs, u.oneCell' = true) (q2 : ∀ u ∈ us, u.oneCell' = true)
    (k1 : ∀ i, i < xs.length → Ow w 0 3 (vs.getD i (.bool false)) ((xs.getD i []).map (Value.int .i64))) (k2 : ∀ i, i < ys.length → Ow w 0 3 (us.getD i (.bool false)) ((ys.getD i []).map (Value.int .i64))) :
    OwnL w' B (.slice (some ⟨g', 0, none⟩) (xs ++ ys).length cap) (xs ++ ys) := by
  have hlen : (xs ++ ys).length = vs.length + us.length := by simp [h1, h2]
  have K : KB 26 26 w w' := KB.of_grown A.grown (fun k cs t fr e hk => .inl (Own.btype ho e hk))
  have hk : ∀ (v : Value) (l : List Value), Ow w 0 3 v l → Ow w' 0 3 v l := fun v l h => h.kb K (by decide) (by decide)
  refine ⟨g', cap, vs ++ us, rfl, by rw [hlen]; exact A.own, by simp [h1, h2], fun u hu => ?_, fun i hi => ?_⟩
  · rcases List.mem_append.1 hu with h | h
    · exact q1 u h
    · exact q2 u h
  · simp only [List.getD_eq_getElem?_getD] at k1 k2 ⊢
    by_cases hl : i < xs.length
    · rw [List.getElem?_append_left (by omega), List.getElem?_append_left hl]; exact hk _ _ (k1 i hl)
    · rw [List.getElem?_append_right (by omega), List.getElem?_append_right (by omega), h1]
      rw [List.length_append] at hi
      exact hk _ _ (k2 (i - xs.length) (by omega))

theorem list_lit {w : World} (B : Nat) (hB : B ≤ w.heap.size) : OwnL (w.alloc (.cells #[] 26)) B (.slice (some ⟨w.heap.size, 0, none⟩) 0 0) [] := by
  have h := ((Sep.start w none).empty 26).high 0 rfl
  exact ⟨_, _, [], rfl, h.mono hB, rfl, fun u hu => by simp at hu, fun i hi => by simp at hi⟩
theorem OwnL.alloc {w : World} {B : Nat} {v : Value} {xs : List (List Int)} (h : OwnL w B v xs) (o : Obj) : OwnL (w.alloc o) B v xs := h.below (below_alloc w o)
theorem ow_one {w : World} {v : Value} {xs : List Int} (h : Ow w 0 3 v (xs.map (Value.int .i64))) : v.oneCell' = true := il_one h.il

set_option maxRecDepth 100000 in
set_option maxHeartbeats 4000000 in
theorem l2All_n (r : Reg) : ∀ (n : Nat) (v u : Value) (L : List Int) (w : World), n ≤ 40 → RegV w v r → Ow w 0 3 u (L.map (Value.int .i64)) → laidOk r L = true → openN r L < n →
    Calls Try.prog 126 #[v, u] w (RetOL (tils n r L) w) := by
  intro n
  induction n with
  | zero => intro v u L w _ _ _ _ h; omega
  | succ n ih =>
    intro v u L w hn40 h hu hk hn
    have IH := Lib.hid ih
    obtain ⟨a, cap, rfl, hs, hlc, hcm⟩ := h.opened
    have HS := Lib.hid hs
    have R0 := RB.new hs
    have B0 := below_alloc w (.cells #[.int .i64 r.wide, .int .i64 r.tall, .slice a r.cells.length cap] 25)
    have U0 := hu.below B0
    obtain ⟨ua, uc, rfl, _, _, _⟩ := hu.il.opened
    have HK := Lib.hid hk
    have HO := Lib.hid hn
    have HL := Lib.hid (laidOk_iff.1 hk).2.1
    clear ih h hs hu hk hn
    go_enter Try.func126, Try.ntmps126
    go_wp2_with (fail)
    obtain ⟨W, hW⟩ : ∃ W, W = w.alloc (.cells #[.int .i64 r.wide, .int .i64 r.tall, .slice a r.cells.length cap] 25) := ⟨_, rfl⟩
    rw [← hW] at R0 B0 U0 ⊢
    have BE := below_alloc W (.cells #[] 26)
    have O1 := list_lit (w := W) w.heap.size B0.size
    have hE0 : W.heap.size = w.heap.size + 1 := by rw [hW]; simp
    generalize hX : w.heap.size = X at R0 O1 ⊢
    have hE : W.heap.size = X + 1 := by rw [← hX]; exact hE0
    obtain ⟨W1, hW1⟩ : ∃ W1, W1 = W.alloc (.cells #[] 26) := ⟨_, rfl⟩
    rw [hE, ← hW1] at O1
    rw [← hW1] at BE
    rw [← hW1]
    have R1 := Lib.hid (R0.on BE)
    have U1 := Lib.hid (U0.below BE)
    have B1 := Lib.hid (show Below X w W1 from hX ▸ B0.trans (BE.mono B0.size))
    have O1 := Lib.hid O1
    clear hW hW1 hE hE0 R0 B0 U0 BE
    refine (l2First_any _ _ r L _ R1.out.v U1.out.il HL.out).mono ?_
    rintro e w1 ⟨rfl, hb⟩
    have R := Lib.hid (R1.out.on hb)
    have U := Lib.hid (U1.out.below hb)
    have B2 := Lib.hid (B1.out.trans (hb.mono (hX ▸ B1.out.size)))
    have O := Lib.hid (O1.out.below hb)
    clear hb R1 U1 B1 O1
    obtain ⟨x, hx⟩ : ∃ x, firstI r L = x := ⟨_, rfl⟩
    rw [hx]
    cases hf : firstN r L with
    | none =>
      have hneg : x = -1 := by rw [← hx]; unfold firstI; rw [hf]
      subst hneg
      have HT := Lib.hid (tils_done (n := n) hf)
      clear hf hx
      obtain ⟨g, c, vs, hev, ho, hvl, hone, hel⟩ := O.out
      obtain rfl : vs = [] := List.eq_nil_of_length_eq_zero hvl
      have OO := Lib.hid ho
      have hXs : X ≤ w1.heap.size := hX ▸ B2.out.size
      have U' := Lib.hid (U.out.below (below_alloc w1 (.cells #[.slice ua L.length uc] 26)))
      have hEg : X + 1 = g ∧ 0 = c := by simp at hev; exact hev
      obtain ⟨rfl, rfl⟩ := hEg
      clear hev ho hvl hone hel
      go_wp2_with (at_builtin; refine list_app elem_listsS X (.slice (some ⟨X + 1, 0, none⟩) 0 0) [] ?_ w1.heap.size (.slice ua L.length uc) (.tmp 16) (.tmp 18) rfl rfl rfl rfl (heap_alloc_new _ _) rfl ?_ ?_ ?_; exact Own.alloc OO.out _; (simp; try omega); (simp; omega); intro n1 cap1 w2 A2; (have A := Lib.hid A2); clear A2)
      have hB3 : X ≤ (w1.alloc (.cells #[.slice ua L.length uc] 26)).heap.size := by simp; omega
      have AN : AppN (w1.alloc (.cells #[.slice ua L.length uc] 26)) X 26 (.slice (some ⟨X + 1, 0, none⟩) 0 0) [] [.slice ua L.length uc] n1 cap1 w2 := ⟨A.out.own, A.out.grown, A.out.lies, A.out.lt⟩
      have OF := OwnL.appN (xs := []) (ys := [L]) (Own.alloc OO.out _) AN rfl rfl (fun u hu => by simp at hu) (fun u hu => by simp at hu; subst hu; rfl) (fun i hi => by simp at hi) (fun i hi => by
        obtain rfl : i = 0 := by simpa using hi
        exact U'.out)
      have OF := Lib.hid OF
      have BF := Lib.hid (show Below w.heap.size w w2 from hX ▸ (B2.out.trans ((below_alloc w1 _).mono hXs)).trans (A.out.below (Own.alloc OO.out _) hB3))
      clear AN
      go_ret
      exact retOL_is HT.out (hX ▸ OF.out) BF.out
    | some k =>
      have hxk : x = (k : Int) := by rw [← hx]; unfold firstI; rw [hf]
      subst hxk
      have HF := Lib.hid hf
      have HP := Lib.hid (partT_two (n := n) hf)
      clear hf hx
      go_wp2_with (fail)
      go_loopw [5, 7] (fun o i wr => ∃ m : Nat, m ≤ 2 ∧ i = .int .i64 ((m : Int) + 1) ∧ OwnL wr X o (partT n r L k m) ∧ Below X w wr ∧ KB 26 26 w1 wr) (fun _ i _ => 4 - (intOf i).toNat)
      case atStart => exact ⟨0, by omega, rfl, by rw [partT_zero]; exact O.out, B2.out, KB.refl _⟩
      case round =>
        obtain ⟨m, hm, rfl, ho, hbw, hkb⟩ := hrel
        obtain ⟨g, c, vs, rfl, hown, hvl, hone, hel⟩ := ho
        have HOW := Lib.hid hown
        have HVL := Lib.hid hvl
        have HONE := Lib.hid hone
        have HEL := Lib.hid hel
        have BWR := Lib.hid hbw
        have HKB := Lib.hid hkb
        have hXs : X ≤ wr.heap.size := hX ▸ hbw.size
        have R2 := Lib.hid (show RB wr X r (.slice a r.cells.length cap) from ⟨by rw [hkb.blk X _ _ _ R.out.box (by decide) (by decide)]; exact R.out.box, HS.out.below (hX ▸ hbw)⟩)
        have U2 := Lib.hid (U.out.kb hkb (by decide) (by decide))
        clear hown hvl hone hel hbw hkb
        obtain ⟨x0, x1, x2⟩ := R2.out.c3
        have sX := R2.out.lt
        by_cases hm2 : m < 2
        · have hmle : (m : Int) + 1 ≤ 2 := by omega
          cases hfr : free r L k ((m : Int) + 1)
          · have HQ := Lib.hid (layOne_same HK.out hfr)
            have HPS := Lib.hid (partT_skip (n := n) hm2 hfr)
            clear hfr
            go_wp2_with (fail)
            refine (sLayOne_q2 _ _ r L _ _ _ R2.out.v U2.out.il _ HQ.out).mono ?_
            rintro e w3 ⟨v3, rfl, _, hb⟩
            have OWN3 := Lib.hid (show OwnL w3 X _ (partT n r L k m) from (OwnL.below ⟨g, c, vs, rfl, HOW.out, HVL.out, HONE.out, HEL.out⟩ hb))
            have B3 := Lib.hid (BWR.out.trans (hb.mono hXs))
            have K3 := Lib.hid (HKB.out.trans (KB.of_below hb))
            clear hb x0 x1 x2 sX
            go_wp2
            go_roundw
            case rel => exact ⟨m + 1, by omega, by go_num, by rw [HPS.out]; exact OWN3.out, B3.out, K3.out⟩
            case measure => simp [intOf]; omega
          · have HQ := Lib.hid (layOne_yes HK.out hfr)
            have HPT := Lib.hid (partT_take (n := n) hm2 hfr)
            have HFR := Lib.hid hfr
            clear hfr
            go_wp2_with (fail)
            refine (sLayOne_q2 _ _ r L _ _ _ R2.out.v U2.out.il _ HQ.out).mono ?_
            rintro e w3 ⟨v3, rfl, hv3, hb⟩
            have O3 := Lib.hid (show OwnL w3 X _ (partT n r L k m) from (OwnL.below ⟨g, c, vs, rfl, HOW.out, HVL.out, HONE.out, HEL.out⟩ hb))
            have V3 := Lib.hid (Ow.of_owns (hv3.mono (Nat.zero_le _)))
            have B3 := Lib.hid (BWR.out.trans (hb.mono hXs))
            have K3 := Lib.hid (HKB.out.trans (KB.of_below hb))
            have R3 := Lib.hid (R2.out.on hb)
            have hXs3 : X ≤ w3.heap.size := Nat.le_trans hXs hb.size
            obtain ⟨x0', x1', x2'⟩ := R3.out.c3
            have sX' := R3.out.lt
            clear hb hv3 x0 x1 x2 sX
            obtain ⟨sub, hsub⟩ : ∃ s, tils n r (layL r L k ((m : Int) + 1)) = s := ⟨_, rfl⟩
            have IHm := fun (v u : Value) (w : World) (a1 : RegV w v r) (a2 : Ow w 0 3 u ((layL r L k ((m : Int) + 1)).map (Value.int .i64))) => IH.out v u (layL r L k ((m : Int) + 1)) w (by omega) a1 a2 (lay_ok HK.out HFR.out) (by have := openN_lay HK.out HFR.out; have := HO.out; omega)
            rw [hsub] at IHm
            have IHm := Lib.hid IHm
            have hlen : (partT n r L k m).length + sub.length ≤ 1099511627776 := by
              obtain ⟨y, hy⟩ := part_pre (n := n) (m := m + 1) (by omega) HF.out
              have h1 := tils_len r (n + 1) L
              have h2 : 2 ^ (n + 1) ≤ 2 ^ 40 := Nat.pow_le_pow_right (by omega) (by omega)
              rw [hy, HPT.out, hsub] at h1
              simp only [List.length_append] at h1
              omega
            rw [hsub] at HPT
            clear hsub
            go_wp2_with (fail)
            refine (IHm.out _ _ _ R3.out.v V3.out).mono ?_
            rintro e w4 ⟨v4, rfl, ho4, hb⟩
            obtain ⟨g4, c4, us, rfl, ow4, ul4, uo4, ue4⟩ := ho4
            have O4 := Lib.hid (O3.out.below hb)
            obtain ⟨g', c', vs', hev, ow', vl', vo', ve'⟩ := O4.out
            have hEg : g = g' ∧ c = c' := by simp at hev; exact hev
            obtain ⟨rfl, rfl⟩ := hEg
            have OW := Lib.hid ow'
            have VL := Lib.hid vl'
            have VO := Lib.hid vo'
            have VE := Lib.hid ve'
            have OU := Lib.hid ow4.sl
            have UL := Lib.hid ul4
            have UO := Lib.hid uo4
            have UE := Lib.hid ue4
            have B4 := Lib.hid (B3.out.trans (hb.mono hXs3))
            have K4 := Lib.hid (K3.out.trans (KB.of_below hb))
            have hXs4 : X ≤ w4.heap.size := Nat.le_trans hXs3 hb.size
            have hlen2 : vs'.length + sub.length ≤ 1099511627776 := by rw [vl']; exact hlen
            clear hb hev ow' vl' vo' ve' ow4 ul4 uo4 ue4 x0' x1' x2' sX'
            go_wp2_with (at_builtin; refine list_appM elem_listsS X g (partT n r L k m).length c vs' OW.out g4 0 sub.length c4 us OU.out (.tmp 33) (.tmp 36) rfl rfl rfl rfl UO.out ?_ hXs4 ?_; omega; intro n1 cap1 w5 A5; (have A := Lib.hid A5); clear A5)
            have hlt := (World.ownsRow.lt OW.out g rfl).1
            have O5 := Lib.hid (OwnL.appN OW.out A.out VL.out UL.out VO.out UO.out VE.out UE.out)
            have B5 := Lib.hid (B4.out.trans (below_grown A.out.grown hXs4 (fun i hi => by cases hi; exact hlt)))
            have K5 := Lib.hid (K4.out.trans (KB.of_grown A.out.grown (fun k cs t fr e hk => .inl (Own.btype OW.out e hk))))
            have hll : (partT n r L k m ++ sub).length = (partT n r L k m).length + sub.length := List.length_append
            rw [hll] at O5
            clear hll hlt
            go_wp2
            go_roundw
            case rel => exact ⟨m + 1, by omega, by go_num, by rw [HPT.out]; exact O5.out, B5.out, K5.out⟩
            case measure => simp [intOf]; omega
        · have e : m = 2 := by omega
          subst e
          clear x0 x1 x2 sX
          have OF : OwnL wr X (.slice (some ⟨g, 0, none⟩) (partT n r L k 2).length c) (partT n r L k 2) := ⟨g, c, vs, rfl, HOW.out, HVL.out, HONE.out, HEL.out⟩
          have OF := Lib.hid OF
          go_wp2
          go_ret
          exact retOL_is HP.out (hX ▸ OF.out) (hX ▸ BWR.out)
set_option maxHeartbeats 400000 in
theorem sTilingsAll_any (v : Value) (r : Reg) (w : World) (h : RegV w v r) : Calls Try.prog 99 #[v] w (RetOL (tilsR r) w) := by
  obtain ⟨a, cap, rfl, hs, hlc, hcm⟩ := h.opened
  have R0 := Lib.hid (RB.new hs)
  have B0 := Lib.hid (below_alloc w (.cells #[.int .i64 r.wide, .int .i64 r.tall, .slice a r.cells.length cap] 25))
  clear h hs
  cases hv : r.valid
  · go_enter Try.func99, Try.ntmps99
    go_wp2_with (fail)
    refine (sRegionValid_any _ r _ R0.out.v).mono ?_
    rw [hv]
    rintro e w1 ⟨rfl, hb⟩
    have HB := Lib.hid (B0.out.trans (hb.mono B0.out.size))
    have OL := Lib.hid (list_lit (w := w1) w.heap.size HB.out.size)
    have HT := Lib.hid (tilsR_no hv)
    clear hb
    go_wp2
    go_ret
    exact retOL_is HT.out OL.out (below_two HB.out _)
  · have HK := Lib.hid (bare_laid hv)
    have HOP := Lib.hid (bare_open hv)
    have HT := Lib.hid (tilsR_yes hv)
    obtain ⟨ts, hts⟩ : ∃ q, tils 40 r (bareL r) = q := ⟨_, rfl⟩
    have HTS := Lib.hid hts
    rw [hts] at HT
    clear hts
    go_enter Try.func99, Try.ntmps99
    go_wp2_with (fail)
    refine (sRegionValid_any _ r _ R0.out.v).mono ?_
    rw [hv]
    rintro e w1 ⟨rfl, hb⟩
    have R1 := Lib.hid (R0.out.on hb)
    have HB := Lib.hid (B0.out.trans (hb.mono B0.out.size))
    obtain ⟨x0, x1, x2⟩ := R1.out.c3
    have sX := R1.out.lt
    clear hb R0
    have HBs := HB.out.size
    generalize hX : w.heap.size = X at *
    have HB0 := Lib.hid (show Below w1.heap.size w1 w1.drew from (Below.refl _ _).drew)
    go_wp2_with (fail)
    go_region_held3 (fun w' => w'.cell? ⟨X, 0, none⟩ = some (.int .i64 r.wide) ∧ w'.cell? ⟨X, 1, none⟩ = some (.int .i64 r.tall) ∧ w'.cell? ⟨X, 2, none⟩ = some (.slice a r.cells.length cap))
      (first | with_reducible exact K5.out | with_reducible exact K4.out | (go_keep; done) | assumption)
      ((first
        | (go_at_call 126; refine (l2All_n r 40 _ _ (bareL r) _ (Nat.le_refl _) (R4.out.v) (Ow.of_owns (O4.out.mono (Nat.zero_le _))) HK.out HOP.out).mono ?_; rw [HTS.out]; rintro e w5 ⟨v5, rfl, ho5, hb5⟩; (have O5 := Lib.hid ho5); (have R5 := Lib.hid (R4.out.on hb5)); (have K5 := Lib.hid R5.out.c3); (have B5 := Lib.hid (B4.out.trans (hb5.mono B4.out.size))); (have Q5 := Lib.hid (Nat.le_trans HBs (Nat.le_trans HB0.out.size hb4s))); clear ho5 hb5)
        | (go_at_call 127; refine (sLaidBare_any _ r _ ((R1.out.on HB0.out).v)).mono ?_; rintro e w4 ⟨v4, rfl, ho4, hb4⟩; (have O4 := Lib.hid ho4); (have hb4s := hb4.size); (have R4 := Lib.hid ((R1.out.on HB0.out).on hb4)); (have K4 := Lib.hid R4.out.c3); (have B4 := Lib.hid (HB0.out.trans (hb4.mono HB0.out.size))); clear ho4 hb4)))
    have BF := Lib.hid (show Below w.heap.size w w5 from hX ▸ HB.out.trans (B5.out.mono HBs))
    have OF := Lib.hid (O5.out.mono Q5.out)
    clear x0 x1 x2 sX
    go_wp2
    go_ret
    exact retOL_is HT.out (hX ▸ OF.out) BF.out
end Go.Proofs.Ytcagpfnlpjfgeaa
