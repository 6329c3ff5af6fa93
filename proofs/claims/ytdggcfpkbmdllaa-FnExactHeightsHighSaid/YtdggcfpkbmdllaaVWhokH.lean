/- Walks: HeightsHigh of both sides. -/
import Derived.Test.YtdggcfpkbmdllaaVWhokT
import Derived.Test.YtdggcfpkbmdllaaZe
import Derived.Test.YtdggcfpkbmdllaaVWflipB
import Derived.Test.YtdggcfpkbmdllaaVWone
import Derived.Test.YtdggcfpkbmdllaaVWh
set_option linter.unusedVariables false
namespace Domi
open Go Go.RowKit
/-- The greater ones of the first k. -/
def hiTo (L D : List Int) (k : Nat) : List Int := (List.range k).map fun i => maxI (L.getD i 0) (D.getD i 0)
/-- The same, and 0 behind them. -/
def hiN (L D : List Int) (n k : Nat) : List Int := (List.range n).map fun i => if i < k then maxI (L.getD i 0) (D.getD i 0) else 0
noncomputable def hHigh (r : Reg) (L D : List Int) : List Int := if okH r L && okH r D then hiTo L D L.length else []
theorem hHigh_no1 {r : Reg} {L : List Int} (D : List Int) (h : okH r L = false) : hHigh r L D = [] := by unfold hHigh; rw [h]; rfl
theorem hHigh_no2 {r : Reg} (L : List Int) {D : List Int} (h : okH r D = false) : hHigh r L D = [] := by unfold hHigh; rw [h, Bool.and_false]; rfl
theorem hHigh_yes {r : Reg} {L D : List Int} (h : okH r L = true) (h2 : okH r D = true) : hHigh r L D = hiTo L D L.length := by unfold hHigh; rw [h, h2]; rfl
theorem hiTo_zero (L D : List Int) : hiTo L D 0 = [] := rfl
theorem hiTo_len (L D : List Int) (k : Nat) : (hiTo L D k).length = k := by simp [hiTo]
theorem hiTo_succ (L D : List Int) (k : Nat) : hiTo L D (k + 1) = hiTo L D k ++ [maxI (L.getD k 0) (D.getD k 0)] := by unfold hiTo; rw [List.range_succ, List.map_append]; rfl
theorem hiN_len (L D : List Int) (n k : Nat) : (hiN L D n k).length = n := by simp [hiN]
theorem hiN_zero (L D : List Int) (n : Nat) : hiN L D n 0 = List.replicate n 0 := by
  unfold hiN
  rw [List.eq_replicate_iff]
  refine ⟨by simp, fun b hb => ?_⟩
  obtain ⟨i, _, rfl⟩ := List.mem_map.1 hb
  rw [if_neg (by omega)]
theorem hiN_full (L D : List Int) (n : Nat) : hiN L D n n = hiTo L D n := List.map_congr_left fun i hi => by rw [if_pos (List.mem_range.1 hi)]
theorem hiN_succ (L D : List Int) {n k : Nat} (hk : k < n) : hiN L D n (k + 1) = (hiN L D n k).set k (maxI (L.getD k 0) (D.getD k 0)) := by
  refine List.ext_getElem (by simp [hiN]) fun i h1 h2 => ?_
  simp only [hiN, List.getElem_set, List.getElem_map, List.getElem_range]
  by_cases e : k = i
  · subst e; rw [if_pos rfl, if_pos (by omega)]
  · rw [if_neg e]
    by_cases h : i < k
    · rw [if_pos h, if_pos (by omega)]
    · rw [if_neg h, if_neg (by omega)]
theorem hHigh_len (r : Reg) (L D : List Int) : (hHigh r L D).length ≤ L.length := by
  unfold hHigh; split
  · rw [hiTo_len]; exact Nat.le_refl _
  · exact Nat.zero_le _
theorem okH_len {r : Reg} {H : List Int} (h : okH r H = true) : H.length = r.cor ∧ r.valid = true := by
  by_cases e : H.length = r.cor
  · refine ⟨e, ?_⟩
    cases hs : r.simB
    · rw [okH_no1 hs] at h; cases h
    · exact (sim_holes hs).1
  · rw [okH_no2 e] at h; cases h
theorem cor_small {r : Reg} (hv : r.valid = true) : r.cor ≤ 49 := by
  have F := fld_of hv
  rw [cor_is F]
  have hk : (r.wide.toNat + 1) * (r.tall.toNat + 1) ≤ 7 * 7 := Nat.mul_le_mul (by have := F.w6; omega) (by have := F.t6; omega)
  omega
end Domi
namespace Go.Proofs.Ytdggcfpkbmdllaa
open Go.RowKit Domi

def RetHi (l : List Int) (w : World) (e : Ending) (w' : World) : Prop := ∃ v, e = .returned v ∧ Ow w' w.heap.size 3 v (l.map (Value.int .i64)) ∧ Below w.heap.size w w'
theorem greater_is (a b x : Int) (h : maxI a b = x) (w : World) : Calls Try.prog 80 #[.int .i64 a, .int .i64 b] w (Ret (.int .i64 x) w) := by
  by_cases hlt : a < b
  · have e : b = x := by rw [← h]; unfold maxI; rw [if_pos hlt]
    subst e
    clear h
    go_enter Try.func80, Try.ntmps80
    go_wp2_with (fail)
    go_ret
    exact ⟨rfl, Below.refl _ _⟩
  · have e : a = x := by rw [← h]; unfold maxI; rw [if_neg hlt]
    subst e
    clear h
    go_enter Try.func80, Try.ntmps80
    go_wp2_with (fail)
    go_ret
    exact ⟨rfl, Below.refl _ _⟩
set_option maxRecDepth 100000 in
set_option maxHeartbeats 2000000 in
theorem pick_is (u t : Value) (L D : List Int) (w : World) (hu : Il w u L) (ht : Il w t D) (hl : L.length = D.length) (hl2 : L.length ≤ 49) :
    Calls Try.prog 79 #[u, t, .func (.func 80) #[] #[]] w (RetL (hiTo L D L.length) w) := by
  obtain ⟨ua, uc, rfl, hu1, hu2, _⟩ := hu.opened
  obtain ⟨ta, tc, rfl, ht1, ht2, _⟩ := ht.opened
  have HU := Lib.hid hu
  have HT := Lib.hid ht
  obtain ⟨n, hn⟩ : ∃ n, L.length = n := ⟨_, rfl⟩
  have hn2 : D.length = n := by omega
  have HN := Lib.hid hn
  have HN2 := Lib.hid hn2
  rw [hn] at hu1 HU hl2 ⊢
  rw [hn2] at ht1 HT ⊢
  clear hu ht hn hn2 hl
  have S0 := Lib.hid (Sep.start w none)
  go_enter Try.func79, Try.ntmps79
  go_wp2_with (at_make; refine list_make elem_ints (.int .i64 0) zero_int rfl n _ _ rfl rfl (n : Int) ?_ ?_ rfl ?_ ?_ ?_; rfl; rfl; omega; omega; intro cs hcs; (have S3 := Lib.hid (S0.out.made (e := 3) hcs (by omega))))
  have HS : Hid (Sep w none (w.alloc (Obj.cells cs 3)) [.row 3 (.slice (some ⟨w.heap.size, 0, none⟩) n n) ((hiN L D n 0).map (Value.int .i64))]) := Lib.hid (by rw [hiN_zero]; simpa using S3.out)
  clear S3 S0 hcs
  obtain ⟨W, hW⟩ : ∃ W, W = w.alloc (Obj.cells cs 3) := ⟨_, rfl⟩
  rw [← hW] at HS ⊢
  clear hW
  generalize hg : w.heap.size = g at *
  have HG := Lib.hid hg
  clear hg
  go_wp2_with (fail)
  go_loopw [14] (fun i wr => ∃ k : Nat, k ≤ n ∧ i = .int .i64 k ∧ Sep w none wr [.row 3 (.slice (some ⟨g, 0, none⟩) n n) ((hiN L D n k).map (Value.int .i64))]) (fun i _ => n - (intOf i).toNat)
  case atStart => exact ⟨0, Nat.zero_le _, rfl, HS.out⟩
  case round =>
    clear HS
    obtain ⟨k, hk, rfl, hS⟩ := hrel
    have HS := Lib.hid hS
    clear hS
    by_cases hlt : k < n
    · have hlt' : (k : Int) < (n : Int) := by omega
      obtain ⟨b1, o1, rfl, hb1, c1⟩ := il_get7 (HU.out.below HS.out.bel) (j := k) (by rw [HN.out]; exact hlt)
      obtain ⟨b2, o2, rfl, hb2, c2⟩ := il_get7 (HT.out.below HS.out.bel) (j := k) (by rw [HN2.out]; exact hlt)
      obtain ⟨p, hp⟩ : ∃ x, L.getD k 0 = x := ⟨_, rfl⟩
      obtain ⟨q, hq⟩ : ∃ x, D.getD k 0 = x := ⟨_, rfl⟩
      obtain ⟨x, hx⟩ : ∃ x, maxI p q = x := ⟨_, rfl⟩
      have HX := Lib.hid hx
      rw [hp] at c1
      rw [hq] at c2
      have HNX : Hid (hiN L D n (k + 1) = (hiN L D n k).set k x) := Lib.hid (by rw [hiN_succ L D hlt, hp, hq, hx])
      clear hp hq hx
      have own := (HS.out.own 0 rfl).cell k (by exact hlt)
      obtain ⟨z1, z2, z3⟩ := own
      rw [List.getElem?_map, List.getElem?_eq_getElem (by rw [hiN_len]; exact hlt)] at z1
      have z1 : wr.cell? ⟨g, k, none⟩ = some _ := z1
      generalize (Value.int .i64 ((hiN L D n k)[k]'(by rw [hiN_len]; exact hlt))) = zv at z1
      go_wp2_with (fail)
      have hLc : ∀ (L : Later wr) (b o : Nat), b < wr.heap.size → L.x.cell? ⟨b, o, none⟩ = wr.cell? ⟨b, o, none⟩ := Later.cell
      have hLf : ∀ (L : Later wr) (b o : Nat), b < wr.heap.size → L.x.frozen? ⟨b, o, none⟩ = wr.frozen? ⟨b, o, none⟩ := Later.frozen
      refine wp_region_later 13 (by kernel_rfl) (by kernel_rfl) ?_
      simp only [List.take_succ_cons, List.take_zero, List.drop_succ_cons, List.drop_zero]
      repeat (go_big_quiet_step (exact calls_later _ (greater_is _ _ x HX.out _)))
      refine wpQuiet_nil ?_
      intro L
      have S4 := Lib.hid ((HS.out.later L).set 0 rfl k (.int .i64 x))
      go_wp2
      refine ⟨⟨k + 1, by omega, by go_num, ?_⟩, by simp [intOf]; omega⟩
      have h := S4.out
      rw [HNX.out, List.map_set]
      exact h
    · have e : k = n := by omega
      subst e
      have HO := Lib.hid (HS.out.high 0 rfl)
      go_wp2
      go_ret
      exact ⟨_, rfl, by rw [← hiN_full]; exact HO.out, HS.out.bel⟩
set_option maxHeartbeats 2000000 in
theorem HeightsHigh_any (v u t : Value) (r : Reg) (L D : List Int) (w : World) (h : RegV w v r) (hu : Il w u L) (ht : Il w t D) :
    Calls Try.prog 40 #[v, u, t] w (RetHi (hHigh r L D) w) := by
  obtain ⟨a, cap, rfl, hs, hlc, hcm⟩ := h.opened
  have R0 := Lib.hid (RB.new hs)
  have B0 := Lib.hid (below_alloc w (.cells #[.int .i64 r.wide, .int .i64 r.tall, .slice a r.cells.length cap] 28))
  have HU := Lib.hid hu
  have HT := Lib.hid ht
  clear h hs hu ht
  go_enter Try.func40, Try.ntmps40
  go_wp2_with (fail)
  cases hk : okH r L
  · refine (HeightsOk_any _ _ r L _ R0.out.v (HU.out.below B0.out) false hk).mono ?_
    rintro e w1 ⟨rfl, hb⟩
    have B1 := Lib.hid (B0.out.trans (hb.mono B0.out.size))
    have E : Hid (hHigh r L D = []) := Lib.hid (hHigh_no1 D hk)
    clear hb hk
    go_wp2_with (fail)
    go_ret
    exact ⟨_, rfl, by rw [E.out]; exact .inl ⟨rfl, rfl⟩, B1.out⟩
  refine (HeightsOk_any _ _ r L _ R0.out.v (HU.out.below B0.out) true hk).mono ?_
  rintro e w1 ⟨rfl, hb⟩
  have R1 := Lib.hid (R0.out.on hb)
  have B1 := Lib.hid (B0.out.trans (hb.mono B0.out.size))
  have HK := Lib.hid hk
  clear hb R0 B0 hk
  obtain ⟨x0, x1, x2⟩ := R1.out.c3
  go_wp2_with (fail)
  cases hk2 : okH r D
  · refine (HeightsOk_any _ _ r D _ R1.out.v (HT.out.below B1.out) false hk2).mono ?_
    rintro e w2 ⟨rfl, hb⟩
    have B2 := Lib.hid (B1.out.trans (hb.mono B1.out.size))
    have E : Hid (hHigh r L D = []) := Lib.hid (hHigh_no2 L hk2)
    clear hb hk2 x0 x1 x2
    go_wp2_with (fail)
    go_ret
    exact ⟨_, rfl, by rw [E.out]; exact .inl ⟨rfl, rfl⟩, B2.out⟩
  refine (HeightsOk_any _ _ r D _ R1.out.v (HT.out.below B1.out) true hk2).mono ?_
  rintro e w2 ⟨rfl, hb⟩
  have B2 := Lib.hid (B1.out.trans (hb.mono B1.out.size))
  have E : Hid (hHigh r L D = hiTo L D L.length) := Lib.hid (hHigh_yes HK.out hk2)
  have HLL := Lib.hid (show L.length = D.length by rw [(okH_len HK.out).1, (okH_len hk2).1])
  have HL2 := Lib.hid (show L.length ≤ 49 by rw [(okH_len HK.out).1]; exact cor_small (okH_len hk2).2)
  clear hb hk2 x0 x1 x2 R1
  go_wp2_with (fail)
  refine (pick_is _ _ L D _ (HU.out.below B2.out) (HT.out.below B2.out) HLL.out HL2.out).mono ?_
  rintro e w3 ⟨v3, rfl, ho, hb⟩
  have B3 := Lib.hid (B2.out.trans (hb.mono B2.out.size))
  have HO := Lib.hid (ho.mono B2.out.size)
  clear ho hb
  go_wp2_with (fail)
  go_ret
  exact ⟨_, rfl, by rw [E.out]; exact Ow.of_owns HO.out, B3.out⟩
set_option maxRecDepth 100000 in
set_option maxHeartbeats 2000000 in
theorem sHeightsHigh_any (v u t : Value) (r : Reg) (L D : List Int) (w : World) (h : RegV w v r) (hu : Il w u L) (ht : Il w t D) :
    Calls Try.prog 39 #[v, u, t] w (RetL (hHigh r L D) w) := by
  obtain ⟨ra, rc, rfl, hs, hlc, hcm⟩ := h.opened
  obtain ⟨ua, uc, rfl, hu1, hu2, _⟩ := hu.opened
  obtain ⟨ta, tc, rfl, ht1, ht2, _⟩ := ht.opened
  have S0 := Lib.hid (((Sep.start w none).box #[.int .i64 r.wide, .int .i64 r.tall, .slice ra r.cells.length rc] 28).empty 3)
  have HS := Lib.hid hs
  have HU := Lib.hid hu
  have HT := Lib.hid ht
  have RV : Hid (∀ w', Below w.heap.size w w' → RegV w' (.agg #[.int .i64 r.wide, .int .i64 r.tall, .slice ra r.cells.length rc]) r) := Lib.hid fun w' hb => ⟨_, rfl, HS.out.below hb⟩
  obtain ⟨n, hn⟩ : ∃ n, L.length = n := ⟨_, rfl⟩
  have HN := Lib.hid hn
  obtain ⟨m, hm⟩ : ∃ n, D.length = n := ⟨_, rfl⟩
  have HM := Lib.hid hm
  rw [hn] at hu1 HU ⊢
  rw [hm] at ht1 HT ⊢
  clear hm
  obtain ⟨p, hp⟩ : ∃ x, okH r L = x := ⟨_, rfl⟩
  obtain ⟨q, hq⟩ : ∃ x, okH r D = x := ⟨_, rfl⟩
  have HP := Lib.hid hp
  have HQ := Lib.hid hq
  clear h hs hu ht hn hp hq
  have hsz : (w.alloc (.cells #[.int .i64 r.wide, .int .i64 r.tall, .slice ra r.cells.length rc] 28)).heap.size = w.heap.size + 1 := by simp
  rw [hsz] at S0
  have S0' : Hid (Sep w none _ [.box w.heap.size #[.int .i64 r.wide, .int .i64 r.tall, .slice ra r.cells.length rc] 28, .row 3 (.slice (some ⟨w.heap.size + 1, 0, none⟩) 0 0) ((hiTo L D 0).map (Value.int .i64))]) := S0
  clear S0 hsz
  go_enter Try.func39, Try.ntmps39
  go_wp2_with (fail)
  go_loopw [7, 8] (fun o i wr => ∃ (k g c : Nat), k ≤ n ∧ i = .int .i64 k ∧ o = .slice (some ⟨g, 0, none⟩) k c ∧ (0 < k → p = true ∧ q = true) ∧ Sep w none wr [.box w.heap.size #[.int .i64 r.wide, .int .i64 r.tall, .slice ra r.cells.length rc] 28, .row 3 (.slice (some ⟨g, 0, none⟩) k c) ((hiTo L D k).map (Value.int .i64))]) (fun _ i _ => n - (intOf i).toNat)
  case atStart => exact ⟨0, _, 0, Nat.zero_le _, rfl, rfl, fun h => by omega, S0'.out⟩
  case round =>
    clear S0'
    obtain ⟨k, g, c, hk, rfl, rfl, hpq, S⟩ := hrel
    have HD := Lib.hid S
    have HPQ := Lib.hid hpq
    clear S hpq
    obtain ⟨x0, x1, x2⟩ := HD.out.c3 0 rfl
    by_cases hlt : k < n
    · have hlt' : (k : Int) < (n : Int) := by omega
      go_wp2_with (fail)
      refine (sHeightsOk_any _ _ r L _ (RV.out _ HD.out.bel) (HU.out.below HD.out.bel) p HP.out).mono ?_
      rintro e w1 ⟨rfl, hb⟩
      have S1 := Lib.hid (HD.out.below hb)
      clear hb HD x0 x1 x2
      cases p
      · have hk0 : k = 0 := by
          rcases Nat.eq_zero_or_pos k with h | h
          · exact h
          · exact absurd (HPQ.out h).1 (by simp)
        subst hk0
        have E : Hid (hHigh r L D = []) := Lib.hid (hHigh_no1 D HP.out)
        have HO := Lib.hid (S1.out.high 1 rfl)
        go_wp2_with (fail)
        go_ret
        exact ⟨_, rfl, by rw [E.out]; exact HO.out, S1.out.bel⟩
      obtain ⟨x0, x1, x2⟩ := S1.out.c3 0 rfl
      go_wp2_with (fail)
      refine (sHeightsOk_any _ _ r D _ (RV.out _ S1.out.bel) (HT.out.below S1.out.bel) q HQ.out).mono ?_
      rintro e w2 ⟨rfl, hb⟩
      have S2 := Lib.hid (S1.out.below hb)
      clear hb S1 x0 x1 x2
      cases q
      · have hk0 : k = 0 := by
          rcases Nat.eq_zero_or_pos k with h | h
          · exact h
          · exact absurd (HPQ.out h).2 (by simp)
        subst hk0
        have E : Hid (hHigh r L D = []) := Lib.hid (hHigh_no2 L HQ.out)
        have HO := Lib.hid (S2.out.high 1 rfl)
        go_wp2_with (fail)
        go_ret
        exact ⟨_, rfl, by rw [E.out]; exact HO.out, S2.out.bel⟩
      have hmn : m = n := by rw [← HN.out, ← HM.out, (okH_len HP.out).1, (okH_len HQ.out).1]
      subst hmn
      have hn49 : m ≤ 49 := by rw [← HN.out, (okH_len HP.out).1]; exact cor_small (okH_len HP.out).2
      obtain ⟨b1, o1, rfl, hb1, c1⟩ := il_get7 (HU.out.below S2.out.bel) (j := k) (by rw [HN.out]; exact hlt)
      obtain ⟨b2, o2, rfl, hb2, c2⟩ := il_get7 (HT.out.below S2.out.bel) (j := k) (by rw [HM.out]; exact hlt)
      obtain ⟨y, hy⟩ : ∃ x, L.getD k 0 = x := ⟨_, rfl⟩
      obtain ⟨z, hz⟩ : ∃ x, D.getD k 0 = x := ⟨_, rfl⟩
      rw [hy] at c1
      rw [hz] at c2
      have HNX : Hid (hiTo L D (k + 1) = hiTo L D k ++ [maxI y z]) := Lib.hid (by rw [hiTo_succ, hy, hz])
      clear hy hz
      have HHM : ∀ x, maxI y z = x → (y < z → x = z) ∧ (¬ y < z → x = y) := fun x h => ⟨fun h' => by rw [← h]; unfold maxI; rw [if_pos h'], fun h' => by rw [← h]; unfold maxI; rw [if_neg h']⟩
      obtain ⟨x, hx⟩ : ∃ x, maxI y z = x := ⟨_, rfl⟩
      rw [hx] at HNX
      have hh := HHM x hx
      clear HHM hx
      have hcase : y < z ∨ z ≤ y := by omega
      have HNXX := HNX
      clear hcase
      by_cases hyz : y < z
      · obtain rfl := hh.1 hyz
        clear hh
        go_wp2_with (fail)
        go_region_law (refine step_app elem_ints 0 (.slice (some ⟨g, 0, none⟩) k c) ((hiTo L D k).map (Value.int .i64)) ?_ w2.heap.size (.int .i64 x) (.tmp 26) (.tmp 36) (by rfl) (by rfl) (by rfl) (by rfl) (heap_alloc_new _ _) (by rfl) ?_ ?_ ?_; exact Own.alloc (S2.out.drew.own 1 rfl) _; (rw [List.length_map, hiTo_len]; omega); (exact Nat.zero_le _); intro g2 cap w7 A7; (have D8 := Lib.hid ((S2.out.drew.alloc _).app 1 rfl A7)); clear A7)
        all_goals
          have D9 : Hid (Sep w none w7 [.box w.heap.size #[.int .i64 r.wide, .int .i64 r.tall, .slice ra r.cells.length rc] 28, .row 3 (.slice (some ⟨g2, 0, none⟩) (k + 1) cap) ((hiTo L D (k + 1)).map (Value.int .i64))]) := Lib.hid (by
            have h := D8.out
            rw [HNX.out, List.map_append]
            rw [List.length_map, hiTo_len] at h
            exact h)
          clear D8
          try simp only [hiTo_len]
          go_wp2
          go_roundw
          case rel => exact ⟨k + 1, g2, cap, by omega, by go_num, rfl, fun _ => ⟨trivial, trivial⟩, D9.out⟩
          case measure => simp [intOf]; omega
      · obtain rfl := hh.2 hyz
        have HIF := Lib.hid (if_neg hyz : (if x < z then z else x) = x)
        clear hh
        go_wp2_with (fail)
        go_region_law (refine step_app elem_ints 0 (.slice (some ⟨g, 0, none⟩) k c) ((hiTo L D k).map (Value.int .i64)) ?_ w2.heap.size (.int .i64 (if x < z then z else x)) (.tmp 26) (.tmp 36) (by rfl) (by rfl) (by rfl) (by rfl) (heap_alloc_new _ _) (by rfl) ?_ ?_ ?_; exact Own.alloc (S2.out.drew.own 1 rfl) _; (rw [List.length_map, hiTo_len]; omega); (exact Nat.zero_le _); intro g2 cap w7 A7; (have D8 := Lib.hid ((S2.out.drew.alloc _).app 1 rfl A7)); clear A7)
        all_goals
          have D9 : Hid (Sep w none w7 [.box w.heap.size #[.int .i64 r.wide, .int .i64 r.tall, .slice ra r.cells.length rc] 28, .row 3 (.slice (some ⟨g2, 0, none⟩) (k + 1) cap) ((hiTo L D (k + 1)).map (Value.int .i64))]) := Lib.hid (by
            have h := D8.out
            rw [HIF.out] at h
            rw [HNX.out, List.map_append]
            rw [List.length_map, hiTo_len] at h
            exact h)
          clear D8
          try simp only [hiTo_len]
          go_wp2
          go_roundw
          case rel => exact ⟨k + 1, g2, cap, by omega, by go_num, rfl, fun _ => ⟨trivial, trivial⟩, D9.out⟩
          case measure => simp [intOf]; omega
    · have e : k = n := by omega
      subst e
      have HO := Lib.hid (HD.out.high 1 rfl)
      have E : Hid (hHigh r L D = hiTo L D k) := Lib.hid (by
        rcases Nat.eq_zero_or_pos k with h | h
        · subst h
          unfold hHigh
          rw [HN.out]
          split <;> rfl
        · rw [hHigh_yes (by rw [HP.out]; exact (HPQ.out h).1) (by rw [HQ.out]; exact (HPQ.out h).2), HN.out])
      go_wp2_with (fail)
      go_ret
      exact ⟨_, rfl, by rw [E.out]; exact HO.out, HD.out.bel⟩
end Go.Proofs.Ytdggcfpkbmdllaa
