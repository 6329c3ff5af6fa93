/- Walks: the reference's Det. -/
import Derived.Test.YtklifibiadiinaaVWmv
set_option linter.unusedVariables false
namespace Go.Proofs.Ytklifibiadiinaa
open Go.RowKit Domi

theorem row_copied {wr w5 : World} {row : List Int} {rg rcap n : Nat} {o : Obj} (A : AppN (wr.alloc o) wr.heap.size 3 (.slice (some ⟨wr.heap.size, 0, none⟩) 0 0) [] (row.map (Value.int .i64)) rg rcap w5) (hn : row.length = n) :
    wr.grownBy w5 none ∧ Own w5 wr.heap.size 3 (.slice (some ⟨rg, 0, none⟩) n rcap) (row.map (Value.int .i64)) := by
  refine ⟨grown_new (World.grownBy_alloc wr o none) A.grown (fun i hi _ => ?_), ?_⟩
  · have : wr.heap.size = i := by simpa [Value.ownBlock] using hi
    omega
  · have := A.own
    rw [List.nil_append, List.length_nil, Nat.zero_add, List.length_map, hn] at this
    exact this
set_option maxRecDepth 100000 in
set_option maxHeartbeats 4000000 in
theorem sDet_any (v : Value) (M : List (List Int)) (w : World) (h : Ll w v M) (x : Int) (hx : detR M = x) :
    Calls Try.prog 30 #[v] w (Ret (.int .i64 x) w) := by
  have HL := Lib.hid h
  obtain ⟨a, cap, rfl, hlc, hcm, _⟩ := h.opened
  have HX0 := Lib.hid hx
  clear h hx
  go_enter Try.func30, Try.ntmps30
  go_wp2_with (fail)
  cases hm : matB M
  · refine (sMatrixValid_any _ M _ HL.out false hm).mono ?_
    rintro e w1 ⟨rfl, rfl⟩
    have HR : Hid ((0 : Int) = x) := Lib.hid (by rw [← HX0.out, detR_no hm])
    clear hm
    go_wp2_with (fail)
    go_ret
    exact ⟨ret_int HR.out, Below.refl _ _⟩
  · refine (sMatrixValid_any _ M _ HL.out true hm).mono ?_
    rintro e w1 ⟨rfl, rfl⟩
    have HM := Lib.hid hm
    clear hm
    obtain ⟨n, hn⟩ : ∃ n, M.length = n := ⟨_, rfl⟩
    have HSQ : Hid (SqM n M) := Lib.hid (by rw [← hn]; exact (matB_sq HM.out).1)
    have hn24 : n ≤ 24 := by have := (matB_sq HM.out).2.1; omega
    have HX : Hid (detF n 0 (ent M) 1 1 = x) := Lib.hid (by rw [← HX0.out, detR_yes HM.out]; unfold detM; rw [hn])
    rw [hn] at HL hlc ⊢
    have M0 := Lib.hid (show Mx w (w.alloc (.cells #[] 39)) 39 3 (.slice (some ⟨w.heap.size, 0, none⟩) 0 0) [] [] from Mx.start (n := 0) (Lib.hid rfl) (by omega))
    clear hn HX0 HM
    go_wp2_with (fail)
    go_loopw [3, 4] (fun o i wr => ∃ (k m c g : Nat) (vs : List Value), k ≤ n ∧ i = .int .i64 k ∧ o = .slice (some ⟨g, 0, none⟩) m c ∧ Hid (m = k) ∧ Mx w wr 39 3 (.slice (some ⟨g, 0, none⟩) m c) vs (M.take k)) (fun _ i _ => n - (intOf i).toNat)
    case atStart => exact ⟨0, 0, 0, _, [], Nat.zero_le _, rfl, rfl, Lib.hid rfl, M0.out⟩
    case round =>
      clear M0
      obtain ⟨k, m, c, g, vs, hk, rfl, rfl, HMK, hmx⟩ := hrel
      have MX := Lib.hid hmx
      have hvl : vs.length = m := by rw [hmx.len, HMK.out, List.length_take, HSQ.out.1]; omega
      have HVL := Lib.hid hvl
      clear hmx hvl
      have hmk : m ≤ 24 := by have := HMK.out; omega
      by_cases hlt : k < n
      · have hlt' : (k : Int) < (n : Int) := by omega
        obtain ⟨b, o, u, rfl, hb, hcell, hil⟩ := ll_get (HL.out.below MX.out.bel) (k := k) (by rw [HSQ.out.1]; exact hlt)
        have hrl := HSQ.out.2 k hlt
        obtain ⟨ua, uc, rfl, hu1, hu2, _⟩ := hil.opened
        rw [hrl] at hcell hil hu1
        have HIL := Lib.hid hil
        have HRL := Lib.hid hrl
        clear hil hrl
        go_wp2_with (first
          | (at_builtin; refine list_app elem_rows2 w.heap.size (.slice (some ⟨g, 0, none⟩) m c) vs ?_ w5.heap.size (.slice (some ⟨rg, 0, none⟩) n rcap) (.tmp 22) (.tmp 29) rfl rfl rfl rfl (heap_alloc_new _ _) rfl ?_ ?_ ?_; exact Own.alloc (MX.out.kept GB.out).out _; (rw [HVL.out]; omega); (have := (MX.out.kept GB.out).g.size; simp; omega); intro g2 c2 w6 A6; (have M6 := Lib.hid (MX.out.addRow (grown_alloc GB.out _) (row := M.getD k []) (Own.alloc OR.out _) A6)); clear A6; rw [HVL.out])
          | (at_builtin; refine list_appN elem_ints wr.heap.size (.slice (some ⟨wr.heap.size, 0, none⟩) 0 0) [] ?_ (.slice ua n uc) ((M.getD k []).map (Value.int .i64)) ?_ ?_ (.tmp 23) (.tmp 27) rfl rfl rfl rfl ?_ ?_ ?_ ?_; exact Own.made (n := 0) (z := .int .i64 0) (Lib.hid rfl) (Nat.le_refl _) (by omega); exact Il.below HIL.out (below_alloc wr _); (rw [List.length_map, HRL.out]; omega); (intro x hx; obtain ⟨y, _, rfl⟩ := List.mem_map.1 hx; rfl); (rw [List.length_map, HRL.out]; simp; omega); (simp); intro rg rcap w5 A5; (have CP := row_copied A5 HRL.out); (have GB := Lib.hid CP.1); (have OR := Lib.hid CP.2); clear CP A5; rw [List.length_map, HRL.out]))
        have N6 : Hid (Mx w w6 39 3 (.slice (some ⟨g2, 0, none⟩) (m + 1) c2) (vs ++ [.slice (some ⟨rg, 0, none⟩) n rcap]) (M.take (k + 1))) := Lib.hid (by
          rw [take_snoc M [] k (by rw [HSQ.out.1]; exact hlt)]
          have := M6.out
          rw [HVL.out] at this
          exact this)
        go_roundw
        case rel => exact ⟨k + 1, m + 1, c2, g2, _, by omega, by go_num, rfl, Lib.hid (by rw [HMK.out]), N6.out⟩
        case measure => simp [intOf]; omega
      · have e : n = k := by omega
        subst e
        obtain rfl : n = m := HMK.out.symm
        have MX1 : Hid (Mx w wr 39 3 (.slice (some ⟨g, 0, none⟩) n c) vs M) := Lib.hid (by
          have := MX.out
          rw [show M.take n = M by rw [← HSQ.out.1]; exact List.take_length] at this
          exact this)
        clear MX hk hlt HMK
        obtain ⟨gc, hgc⟩ : ∃ gc, c = gc := ⟨_, rfl⟩
        rw [hgc] at MX1 ⊢
        clear hgc HVL hmk
        go_wp2_with (fail)
        go_loopw [5, 6, 7] (fun sg la i wr => ∃ (k : Nat) (s l : Int) (vs : List Value) (M : List (List Int)), k ≤ n ∧ i = .int .i64 k ∧ sg = .int .i64 s ∧ la = .int .i64 l ∧ Hid (l ≠ 0) ∧ Hid (SqM n M) ∧ Hid (detF (n - k) k (ent M) s l = x) ∧ Mx w wr 39 3 (.slice (some ⟨g, 0, none⟩) n gc) vs M) (fun _ _ i _ => n - (intOf i).toNat)
        case atStart => exact ⟨0, 1, 1, vs, M, Nat.zero_le _, rfl, rfl, rfl, Lib.hid (by decide), HSQ, HX, MX1.out⟩
        case round =>
          clear MX1 HX HSQ HL
          obtain ⟨k, s, l, vs, M, hk, rfl, rfl, rfl, HL0, HSQ, HX, hmx⟩ := hrel
          have MX := Lib.hid hmx
          clear hmx
          by_cases hlt : k < n
          · have hlt' : (k : Int) < (n : Int) := by omega
            go_wp2_with (fail)
            go_loop [8] (fun a => ∃ p : Nat, k ≤ p ∧ p ≤ n ∧ a = .int .i64 p ∧ Hid (∀ i, k ≤ i → i < p → ent M i k = 0)) (fun a => n - (intOf a).toNat)
            case atStart => exact ⟨k, Nat.le_refl _, by omega, rfl, Lib.hid fun i h1 h2 => by omega⟩
            case round =>
              obtain ⟨p, hkp, hpn, rfl, HZ⟩ := hrel
              by_cases hpl : p < n
              · have hpl' : (p : Int) < (n : Int) := by omega
                obtain ⟨b, cc, ⟨o1, o2, o3⟩, hvp, hb, _, hcell⟩ := mx_two MX.out HSQ.out hpl
                obtain ⟨r1, r2⟩ := hcell k hlt
                obtain ⟨y, hy⟩ : ∃ y, ent M p k = y := ⟨_, rfl⟩
                rw [hy] at r1
                have HY := Lib.hid hy
                clear hy hcell
                by_cases hy0 : y = 0
                · subst hy0
                  have HZ2 : Hid (∀ i, k ≤ i → i < p + 1 → ent M i k = 0) := Lib.hid (fun i h1 h2 => by
                    by_cases e : i = p
                    · subst e; exact HY.out
                    · exact HZ.out i h1 (by omega))
                  go_wp2_with (fail)
                  go_round
                  case rel => exact ⟨p + 1, by omega, by omega, by go_num, HZ2⟩
                  case measure => simp [intOf]; omega
                · have hy1 : (y == 0) = false := by simpa using hy0
                  have hpn1 : ((p : Int) == (n : Int)) = false := by simp; omega
                  obtain ⟨bk, ck, ⟨q1, q2, q3⟩, hvk, _⟩ := mx_two MX.out HSQ.out hlt
                  have HP : Hid (ent M p k ≠ 0) := Lib.hid (by rw [HY.out]; exact hy0)
                  by_cases e : k = p
                  case' pos =>
                    subst e
                    have hpk : ((k : Int) != (k : Int)) = false := by simp
                    have MX1 := MX
                    have HSQ1 := HSQ
                    have HE1 : Hid (ent M = swapF (ent M) k k) := Lib.hid (swapF_self _ _).symm
                    obtain ⟨s1, hs1⟩ : ∃ s1, s = s1 := ⟨_, rfl⟩
                    have HX1 : Hid (detF (n - (k + 1)) (k + 1) (stepF (ent M) k l) s1 (ent M k k) = x) := Lib.hid (by
                      have h1 := HX.out
                      rw [show n - k = (n - (k + 1)) + 1 by omega, detF_some (p := k) hkp (by omega) HP.out HZ.out, if_pos rfl, swapF_self, hs1] at h1
                      exact h1)
                    have HPV : Hid (ent M k k ≠ 0) := HP
                    obtain ⟨M1, hM1⟩ : ∃ M1, M = M1 := ⟨_, rfl⟩
                    rw [hM1] at MX1 HSQ1 HX1 HPV
                    obtain ⟨vs1, hvs1⟩ : ∃ vs1, vs = vs1 := ⟨_, rfl⟩
                    rw [hvs1] at MX1
                    clear hM1 hvs1 hvk q1 q2 q3 hb HY HZ HX MX HSQ HE1
                    rw [hs1]
                    clear hs1
                    go_wp2_with (fail)
                  case' neg =>
                    have hpk : ((p : Int) != (k : Int)) = true := by simp; omega
                    have hst := (MX.out.out.stored p (.slice (some ⟨bk, 0, none⟩) n ck)).cell k (by have := MX.out.len; have := HSQ.out.1; have h4 := MX.out.out.1; omega)
                    obtain ⟨t1, t2, t3⟩ := hst
                    rw [List.getElem?_set_ne (by omega)] at t1
                    have hvk3 : vs[k]? = some (.slice (some ⟨bk, 0, none⟩) n ck) := by
                      have hl3 : k < vs.length := by rw [MX.out.len, HSQ.out.1]; exact hlt
                      rw [List.getElem?_eq_getElem hl3, Domi.get_at vs nilV k hl3, hvk]
                    rw [hvk3] at t1
                    clear hvk3
                    go_wp2_with (fail)
                    have MX1 := MX.out.swap (i := p) (j := k) (by rw [HSQ.out.1]; exact hpl) (by rw [HSQ.out.1]; exact hlt)
                    rw [hvk, hvp] at MX1
                    obtain ⟨W2, hW2⟩ : ∃ W2, W2 = (wr.setCell ⟨g, p, none⟩ (.slice (some ⟨bk, 0, none⟩) n ck)).setCell ⟨g, k, none⟩ (.slice (some ⟨b, 0, none⟩) n cc) := ⟨_, rfl⟩
                    rw [← hW2] at MX1
                    have MX1 := Lib.hid MX1
                    have HSQ1 : Hid (SqM n (swapL M [] p k)) := Lib.hid (HSQ.out.swap hpl hlt)
                    have HE1 : Hid (ent (swapL M [] p k) = swapF (ent M) p k) := Lib.hid (by funext a b; exact ent_swap HSQ.out hpl hlt a b)
                    have HX1 : Hid (detF (n - (k + 1)) (k + 1) (stepF (ent (swapL M [] p k)) k l) (wrap64 (-s)) (ent (swapL M [] p k) k k) = x) := Lib.hid (by
                      have h1 := HX.out
                      rw [show n - k = (n - (k + 1)) + 1 by omega, detF_some (p := p) hkp (by omega) HP.out HZ.out, if_neg (fun h => e h.symm), ← HE1.out] at h1
                      rw [HE1.out] at h1 ⊢
                      unfold swapF at h1 ⊢
                      simpa using h1)
                    have HPV : Hid (ent (swapL M [] p k) k k ≠ 0) := Lib.hid (by rw [HE1.out]; unfold swapF; simpa using HP.out)
                    obtain ⟨M1, hM1⟩ : ∃ M1, swapL M [] p k = M1 := ⟨_, rfl⟩
                    rw [hM1] at MX1 HSQ1 HX1 HPV
                    obtain ⟨vs1, hvs1⟩ : ∃ vs1, swapL vs nilV p k = vs1 := ⟨_, rfl⟩
                    rw [hvs1] at MX1
                    clear hM1 hvs1 hvk hvp q1 q2 q3 hb HY HZ HX MX HSQ HE1 o1 o2 o3 r1 r2 t1 t2 t3
                    rw [← hW2]
                    clear hW2
                  all_goals
                    obtain ⟨B, hB⟩ : ∃ B, ent M1 = B := ⟨_, rfl⟩
                    have EL0 : Hid (Elim n k l B (fun i' j' => i' < k + 1) M1) := Lib.hid (Elim.start HSQ1.out (fun i j _ _ _ _ => by rw [hB]) (fun i j _ _ _ _ => by omega) hlt)
                    rw [hB] at HX1 HPV
                    clear hB HSQ1
                    go_loopw [10] (fun i wr => ∃ (i0 : Nat) (M2 : List (List Int)), k + 1 ≤ i0 ∧ i0 ≤ n ∧ i = .int .i64 i0 ∧ Hid (Elim n k l B (fun i' j' => i' < i0) M2) ∧ Mx w wr 39 3 (.slice (some ⟨g, 0, none⟩) n gc) vs1 M2) (fun i _ => n - (intOf i).toNat)
                    case atStart => exact ⟨k + 1, M1, Nat.le_refl _, by omega, by go_num, EL0, MX1.out⟩
                    case round =>
                      clear MX1 EL0
                      obtain ⟨i0, M2, hki, hin, rfl, EL, hmx⟩ := hrel
                      have MX2 := Lib.hid hmx
                      clear hmx
                      by_cases hil : i0 < n
                      · have hil' : (i0 : Int) < (n : Int) := by omega
                        go_wp2_with (fail)
                        go_loopw [11] (fun j wr => ∃ (j0 : Int) (M3 : List (List Int)), (k : Int) - 1 ≤ j0 ∧ j0 ≤ (n : Int) - 1 ∧ j = .int .i64 j0 ∧ Hid (Elim n k l B (fun i' j' => i' < i0 ∨ (i' = i0 ∧ j0 < (j' : Int))) M3) ∧ Mx w wr 39 3 (.slice (some ⟨g, 0, none⟩) n gc) vs1 M3) (fun j _ => (intOf j + 2).toNat)
                        case atStart => exact ⟨(n : Int) - 1, M2, by omega, by omega, rfl, Lib.hid (EL.out.congr (by intros; omega)), MX2.out⟩
                        case round =>
                          clear MX2 EL
                          obtain ⟨j0, M3, hkj, hjn, rfl, EL, hmx⟩ := hrel
                          have MX3 := Lib.hid hmx
                          clear hmx
                          by_cases hjl : (k : Int) ≤ j0
                          · obtain ⟨jj, rfl⟩ : ∃ jj : Nat, j0 = (jj : Int) := ⟨j0.toNat, by omega⟩
                            have hjn2 : jj < n := by omega
                            have hjl' : (jj : Int) < (n : Int) := by omega
                            obtain ⟨bi, ci, ⟨o1, o2, o3⟩, hvi, hbi, _, hci⟩ := mx_two MX3.out EL.out.sq hil
                            obtain ⟨bk, ck, ⟨q1, q2, q3⟩, _, hbk, _, hck⟩ := mx_two MX3.out EL.out.sq hlt
                            obtain ⟨c1, c2⟩ := hci jj hjn2
                            obtain ⟨c3, _⟩ := hci k hlt
                            obtain ⟨c4, _⟩ := hck k hlt
                            obtain ⟨c5, _⟩ := hck jj hjn2
                            have hl0 := HL0.out
                            have hLc : ∀ (K : Later wr) (b o : Nat), b < wr.heap.size → K.x.cell? ⟨b, o, none⟩ = wr.cell? ⟨b, o, none⟩ := Later.cell
                            have hLf : ∀ (K : Later wr) (b o : Nat), b < wr.heap.size → K.x.frozen? ⟨b, o, none⟩ = wr.frozen? ⟨b, o, none⟩ := Later.frozen
                            have HVI := Lib.hid hvi
                            clear hvi hci hck
                            go_wp2_with (fail)
                            refine wp_region_later 39 (by kernel_rfl) (by kernel_rfl) ?_
                            simp only [List.take_succ_cons, List.take_zero, List.drop_succ_cons, List.drop_zero]
                            repeat (go_big_quiet_step (fail))
                            refine wpQuiet_nil ?_
                            intro K
                            have MX4 := Lib.hid (MX3.out.below K.h)
                            have o2' := (hLf K bi jj hbi).trans c2
                            have o1' := (hLc K bi jj hbi).trans c1
                            clear hLc hLf o1 o2 o3 q1 q2 q3 hbi hbk c1 c2 c3 c4 c5 hl0
                            go_wp2_with (fail)
                            go_roundw
                            case rel => exact ⟨(jj : Int) - 1, _, by omega, by omega, by go_num, Lib.hid (EL.out.put ⟨by omega, hil⟩ ⟨by omega, hjn2⟩ (by omega) (by omega) (by intros; omega)), MX4.out.put (by rw [EL.out.sq.1]; exact hil) HVI.out jj _⟩
                            case measure => simp [intOf]; omega
                          · have EL2 : Hid (Elim n k l B (fun i' j' => i' < i0 + 1) M3) := Lib.hid (EL.out.congr (by intros; omega))
                            clear EL
                            go_wp2_with (fail)
                            go_roundw
                            case rel => exact ⟨i0 + 1, M3, by omega, by omega, by go_num, EL2, MX3.out⟩
                            case measure => simp [intOf]; omega
                      · have e : n = i0 := by omega
                        subst e
                        obtain ⟨bk, ck, ⟨q1, q2, q3⟩, _, hbk, _, hck⟩ := mx_two MX2.out EL.out.sq hlt
                        obtain ⟨c4, _⟩ := hck k hlt
                        obtain ⟨y2, hy2⟩ : ∃ y2, ent M2 k k = y2 := ⟨_, rfl⟩
                        have htop := EL.out.top k (Nat.le_refl _) hlt
                        rw [hy2] at c4 htop
                        have HPV2 : Hid (y2 ≠ 0) := Lib.hid (by rw [htop]; exact HPV.out)
                        have HX2 : Hid (detF (n - (k + 1)) (k + 1) (ent M2) _ y2 = x) := Lib.hid (by
                          have h1 := HX1.out
                          rw [← htop] at h1
                          rw [← h1]
                          exact detF_congr fun i j a b c d => EL.out.all (by intros; omega) i j a (by omega) c (by omega))
                        have HS2 := Lib.hid EL.out.sq
                        clear hck htop hy2 EL HPV HX1
                        go_wp2_with (fail)
                        go_roundw
                        case rel => exact ⟨k + 1, _, _, vs1, M2, by omega, by go_num, rfl, rfl, HPV2, HS2, HX2, MX2.out⟩
                        case measure => simp [intOf]; omega
              · have e : p = n := by omega
                subst e
                have HR : Hid ((0 : Int) = x) := Lib.hid (by
                  have h1 := HX.out
                  obtain ⟨f, hf⟩ : ∃ f, p - k = f + 1 := ⟨p - k - 1, by omega⟩
                  rw [hf, detF_none fun i a b => HZ.out i a (by omega)] at h1
                  exact h1)
                have BW := Lib.hid MX.out.bel
                clear HX MX HSQ
                go_wp2_with (fail)
                go_ret
                exact ⟨ret_int HR.out, BW.out⟩
          · have e : n = k := by omega
            subst e
            have HR : Hid (wrap64 (s * l) = x) := Lib.hid (by have h1 := HX.out; rw [Nat.sub_self] at h1; exact h1)
            have BW := Lib.hid MX.out.bel
            clear HX MX HSQ
            go_wp2_with (fail)
            go_ret
            exact ⟨ret_int HR.out, BW.out⟩
end Go.Proofs.Ytklifibiadiinaa
