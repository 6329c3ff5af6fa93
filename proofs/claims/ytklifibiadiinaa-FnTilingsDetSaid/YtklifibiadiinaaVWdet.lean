/- Walks: the program's det. -/
import Derived.Test.YtklifibiadiinaaZe
import Derived.Test.YtklifibiadiinaaVClone
import Derived.Test.YtklifibiadiinaaVLaw
set_option linter.unusedVariables false
namespace Go.Proofs.Ytklifibiadiinaa
open Go.RowKit Domi

theorem elem_rows2 : ElemOk Try.prog 26 39 24 := ⟨Try.underlying26, by kernel_rfl⟩
theorem zero_row2 : (Try.prog.info? 39).bind (·.zero) = some (.slice none 0 0) := by kernel_rfl
theorem ll_get {w : World} {a : Option Addr} {n c : Nat} {T : List (List Int)} (h : Ll w (.slice a n c) T) {k : Nat} (hk : k < T.length) :
    ∃ b o u, a = some ⟨b, o, none⟩ ∧ b < w.heap.size ∧ w.cell? ⟨b, o + k, none⟩ = some u ∧ Il w u (T.getD k []) := by
  obtain ⟨_, _, e, _, _, h3⟩ := h.opened
  simp only [Value.slice.injEq] at e
  obtain ⟨rfl, _, rfl⟩ := e
  rcases h3 with e | ⟨b, o, rfl, hb, hc⟩
  · rw [e] at hk; simp at hk
  · obtain ⟨v, h1, h2⟩ := hc k hk
    exact ⟨b, o, v, rfl, hb, h1, h2⟩
theorem fillL_rows (M : List (List Int)) : fillL (fun j => M.getD j []) [] M.length M.length = M := by
  rw [fillL_full]
  refine List.ext_getElem (by simp) fun i h1 h2 => ?_
  simp [List.getD_eq_getElem?_getD, h2]
/-- Every number of the rows i and k, and where they lie. -/
theorem mx_two {w0 w : World} {g n c : Nat} {vs : List Value} {M : List (List Int)} (h : Mx w0 w 39 3 (.slice (some ⟨g, 0, none⟩) n c) vs M) (hs : SqM n M) {i : Nat} (hi : i < n) :
    ∃ b cc, (w.cell? ⟨g, i, none⟩ = some (.slice (some ⟨b, 0, none⟩) n cc) ∧ g < w.heap.size ∧ w.frozen? ⟨g, i, none⟩ = false) ∧ vs.getD i nilV = .slice (some ⟨b, 0, none⟩) n cc ∧ b < w.heap.size ∧ (n ≤ cc ∧ cc ≤ 9223372036854775807) ∧
      ∀ j, j < n → w.cell? ⟨b, j, none⟩ = some (.int .i64 (ent M i j)) ∧ w.frozen? ⟨b, j, none⟩ = false := by
  have hi' : i < M.length := by rw [hs.1]; exact hi
  have hl := hs.2 i hi
  obtain ⟨b, cc, h1, h2, h3, h4, h5, h6⟩ := h.rowAt hi' (by omega)
  obtain ⟨o1, o2, o3⟩ := h.outAt hi'
  rw [hl] at h1 h4 h6
  exact ⟨b, cc, ⟨by rw [o1, h1], o3, o2⟩, h1, h2, ⟨h4, h5⟩, h6⟩
set_option maxRecDepth 100000 in
set_option maxHeartbeats 4000000 in
theorem det_any (v : Value) (M : List (List Int)) (w : World) (n : Nat) (h : Ll w v M) (hsq : SqM n M) (hn : n ≤ 24) (x : Int) (hx : detM M = x) :
    Calls Try.prog 63 #[v] w (Ret (.int .i64 x) w) := by
  have HL := Lib.hid h
  obtain ⟨a, cap, rfl, hlc, hcm, _⟩ := h.opened
  have hl := hsq.1
  rw [hl] at hlc
  have HSQ := Lib.hid hsq
  have HX : Hid (detF n 0 (ent M) 1 1 = x) := Lib.hid (by rw [← hx]; unfold detM; rw [hl])
  rw [hl] at HL ⊢
  clear h hx hsq hl
  go_enter Try.func63, Try.ntmps63
  go_wp2_with (at_make; refine list_make elem_rows2 (.slice none 0 0) zero_row2 rfl n (.tmp 13) (.tmp 13) rfl rfl (n : Int) ?_ ?_ rfl ?_ ?_ ?_; rfl; rfl; omega; omega; intro cs hcs; have M0 := Lib.hid (Mx.start (w := w) (tO := 39) (tR := 3) hcs (by omega)))
  obtain ⟨g, hg⟩ : ∃ g, w.heap.size = g := ⟨_, rfl⟩
  have HG := Lib.hid hg
  rw [hg] at M0 ⊢
  clear hg
  go_loopw [17] (fun i wr => ∃ (k : Nat) (vs : List Value), k ≤ n ∧ i = .int .i64 k ∧ Mx w wr 39 3 (.slice (some ⟨g, 0, none⟩) n n) vs (fillL (fun j => M.getD j []) [] n k)) (fun i _ => n - (intOf i).toNat)
  case atStart => exact ⟨0, _, Nat.zero_le _, rfl, by rw [fillL_zero]; exact M0.out⟩
  case round =>
    clear M0
    obtain ⟨k, vs, hk, rfl, hmx⟩ := hrel
    have MX := Lib.hid hmx
    clear hmx
    by_cases hlt : k < n
    · have hlt' : (k : Int) < (n : Int) := by omega
      obtain ⟨b, o, u, rfl, hb, hcell, hil⟩ := ll_get (HL.out.below MX.out.bel) (k := k) (by rw [HSQ.out.1]; exact hlt)
      have hrl := HSQ.out.2 k hlt
      obtain ⟨ua, uc, rfl, hu1, hu2, _⟩ := hil.opened
      rw [hrl] at hcell hil hu1
      have HIL := Lib.hid hil
      have HRL := Lib.hid hrl
      clear hrl
      obtain ⟨y0, y1, y2⟩ := MX.out.outAt (i := k) (by rw [fillL_length]; exact hlt)
      clear hil
      go_wp2_with (fail)
      refine (Clone_int _ (M.getD k []) _ HIL.out (by rw [HRL.out]; omega) (by rw [HRL.out]; omega)).mono ?_
      rintro e w4 ⟨rv, rfl, ho, hb4⟩
      obtain ⟨rb5, rc5, hrv, _⟩ := ho.formN (by rw [List.length_map, HRL.out]; omega)
      rw [List.length_map, HRL.out] at hrv
      subst hrv
      have y0' := (MX.out.below hb4).outAt (i := k) (by rw [fillL_length]; exact hlt)
      obtain ⟨z0, z1, z2⟩ := y0'
      have NX := Lib.hid (MX.out.setRow (grown_below hb4 none) ho (i := k) (by rw [fillL_length]; exact hlt))
      rw [fillL_set] at NX
      clear ho hb4 y0 y1 y2 hcell
      go_wp2_with (fail)
      go_roundw
      case rel => exact ⟨k + 1, _, by omega, by go_num, NX.out⟩
      case measure => simp [intOf]; omega
    · have e : n = k := by omega
      subst e
      have MX1 : Hid (Mx w wr 39 3 (.slice (some ⟨g, 0, none⟩) n n) vs M) := Lib.hid (by
        have := MX.out
        rw [show fillL (fun j => M.getD j []) [] n n = M by have := fillL_rows M; rw [HSQ.out.1] at this; exact this] at this
        exact this)
      clear MX hk hlt
      go_wp2_with (fail)
      go_loopw [6, 7, 30] (fun sg la i wr => ∃ (k : Nat) (s l : Int) (vs : List Value) (M : List (List Int)), k ≤ n ∧ i = .int .i64 k ∧ sg = .int .i64 s ∧ la = .int .i64 l ∧ Hid (l ≠ 0) ∧ Hid (SqM n M) ∧ Hid (detF (n - k) k (ent M) s l = x) ∧ Mx w wr 39 3 (.slice (some ⟨g, 0, none⟩) n n) vs M) (fun _ _ i _ => n - (intOf i).toNat)
      case atStart => exact ⟨0, 1, 1, vs, M, Nat.zero_le _, rfl, rfl, rfl, Lib.hid (by decide), HSQ, HX, MX1.out⟩
      case round =>
        clear MX1 HX HSQ HL
        obtain ⟨k, s, l, vs, M, hk, rfl, rfl, rfl, HL0, HSQ, HX, hmx⟩ := hrel
        have MX := Lib.hid hmx
        clear hmx
        by_cases hlt : k < n
        · have hlt' : (k : Int) < (n : Int) := by omega
          go_wp2_with (fail)
          go_loop [9] (fun a => ∃ p : Nat, k ≤ p ∧ p ≤ n ∧ a = .int .i64 p ∧ Hid (∀ i, k ≤ i → i < p → ent M i k = 0)) (fun a => n - (intOf a).toNat)
          case atStart => exact ⟨k, Nat.le_refl _, by omega, rfl, Lib.hid fun i h1 h2 => by omega⟩
          case round =>
            obtain ⟨p, hkp, hpn, rfl, HZ⟩ := hrel
            by_cases hpl : p < n
            · have hpl' : (p : Int) < (n : Int) := by omega
              obtain ⟨b, cc, ⟨o1, o2, o3⟩, hvp, hb, _, hcell⟩ := mx_two MX.out HSQ.out hpl
              obtain ⟨r1, r2⟩ := hcell k hlt
              obtain ⟨y, hy⟩ : ∃ y, ent M p k = y := ⟨_, rfl⟩
              rw [hy] at r1
              have HY := Lib.hid hy
              clear hy hcell
              by_cases hy0 : y = 0
              · subst hy0
                have HZ2 : Hid (∀ i, k ≤ i → i < p + 1 → ent M i k = 0) := Lib.hid (fun i h1 h2 => by
                  by_cases e : i = p
                  · subst e; exact HY.out
                  · exact HZ.out i h1 (by omega))
                go_wp2_with (fail)
                go_round
                case rel => exact ⟨p + 1, by omega, by omega, by go_num, HZ2⟩
                case measure => simp [intOf]; omega
              · have hy1 : (y == 0) = false := by simpa using hy0
                have hpn1 : ((p : Int) == (n : Int)) = false := by simp; omega
                obtain ⟨bk, ck, ⟨q1, q2, q3⟩, hvk, _⟩ := mx_two MX.out HSQ.out hlt
                have HP : Hid (ent M p k ≠ 0) := Lib.hid (by rw [HY.out]; exact hy0)
                by_cases e : k = p
                case' pos =>
                  subst e
                  have hpk : ((k : Int) != (k : Int)) = false := by simp
                  have MX1 := MX
                  have HSQ1 := HSQ
                  have HE1 : Hid (ent M = swapF (ent M) k k) := Lib.hid (swapF_self _ _).symm
                  obtain ⟨s1, hs1⟩ : ∃ s1, s = s1 := ⟨_, rfl⟩
                  have HX1 : Hid (detF (n - (k + 1)) (k + 1) (stepF (ent M) k l) s1 (ent M k k) = x) := Lib.hid (by
                    have h1 := HX.out
                    rw [show n - k = (n - (k + 1)) + 1 by omega, detF_some (p := k) hkp (by omega) HP.out HZ.out, if_pos rfl, swapF_self, hs1] at h1
                    exact h1)
                  have HPV : Hid (ent M k k ≠ 0) := HP
                  obtain ⟨M1, hM1⟩ : ∃ M1, M = M1 := ⟨_, rfl⟩
                  rw [hM1] at MX1 HSQ1 HX1 HPV
                  obtain ⟨vs1, hvs1⟩ : ∃ vs1, vs = vs1 := ⟨_, rfl⟩
                  rw [hvs1] at MX1
                  clear hM1 hvs1 hvk q1 q2 q3 hb HY HZ HX MX HSQ HE1
                  rw [hs1]
                  clear hs1
                  go_wp2_with (fail)
                case' neg =>
                  have hpk : ((p : Int) != (k : Int)) = true := by simp; omega
                  go_wp2_with (fail)
                  go_region
                  have MX1 := (MX.out.swap (i := p) (j := k) (by rw [HSQ.out.1]; exact hpl) (by rw [HSQ.out.1]; exact hlt)).drew
                  rw [hvk, hvp] at MX1
                  obtain ⟨W2, hW2⟩ : ∃ W2, W2 = ((wr.setCell ⟨g, p, none⟩ (.slice (some ⟨bk, 0, none⟩) n ck)).setCell ⟨g, k, none⟩ (.slice (some ⟨b, 0, none⟩) n cc)).drew := ⟨_, rfl⟩
                  rw [← hW2] at MX1 ⊢
                  clear hW2
                  have MX1 := Lib.hid MX1
                  have HSQ1 : Hid (SqM n (swapL M [] p k)) := Lib.hid (HSQ.out.swap hpl hlt)
                  have HE1 : Hid (ent (swapL M [] p k) = swapF (ent M) p k) := Lib.hid (by funext a b; exact ent_swap HSQ.out hpl hlt a b)
                  have HX1 : Hid (detF (n - (k + 1)) (k + 1) (stepF (ent (swapL M [] p k)) k l) (wrap64 (-s)) (ent (swapL M [] p k) k k) = x) := Lib.hid (by
                    have h1 := HX.out
                    rw [show n - k = (n - (k + 1)) + 1 by omega, detF_some (p := p) hkp (by omega) HP.out HZ.out, if_neg (fun h => e h.symm), ← HE1.out] at h1
                    rw [HE1.out] at h1 ⊢
                    unfold swapF at h1 ⊢
                    simpa using h1)
                  have HPV : Hid (ent (swapL M [] p k) k k ≠ 0) := Lib.hid (by rw [HE1.out]; unfold swapF; simpa using HP.out)
                  obtain ⟨M1, hM1⟩ : ∃ M1, swapL M [] p k = M1 := ⟨_, rfl⟩
                  rw [hM1] at MX1 HSQ1 HX1 HPV
                  obtain ⟨vs1, hvs1⟩ : ∃ vs1, swapL vs nilV p k = vs1 := ⟨_, rfl⟩
                  rw [hvs1] at MX1
                  clear hM1 hvs1 hvk hvp q1 q2 q3 hb HY HZ HX MX HSQ HE1 o1 o2 o3 r1 r2
                  go_wp2_with (fail)
                all_goals
                  obtain ⟨B, hB⟩ : ∃ B, ent M1 = B := ⟨_, rfl⟩
                  have EL0 : Hid (Elim n k l B (fun i' j' => k < j' ∧ (i' < k + 1 ∨ (i' = k + 1 ∧ j' < k + 1))) M1) := Lib.hid (Elim.start HSQ1.out (fun i j _ _ _ _ => by rw [hB]) (fun i j _ _ _ _ => by omega) hlt)
                  rw [hB] at HX1 HPV
                  clear hB HSQ1
                  go_loopw [10] (fun i wr => ∃ (i0 : Nat) (M2 : List (List Int)), k + 1 ≤ i0 ∧ i0 ≤ n ∧ i = .int .i64 i0 ∧ Hid (Elim n k l B (fun i' j' => k < j' ∧ (i' < i0 ∨ (i' = i0 ∧ j' < k + 1))) M2) ∧ Mx w wr 39 3 (.slice (some ⟨g, 0, none⟩) n n) vs1 M2) (fun i _ => n - (intOf i).toNat)
                  case atStart => exact ⟨k + 1, M1, Nat.le_refl _, by omega, by go_num, EL0, MX1.out⟩
                  case round =>
                    clear MX1 EL0
                    obtain ⟨i0, M2, hki, hin, rfl, EL, hmx⟩ := hrel
                    have MX2 := Lib.hid hmx
                    clear hmx
                    by_cases hil : i0 < n
                    · have hil' : (i0 : Int) < (n : Int) := by omega
                      go_wp2_with (fail)
                      go_loopw [11] (fun j wr => ∃ (j0 : Nat) (M3 : List (List Int)), k + 1 ≤ j0 ∧ j0 ≤ n ∧ j = .int .i64 j0 ∧ Hid (Elim n k l B (fun i' j' => k < j' ∧ (i' < i0 ∨ (i' = i0 ∧ j' < j0))) M3) ∧ Mx w wr 39 3 (.slice (some ⟨g, 0, none⟩) n n) vs1 M3) (fun j _ => n - (intOf j).toNat)
                      case atStart => exact ⟨k + 1, M2, Nat.le_refl _, by omega, by go_num, EL, MX2.out⟩
                      case round =>
                        clear MX2 EL
                        obtain ⟨j0, M3, hkj, hjn, rfl, EL, hmx⟩ := hrel
                        have MX3 := Lib.hid hmx
                        clear hmx
                        by_cases hjl : j0 < n
                        · have hjl' : (j0 : Int) < (n : Int) := by omega
                          obtain ⟨bi, ci, ⟨o1, o2, o3⟩, hvi, hbi, _, hci⟩ := mx_two MX3.out EL.out.sq hil
                          obtain ⟨bk, ck, ⟨q1, q2, q3⟩, _, hbk, _, hck⟩ := mx_two MX3.out EL.out.sq hlt
                          obtain ⟨c1, c2⟩ := hci j0 hjl
                          obtain ⟨c3, _⟩ := hci k hlt
                          obtain ⟨c4, _⟩ := hck k hlt
                          obtain ⟨c5, _⟩ := hck j0 hjl
                          have hl0 := HL0.out
                          have hLc : ∀ (K : Later wr) (b o : Nat), b < wr.heap.size → K.x.cell? ⟨b, o, none⟩ = wr.cell? ⟨b, o, none⟩ := Later.cell
                          have hLf : ∀ (K : Later wr) (b o : Nat), b < wr.heap.size → K.x.frozen? ⟨b, o, none⟩ = wr.frozen? ⟨b, o, none⟩ := Later.frozen
                          have HVI := Lib.hid hvi
                          clear hvi hci hck
                          go_wp2_with (fail)
                          refine wp_region_later 39 (by kernel_rfl) (by kernel_rfl) ?_
                          simp only [List.take_succ_cons, List.take_zero, List.drop_succ_cons, List.drop_zero]
                          repeat (go_big_quiet_step (fail))
                          refine wpQuiet_nil ?_
                          intro K
                          have MX4 := Lib.hid (MX3.out.below K.h)
                          have o2' := (hLf K bi j0 hbi).trans c2
                          have o1' := (hLc K bi j0 hbi).trans c1
                          clear hLc hLf o1 o2 o3 q1 q2 q3 hbi hbk c1 c2 c3 c4 c5 hl0
                          go_wp2_with (fail)
                          go_roundw
                          case rel => exact ⟨j0 + 1, _, by omega, by omega, by go_num, Lib.hid (EL.out.put ⟨by omega, hil⟩ ⟨by omega, hjl⟩ (by omega) (by omega) (by intros; omega)), MX4.out.put (by rw [EL.out.sq.1]; exact hil) HVI.out j0 _⟩
                          case measure => simp [intOf]; omega
                        · have e : n = j0 := by omega
                          subst e
                          have EL2 : Hid (Elim n k l B (fun i' j' => k < j' ∧ (i' < i0 + 1 ∨ (i' = i0 + 1 ∧ j' < k + 1))) M3) := Lib.hid (EL.out.congr (by intros; omega))
                          clear EL
                          go_wp2_with (fail)
                          go_roundw
                          case rel => exact ⟨i0 + 1, M3, by omega, by omega, by go_num, EL2, MX3.out⟩
                          case measure => simp [intOf]; omega
                    · have e : n = i0 := by omega
                      subst e
                      obtain ⟨bk, ck, ⟨q1, q2, q3⟩, _, hbk, _, hck⟩ := mx_two MX2.out EL.out.sq hlt
                      obtain ⟨c4, _⟩ := hck k hlt
                      obtain ⟨y2, hy2⟩ : ∃ y2, ent M2 k k = y2 := ⟨_, rfl⟩
                      have htop := EL.out.top k (Nat.le_refl _) hlt
                      rw [hy2] at c4 htop
                      have HPV2 : Hid (y2 ≠ 0) := Lib.hid (by rw [htop]; exact HPV.out)
                      have HX2 : Hid (detF (n - (k + 1)) (k + 1) (ent M2) _ y2 = x) := Lib.hid (by
                        have h1 := HX1.out
                        rw [← htop] at h1
                        rw [← h1]
                        exact detF_congr fun i j a b c d => EL.out.all (by intros; omega) i j a (by omega) c (by omega))
                      have HS2 := Lib.hid EL.out.sq
                      clear hck htop hy2 EL HPV HX1
                      go_wp2_with (fail)
                      go_roundw
                      case rel => exact ⟨k + 1, _, _, vs1, M2, by omega, by go_num, rfl, rfl, HPV2, HS2, HX2, MX2.out⟩
                      case measure => simp [intOf]; omega
            · have e : p = n := by omega
              subst e
              have HR : Hid ((0 : Int) = x) := Lib.hid (by
                have h1 := HX.out
                obtain ⟨f, hf⟩ : ∃ f, p - k = f + 1 := ⟨p - k - 1, by omega⟩
                rw [hf, detF_none fun i a b => HZ.out i a (by omega)] at h1
                exact h1)
              have BW := Lib.hid MX.out.bel
              clear HX MX HSQ
              go_wp2_with (fail)
              go_ret
              exact ⟨ret_int HR.out, BW.out⟩
        · have e : n = k := by omega
          subst e
          have HR : Hid (wrap64 (s * l) = x) := Lib.hid (by have h1 := HX.out; rw [Nat.sub_self] at h1; exact h1)
          have BW := Lib.hid MX.out.bel
          clear HX MX HSQ
          go_wp2_with (fail)
          go_ret
          exact ⟨ret_int HR.out, BW.out⟩
end Go.Proofs.Ytklifibiadiinaa
