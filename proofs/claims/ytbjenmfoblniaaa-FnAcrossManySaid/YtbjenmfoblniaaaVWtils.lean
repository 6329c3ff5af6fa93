/- Walks: each of the program, by what its callback keeps. -/
import Derived.Test.YtbjenmfoblniaaaVWlift
import Derived.Test.YtbjenmfoblniaaaVWmany
import Derived.Test.YtbjenmfoblniaaaZb
set_option linter.unusedVariables false
namespace Go.Proofs.Ytbjenmfoblniaaa
open Go.RowKit Domi

abbrev KL (w w' : World) : Prop := KB 39 35 w w'
theorem kl_refl (w : World) : KL w w := KB.refl w
theorem kl_below {w w' : World} (h : Below w.heap.size w w') : KL w w' := KB.of_below h
theorem kl_grown {w w' : World} {row : Option Nat} (h : w.grownBy w' row) (hr : ∀ (k : Nat) (cs : Array Value) (t : TypeId) (fr : Nat × Nat), row = some k → w.heap[k]? = some (Obj.cells cs t fr) → t = 39 ∨ t = 35) : KL w w' := KB.of_grown h hr
theorem ow_kl {w w' : World} {B : Nat} {v : Value} {xs : List Value} (h : Ow w B 3 v xs) (hk : KL w w') : Ow w' B 3 v xs := h.kb hk (by decide) (by decide)
theorem RB.kl {W W' : World} {X : Nat} {r : Reg} {s : Value} (h : RB W X r s) (hk : KL W W') (hb : Bl W' s r.cells) : RB W' X r s :=
  ⟨by rw [hk.blk X _ _ _ h.box (by decide) (by decide)]; exact h.box, hb⟩
theorem lit_ow (w : World) (xs : List Int) (hx : xs.length ≤ 1000) : Ow (w.alloc (.cells (xs.map (Value.int .i64)).toArray 3)) 0 3 (.slice (some ⟨w.heap.size, 0, none⟩) xs.length xs.length) (xs.map (Value.int .i64)) := by
  have := ((Sep.start w none).lit 3 (xs.map (Value.int .i64)).toArray xs.length (by simp) (by omega)).own 0 rfl
  have := Ow.of_owns this
  simpa using this
/-- What 'each' leaves, whose callback keeps J. -/
def Eached (β : Bool) (J : List (List Int) → World → Prop) (xs l : List (List Int)) (w : World) (e : Ending) (w' : World) : Prop :=
  e = .returned (.bool (goes β l)) ∧ J (xs ++ vis β l) w' ∧ KL w w'
theorem eached_is {β : Bool} {J : List (List Int) → World → Prop} {xs l ys : List (List Int)} {b : Bool} {w w' : World} (h1 : goes β l = b) (h2 : xs ++ vis β l = ys) (hJ : J ys w') (hk : KL w w') : Eached β J xs l w (.returned (.bool b)) w' := by
  subst h1; subst h2; exact ⟨rfl, hJ, hk⟩

set_option maxRecDepth 100000 in
set_option maxHeartbeats 4000000 in
theorem each115_n (p : Value) (r : Reg) (β : Bool) (N : Nat) (w0 : World) (s : Value) (hs0 : Bl w0 s r.cells) (J : List (List Int) → World → Prop) (hJ : ∀ xs w w', J xs w → Below w.heap.size w w' → J xs w') (hJ0 : ∀ xs w, J xs w → Below w0.heap.size w0 w)
    (hF : ∀ xs u L w, xs.length < N → J xs w → Ow w 0 3 u (L.map (Value.int .i64)) → tilingOk r L = true → Calls Try.prog 115 #[u, p] w (fun e w' => e = .returned (.bool β) ∧ J (xs ++ [L]) w' ∧ KL w w')) :
    ∀ (n : Nat) (xs : List (List Int)) (u : Value) (L : List Int) (w : World), Ow w 0 3 u (L.map (Value.int .i64)) → laidOk r L = true → openN r L < n → J xs w → xs.length + (tils n r L).length ≤ N →
    Calls Try.prog 114 #[.agg #[.int .i64 r.wide, .int .i64 r.tall, s], u, .func (.func 115) #[] #[p]] w (Eached β J xs (tils n r L) w) := by
  intro n
  induction n with
  | zero => intro xs u L w _ _ h; omega
  | succ n ih =>
    intro xs u L w hu hk hn hj hN
    have HB0 := Lib.hid (fun xs w (h : J xs w) => hs0.below (hJ0 xs w h))
    have HNN := Lib.hid hN
    have IH := Lib.hid ih
    have HJ := Lib.hid hJ
    have HF := Lib.hid hF
    have hs := hs0.below (hJ0 xs w hj)
    obtain ⟨a, cap, rfl, hlc, hcm, _⟩ := hs.opened
    have R0 := RB.new hs
    have B0 := below_alloc w (.cells #[.int .i64 r.wide, .int .i64 r.tall, .slice a r.cells.length cap] 29)
    have HU := hu.below B0
    obtain ⟨ua, uc, rfl, _, _, _⟩ := hu.il.opened
    have HK := Lib.hid hk
    have HO := Lib.hid hn
    have hlen := (laidOk_iff.1 hk).2.1
    have hv := (laidOk_iff.1 hk).1
    have hl36 : 1 ≤ r.cells.length ∧ r.cells.length ≤ 36 := by
      obtain ⟨b1, b2, b3, b4⟩ := Reg.valid_iff.1 hv
      have := area_in b1 b2
      omega
    have HJ0 := Lib.hid (hJ _ _ _ hj B0)
    clear ih hs hu hk hn hJ hF hj hv hN hJ0 hs0
    go_enter Try.func114, Try.ntmps114
    go_wp2_with (fail)
    obtain ⟨W, hW⟩ : ∃ W, W = w.alloc (.cells #[.int .i64 r.wide, .int .i64 r.tall, .slice a r.cells.length cap] 29) := ⟨_, rfl⟩
    rw [← hW] at R0 B0 HU HJ0 ⊢
    have R0 := Lib.hid R0
    have K0 := Lib.hid (kl_below B0)
    have U0 := Lib.hid HU
    clear hW B0
    generalize hX : w.heap.size = X at R0
    obtain ⟨b, off, rfl, hb, hc⟩ : ∃ b off, a = some ⟨b, off, none⟩ ∧ b < W.heap.size ∧ ∀ i, i < r.cells.length → W.cell? ⟨b, off + i, none⟩ = some (.bool (r.cells.getD i false)) := by
      obtain ⟨_, _, e, _, _, h3⟩ := R0.out.bl.opened
      simp only [Value.slice.injEq] at e
      obtain ⟨rfl, _, rfl⟩ := e
      rcases h3 with e | h3
      · rw [e] at hl36; simp at hl36
      · exact h3
    obtain ⟨ub, uo, rfl, hub, huc⟩ : ∃ b off, ua = some ⟨b, off, none⟩ ∧ b < W.heap.size ∧ ∀ i, i < L.length → W.cell? ⟨b, off + i, none⟩ = some (.int .i64 (L.getD i 0)) := by
      obtain ⟨_, _, e, _, _, h3⟩ := HU.il.opened
      simp only [Value.slice.injEq] at e
      obtain ⟨rfl, _, rfl⟩ := e
      rcases h3 with e | h3
      · rw [e] at hlen; simp at hlen; omega
      · exact h3
    have HC := Lib.hid hc
    have HUC := Lib.hid huc
    have HN := Lib.hid hlen
    obtain ⟨x0, x1, x2⟩ := R0.out.c3
    have sX := R0.out.lt
    clear hc huc HU hlen
    go_loop [7] (fun i => ∃ k : Nat, k ≤ L.length ∧ i = .int .i64 k ∧ ∀ j, j < k → openB r L j = false) (fun i => L.length - (intOf i).toNat)
    case atStart => exact ⟨0, Nat.zero_le _, rfl, fun _ h => by omega⟩
    case round =>
      obtain ⟨k, hk, rfl, hno⟩ := hrel
      have HD := Lib.hid hno
      clear hno
      by_cases hltL : k < L.length
      · have hlt : k < r.cells.length := by have := HN.out; omega
        have hck := HC.out k hlt
        have huk := HUC.out k hltL
        obtain ⟨x, hx⟩ : ∃ x, L.getD k 0 = x := ⟨_, rfl⟩
        rw [hx] at huk
        have HX := Lib.hid hx
        clear hx
        cases hf : r.cells.getD k false
        · rw [hf] at hck
          have HD2 := Lib.hid (fun j (hj : j < k + 1) => show openB r L j = false by
            by_cases e : j = k
            · subst e; unfold openB; rw [show r.f j = false from hf]; rfl
            · exact HD.out j (by omega))
          clear hf
          go_wp2
          go_round
          case rel => exact ⟨k + 1, by omega, by go_num, HD2.out⟩
          case measure => simp [intOf]; omega
        · rw [hf] at hck
          have HFk := Lib.hid (show r.f k = true from hf)
          clear hf
          by_cases hx0 : x = 0
          rotate_left
          · have hxe : (x != 0) = true := by simpa using hx0
            have HD2 := Lib.hid (fun j (hj : j < k + 1) => show openB r L j = false by
              by_cases e : j = k
              · subst e; unfold openB; rw [HX.out, decide_eq_false hx0, Bool.and_false]
              · exact HD.out j (by omega))
            go_wp2
            go_round
            case rel => exact ⟨k + 1, by omega, by go_num, HD2.out⟩
            case measure => simp [intOf]; omega
          · subst hx0
            have HFN := Lib.hid (firstN_some hltL (openB_iff.2 ⟨HFk.out, HX.out⟩) HD.out)
            have hkne : ¬ k = L.length := by omega
            have hkne2 : ((k : Int) == (L.length : Int)) = false := by simp; omega
            have HLIT : Hid (Ow (W.alloc (.cells #[.int .i64 1, .int .i64 2] 3)) 0 3 (.slice (some ⟨W.heap.size, 0, none⟩) 2 2) (([1, 2] : List Int).map (Value.int .i64))) := Lib.hid (lit_ow W [1, 2] (by simp))
            have BL := below_alloc W (.cells #[.int .i64 1, .int .i64 2] 3)
            obtain ⟨W1, hW1⟩ : ∃ W1, W1 = W.alloc (.cells #[.int .i64 1, .int .i64 2] 3) := ⟨_, rfl⟩
            rw [← hW1] at HLIT BL
            have R1 := Lib.hid (R0.out.on BL)
            have U1 := Lib.hid (U0.out.below BL)
            have J1 := Lib.hid (HJ.out _ _ _ HJ0.out BL)
            have K1 := Lib.hid (K0.out.trans (kl_below BL))
            have HW1 := Lib.hid hW1
            clear BL hW1
            go_wp2_with (fail)
            rw [← HW1.out]
            clear HW1 x0 x1 x2 sX hck huk HC HUC hkne hkne2
            have HCELL := Lib.hid (fun (w' : World) (hk' : KL W1 w') (m : Nat) (hm : m < 2) => show w'.cell? ⟨W.heap.size, m, none⟩ = some (.int .i64 ((m : Int) + 1)) by
              have hl := (ow_kl HLIT.out hk').il
              obtain ⟨_, _, e, _, _, h3⟩ := hl.opened
              simp only [Value.slice.injEq] at e
              obtain ⟨rfl, _, rfl⟩ := e
              rcases h3 with e | ⟨b', o', e, _, hc'⟩
              · cases e
              · cases e
                have hc := hc' m (by simpa using hm)
                rw [Nat.zero_add] at hc
                rw [hc]
                have hmm : m = 0 ∨ m = 1 := by omega
                rcases hmm with rfl | rfl <;> rfl)
            have hA : W.heap.size < W1.heap.size := World.block_lt_of_cell? W1 ⟨W.heap.size, 0, none⟩ (HCELL.out W1 (kl_refl _) 0 (by omega))
            clear HLIT
            generalize W.heap.size = A at *
            go_loopw [40] (fun i wr => ∃ m : Nat, m ≤ 2 ∧ i = .int .i64 m ∧ goes β (partT n r L k m) = true ∧ J (xs ++ vis β (partT n r L k m)) wr ∧ KL W1 wr) (fun i _ => 2 - (intOf i).toNat)
            case atStart => exact ⟨0, by omega, rfl, by rw [partT_zero]; exact goes_nil _, by rw [partT_zero, vis_nil, List.append_nil]; exact J1.out, kl_refl _⟩
            case round =>
              obtain ⟨m, hm, rfl, hg, hj, hkb⟩ := hrel
              have HG := Lib.hid hg
              have HJ2 := Lib.hid hj
              have HKB := Lib.hid hkb
              have R2 := Lib.hid (R1.out.kl hkb (HB0.out _ _ hj))
              have U2 := Lib.hid (ow_kl U1.out hkb)
              have K2 := Lib.hid (K1.out.trans hkb)
              clear hg hj hkb
              by_cases hm2 : m < 2
              · have hcm := HCELL.out wr HKB.out m hm2
                have hAr : A < wr.heap.size := Nat.lt_of_lt_of_le hA HKB.out.size
                obtain ⟨x0, x1, x2⟩ := R2.out.c3
                have sX := R2.out.lt
                cases hfr : free r L k ((m : Int) + 1)
                · have HFR := Lib.hid hfr
                  have HP := Lib.hid (partT_skip (n := n) hm2 hfr)
                  clear hfr
                  have hLc : ∀ (T : Later wr) (b o : Nat), b < wr.heap.size → T.x.cell? ⟨b, o, none⟩ = wr.cell? ⟨b, o, none⟩ := Later.cell
                  go_wp2_with (fail)
                  refine wp_region_later_all (by kernel_rfl) (by kernel_rfl) ?_
                  repeat (go_big_quiet_step (fail))
                  go_big_quiet_step (with_reducible exact calls_later _ (free_is _ _ r L _ _ _ (R2.out.on (Later.h _)).v (U2.out.below (Later.h _)).il (laidOk_iff.1 HK.out).1 HN.out false HFR.out))
                  repeat (go_big_quiet_step (fail))
                  refine wpQuiet_nil ?_
                  intro T
                  obtain ⟨w3, hw3⟩ : ∃ y, y = T.x := ⟨_, rfl⟩
                  have B3 := T.h
                  rw [← hw3] at B3 ⊢
                  have J3 := Lib.hid (HJ.out _ _ _ HJ2.out B3)
                  have B3 := Lib.hid (kl_below B3)
                  clear hw3 hLc x0 x1 x2 hcm hAr sX
                  clear T
                  go_wp2
                  go_roundw
                  case rel => exact ⟨m + 1, by omega, by go_num, by rw [HP.out]; exact HG.out, by rw [HP.out]; exact J3.out, HKB.out.trans B3.out⟩
                  case measure => simp [intOf]; omega
                · have HFR := Lib.hid hfr
                  have HP := Lib.hid (partT_take (n := n) hm2 hfr)
                  have hw : 1 ≤ (m : Int) + 1 := by omega
                  obtain ⟨ql, hql⟩ : ∃ q, goes β (tils n r (layL r L k ((m : Int) + 1))) = q := ⟨_, rfl⟩
                  have HQ := Lib.hid hql
                  have IHm := fun (u : Value) (w : World) (a2 : Ow w 0 3 u ((layL r L k ((m : Int) + 1)).map (Value.int .i64))) (a3 : J (xs ++ vis β (partT n r L k m)) w) => IH.out (xs ++ vis β (partT n r L k m)) u (layL r L k ((m : Int) + 1)) w a2 (lay_ok HK.out HFR.out) (by have := openN_lay HK.out HFR.out; have := HO.out; omega) a3 (by
                    obtain ⟨y, hy⟩ := part_pre (n := n) (m := m + 1) (by omega) HFN.out
                    have h1 := HNN.out
                    have h2 := vis_len β (partT n r L k m)
                    rw [hy, HP.out] at h1
                    simp only [List.length_append] at h1 ⊢
                    omega)
                  unfold Eached at IHm
                  rw [hql] at IHm
                  have IHm := Lib.hid IHm
                  clear hfr hql
                  go_wp2_with (fail)
                  go_region_held3 (fun w' => w'.cell? ⟨X, 0, none⟩ = some (.int .i64 r.wide) ∧ w'.cell? ⟨X, 1, none⟩ = some (.int .i64 r.tall) ∧ w'.cell? ⟨X, 2, none⟩ = some (.slice (some ⟨b, off, none⟩) r.cells.length cap))
                    (first | with_reducible exact C5.out | with_reducible exact C4.out | with_reducible exact C3.out | (go_keep; done) | assumption)
                    ((first
                      | (go_at_call 114; refine (IHm.out _ _ V4.out J4.out).mono ?_; rintro e w5 ⟨rfl, hj5, hk5⟩; (have B5 := Lib.hid (B4.out.trans hk5)); (have C5 := Lib.hid (R2.out.kl B5.out (HB0.out _ _ hj5)).c3); (have J5 := Lib.hid hj5); clear hj5 hk5)
                      | (go_at_call 77; refine (lay_own _ _ r L _ _ _ (R3.out).v U3.out.il HK.out HFR.out).mono ?_; rintro e w4 ⟨v4, rfl, hv4, hb4⟩; (have V4 := Lib.hid (hv4.mono (Nat.zero_le _))); (have B4 := Lib.hid (B3.out.trans (kl_below hb4))); (have J4 := Lib.hid (HJ.out _ _ _ J3.out hb4)); (have C4 := Lib.hid (R3.out.on hb4).c3); clear hb4 hv4)
                      | (go_at_call 75; refine (free_is _ _ r L _ _ _ (R2.out.on (Below.refl _ _).drew).v (U2.out.below (Below.refl _ _).drew).il (laidOk_iff.1 HK.out).1 HN.out true HFR.out).mono ?_; rintro e w3 ⟨rfl, hb3⟩; (have B3 := Lib.hid ((kl_below (Below.refl _ _).drew).trans (kl_below hb3))); (have J3 := Lib.hid (HJ.out _ _ _ (HJ.out _ _ _ HJ2.out (Below.refl _ _).drew) hb3)); (have R3 := Lib.hid ((R2.out.on (Below.refl _ _).drew).on hb3)); (have U3 := Lib.hid ((U2.out.below (Below.refl _ _).drew).below hb3)); (have C3 := Lib.hid R3.out.c3); clear hb3)))
                  clear x0 x1 x2 hcm hAr sX
                  have hg := HG.out
                  cases ql
                  · obtain ⟨y, hy⟩ := part_pre (n := n) (m := m + 1) (by omega) HFN.out
                    have HY := Lib.hid (show vis β (tils (n + 1) r L) = vis β (partT n r L k m) ++ vis β (tils n r (layL r L k ((m : Int) + 1))) ∧ goes β (tils (n + 1) r L) = false by
                      rw [hy, HP.out, List.append_assoc]
                      have h1 := vis_app (y := tils n r (layL r L k ((m : Int) + 1)) ++ y) hg
                      have h2 := vis_stop (y := y) HQ.out
                      rw [h1.1, h1.2, h2.1, h2.2]; exact ⟨rfl, rfl⟩)
                    clear hy hg
                    go_wp2
                    go_ret
                    exact eached_is HY.out.2 (by rw [HY.out.1, List.append_assoc]) J5.out (K2.out.trans B5.out)
                  · have HV := Lib.hid (vis_app (y := tils n r (layL r L k ((m : Int) + 1))) hg)
                    clear hg
                    go_wp2
                    go_roundw
                    case rel => exact ⟨m + 1, by omega, by go_num, by rw [HP.out, HV.out.2]; exact HQ.out, by rw [HP.out, HV.out.1, ← List.append_assoc]; exact J5.out, HKB.out.trans B5.out⟩
                    case measure => simp [intOf]; omega
              · have e : m = 2 := by omega
                subst e
                have HPT := Lib.hid (partT_two (n := n) HFN.out)
                go_wp2
                go_ret
                exact eached_is (by rw [HPT.out]; exact HG.out) (by rw [HPT.out]) HJ2.out K2.out
      · have e : k = L.length := by omega
        subst e
        have HFN := Lib.hid (firstN_none HD.out)
        clear HD
        have HT := Lib.hid (tils_done (n := n) HFN.out)
        go_wp2_with (fail)
        refine (HF.out xs _ L _ (by have := HNN.out; rw [HT.out] at this; simp at this; omega) HJ0.out U0.out (by
          have := (mem_tils r (n + 1) L L HK.out HO.out).1 (by rw [HT.out]; simp)
          exact this.1)).mono ?_
        rintro e w2 ⟨rfl, hj2, hk2⟩
        have J2 := Lib.hid hj2
        have K2 := Lib.hid (K0.out.trans hk2)
        clear hj2 hk2
        go_wp2
        go_ret
        rw [HT.out]
        exact eached_is (vis_one β L).2 (by rw [(vis_one β L).1]) J2.out K2.out
end Go.Proofs.Ytbjenmfoblniaaa
