/- The law FnSignMatrix: its walk. -/
import Derived.Test.YtklifibiadiinaaZe
import Derived.Test.YtklifibiadiinaaVDrawE
import Derived.Test.YtklifibiadiinaaVWbef
import Derived.Test.YtklifibiadiinaaVWmv
import Derived.Test.YtklifibiadiinaaVWsgnS
import Derived.Test.YtklifibiadiinaaVWbord
set_option linter.unusedVariables false
namespace Go.Proofs.Ytklifibiadiinaa
open Go.RowKit Domi

theorem SignMatrix_l8 (v : Value) (r : Reg) (w : World) (h : RegV w v r) (M : List (List Int)) (hM : signM r = M) : Calls Try.prog 13 #[v] w fun e w' => ∃ a c, e = .returned (.slice a M.length c) ∧ Ll w' (.slice a M.length c) M ∧ Below w.heap.size w w' :=
  (SignMatrix_mx v r w h).mono fun _ _ ⟨u, vs, he, hm⟩ => by
    rw [hM] at hm
    obtain ⟨a, c, rfl, _⟩ := hm.ll.opened
    exact ⟨a, c, he, hm.ll, hm.bel⟩
theorem sSignMatrix_l8 (v : Value) (r : Reg) (w : World) (h : RegV w v r) (M : List (List Int)) (hM : signM r = M) : Calls Try.prog 11 #[v] w fun e w' => ∃ a c, e = .returned (.slice a M.length c) ∧ Ll w' (.slice a M.length c) M ∧ Below w.heap.size w w' :=
  (sSignMatrix_mx v r w h).mono fun _ _ ⟨u, vs, he, hm⟩ => by
    rw [hM] at hm
    obtain ⟨a, c, rfl, _⟩ := hm.ll.opened
    exact ⟨a, c, he, hm.ll, hm.bel⟩
theorem MatrixValid8_is (v : Value) (M : List (List Int)) (w : World) (h : Ll w v M) (x : Bool) (hx : matB M = x) : Calls Try.prog 23 #[v] w (Ret (.bool x) w) :=
  (MatrixValid_any v M w h x hx).mono fun _ _ ⟨he, hw⟩ => ⟨he, hw ▸ Below.refl _ _⟩
theorem Cells8_is (v : Value) (r : Reg) (w : World) (h : RegV w v r) (c : Int) (hc : r.many = c) : Calls Try.prog 24 #[v] w (Ret (.int .i64 c) w) := by rw [← hc]; exact CellsMany_any v r w h
theorem Border8_is (v : Value) (r : Reg) (w : World) (h : RegV w v r) (hv : r.valid = true) (c : Int) (hc : bordTo r r.cells.length = c) : Calls Try.prog 25 #[v] w (Ret (.int .i64 c) w) := by rw [← hc]; exact Border_yes v r w h hv
theorem ll_got8 {w : World} {a : Option Addr} {n c : Nat} {T : List (List Int)} (h : Ll w (.slice a n c) T) {k : Nat} (hk : k < T.length) :
    ∃ b o u, a = some ⟨b, o, none⟩ ∧ b < w.heap.size ∧ w.cell? ⟨b, o + k, none⟩ = some u ∧ Il w u (T.getD k []) := by
  obtain ⟨_, _, e, _, _, h3⟩ := h.opened
  simp only [Value.slice.injEq] at e
  obtain ⟨rfl, _, rfl⟩ := e
  rcases h3 with e | ⟨b, o, rfl, hb, hc⟩
  · rw [e] at hk; simp at hk
  · obtain ⟨v, h1, h2⟩ := hc k hk
    exact ⟨b, o, v, rfl, hb, h1, h2⟩
theorem il_get8 {w : World} {a : Option Addr} {n c : Nat} {L : List Int} (h : Il w (.slice a n c) L) {j : Nat} (hj : j < L.length) : ∃ b o, a = some ⟨b, o, none⟩ ∧ b < w.heap.size ∧ w.cell? ⟨b, o + j, none⟩ = some (.int .i64 (L.getD j 0)) := by
  obtain ⟨_, _, e, _, _, h3⟩ := h.opened
  simp only [Value.slice.injEq] at e
  obtain ⟨rfl, _, rfl⟩ := e
  rcases h3 with e | ⟨b, o, rfl, hb, hc⟩
  · rw [e] at hj; simp at hj
  · exact ⟨b, o, rfl, hb, hc j hj⟩
theorem nzS_take (M : List (List Int)) {k : Nat} (hk : k < M.length) : nzS (M.take (k + 1)) = nzS (M.take k) + (nzN (M.getD k []) : Int) := by rw [take_snoc M [] k hk, nzS_snoc]
theorem nzN_take (l : List Int) {j : Nat} (hj : j < l.length) : nzN (l.take (j + 1)) = nzN (l.take j) + if l.getD j 0 = 0 then 0 else 1 := by rw [take_snoc l 0 j hj, nzN_snoc]
theorem nzS_bd (M : List (List Int)) (c : Nat) (h : ∀ row ∈ M, nzN row ≤ c) : 0 ≤ nzS M ∧ nzS M ≤ (c : Int) * M.length := by
  induction M with
  | nil => simp [nzS]
  | cons a M ih =>
    have h1 := ih fun row hr => h row (by simp [hr])
    have h2 := h a (by simp)
    rw [nzS, List.length_cons]
    push_cast
    rw [Int.mul_add]
    omega
set_option maxRecDepth 100000 in
set_option maxHeartbeats 4000000 in
theorem FnSignMatrix_walk (v : Value) (ys : List Int) (w : World) (h : Yl w v ys) (hr : ∀ i, i < ys.length → 0 ≤ ys.getD i 0 ∧ ys.getD i 0 ≤ 255) :
    Calls Try.prog 4 #[v] w (Ret (.bool true) w) := by
  have H := Lib.hid h
  have Hr := Lib.hid hr
  obtain ⟨a0, cap0, rfl, hlc0, hcm0, _⟩ := h.opened
  clear h hr
  by_cases hlen : (1048576 : Int) < (ys.length : Int)
  · go_enter Try.func4, Try.ntmps4
    go_wp2
    go_ret
    exact ⟨rfl, Below.refl _ _⟩
  go_enter Try.func4, Try.ntmps4
  go_wp2_with (fail)
  refine (DrawSignMatrix_any _ ys w H.out Hr.out).mono ?_
  rintro e w1 ⟨v1, r, rfl, hv1, hsm, hb1⟩
  obtain ⟨a1, cap1, rfl, hs1, _, _⟩ := hv1.opened
  have R := RB.new hs1
  obtain ⟨W, hW⟩ : ∃ W, W = w1.alloc (.cells #[.int .i64 r.wide, .int .i64 r.tall, .slice a1 r.cells.length cap1] 28) := ⟨_, rfl⟩
  rw [← hW] at R
  have R := Lib.hid R
  have BW := Lib.hid (show Below w.heap.size w W by rw [hW]; exact hb1.alloc hb1.size _)
  have hX : w1.heap.size < W.heap.size := by rw [hW]; simp
  clear hs1 hb1 hv1
  go_wp2_with (fail)
  rw [← hW]
  clear hW
  generalize w1.heap.size = X at *
  clear hX
  obtain ⟨M, hM⟩ : ∃ M, signM r = M := ⟨_, rfl⟩
  have HM := Lib.hid hM
  clear hM
  obtain ⟨x0, x1, x2⟩ := R.out.c3
  go_wp2_with (fail)
  refine (SignMatrix_l8 _ r _ R.out.v M HM.out).mono ?_
  rintro e w2 ⟨ma, mc, rfl, hl, hb⟩
  have BW := Lib.hid (BW.out.trans (hb.mono BW.out.size))
  have R := Lib.hid (R.out.on hb)
  have LM := Lib.hid hl
  clear hb hl x0 x1 x2
  obtain ⟨x0, x1, x2⟩ := R.out.c3
  go_wp2_with (fail)
  refine (sSignMatrix_l8 _ r _ R.out.v M HM.out).mono ?_
  rintro e w3 ⟨na, nc, rfl, hl, hb⟩
  have BW := Lib.hid (BW.out.trans (hb.mono BW.out.size))
  have R := Lib.hid (R.out.on hb)
  have LM := Lib.hid (LM.out.below hb)
  have LN := Lib.hid hl
  clear hb hl x0 x1 x2
  go_wp2_with (fail)
  refine (sameLists_same _ _ M _ LM.out LN.out).mono ?_
  rintro e w4 ⟨rfl, hb⟩
  have BW := Lib.hid (BW.out.trans (hb.mono BW.out.size))
  have R := Lib.hid (R.out.on hb)
  have LM := Lib.hid (LM.out.below hb)
  clear hb LN
  obtain ⟨x0, x1, x2⟩ := R.out.c3
  go_wp2_with (fail)
  cases hb0 : r.bal
  · refine (sBalanced_is _ r _ R.out.v false hb0).mono ?_
    rintro e w5 ⟨rfl, hb⟩
    have BW := Lib.hid (BW.out.trans (hb.mono BW.out.size))
    have hl0 : M.length = 0 := by rw [← HM.out, signM_no hb0]; rfl
    clear hb hb0 x0 x1 x2 LM
    generalize M.length = n at *
    obtain rfl := hl0
    go_wp2_with (fail)
    refine (alive_any _).mono ?_
    rintro e w6 ⟨rfl, hb⟩
    have BW := Lib.hid (BW.out.trans (hb.mono BW.out.size))
    clear hb
    go_wp2
    go_ret
    exact ⟨rfl, BW.out⟩
  · refine (sBalanced_is _ r _ R.out.v true hb0).mono ?_
    rintro e w5 ⟨rfl, hb⟩
    have BW := Lib.hid (BW.out.trans (hb.mono BW.out.size))
    have R := Lib.hid (R.out.on hb)
    have LM := Lib.hid (LM.out.below hb)
    have HL := sign_law hb0
    have HMB := signR_mat hb0
    have hl12 := (lens_bal hb0).2.2
    rw [← signR_length] at hl12
    have hMe : signR r = M := by rw [← HM.out, signM_yes hb0]
    rw [hMe] at HL HMB hl12
    have hv := (bal_iff.1 hb0).1
    have HCM : Hid (r.many = cnt r.cells) := Lib.hid (Reg.many_yes hv)
    have HV := Lib.hid hv
    have HMB := Lib.hid HMB
    have HN4 := Lib.hid HL.2.2
    have h1 := HL.1
    have h2 := HL.2.1
    obtain ⟨cm, hcm⟩ : ∃ cm, cnt r.cells = cm := ⟨_, rfl⟩
    obtain ⟨bd, hbd⟩ : ∃ bd, bordTo r r.cells.length = bd := ⟨_, rfl⟩
    rw [hcm] at HCM h1 h2
    rw [hbd] at h2
    have HBD := Lib.hid hbd
    have H1 := Lib.hid h1
    have H2 := Lib.hid h2
    have HRL : Hid (∀ i, i < M.length → (M.getD i []).length ≤ 12) := Lib.hid (fun i hi => by rw [(matB_sq HMB.out).1.2 i hi]; exact hl12)
    obtain ⟨n, hn⟩ : ∃ n, M.length = n := ⟨_, rfl⟩
    have HN := Lib.hid hn
    rw [hn] at LM hl12 HRL ⊢
    clear hb hb0 x0 x1 x2 HL hMe hv hcm hbd h1 h2 hn
    go_wp2_with (fail)
    go_loopw [5, 6] (fun s i wr => ∃ k : Nat, k ≤ n ∧ i = .int .i64 k ∧ s = .int .i64 (nzS (M.take k)) ∧ Below w5.heap.size w5 wr) (fun _ i _ => n - (intOf i).toNat)
    case atStart => exact ⟨0, Nat.zero_le _, rfl, rfl, Below.refl _ _⟩
    case round =>
      obtain ⟨k, hk, rfl, rfl, hbw⟩ := hrel
      have HBW := Lib.hid hbw
      clear hbw
      have hSb : 0 ≤ nzS (M.take k) ∧ nzS (M.take k) ≤ 144 := by
        have := nzS_bd (M.take k) 12 (fun row hr => by
          obtain ⟨i, hi, rfl⟩ := List.mem_iff_getElem.1 (List.mem_of_mem_take hr)
          rw [Domi.get_at _ [] _ hi]
          exact Nat.le_trans (nzN_le _) (HRL.out i (by rw [← HN.out]; exact hi)))
        have h3 : (M.take k).length ≤ 12 := by rw [List.length_take]; omega
        omega
      obtain ⟨S, hS⟩ : ∃ S, nzS (M.take k) = S := ⟨_, rfl⟩
      rw [hS] at hSb ⊢
      have HS := Lib.hid hS
      clear hS
      by_cases hlt : k < n
      · have hlt' : (k : Int) < (n : Int) := by omega
        obtain ⟨b, o, u, rfl, hb, hcell, hil⟩ := ll_got8 (LM.out.below HBW.out) (k := k) (by rw [HN.out]; exact hlt)
        obtain ⟨ua, uc, rfl, hu1, hu2, _⟩ := hil.opened
        obtain ⟨q, hq⟩ : ∃ q, (M.getD k []).length = q := ⟨_, rfl⟩
        have HQ := Lib.hid hq
        have hq12 : q ≤ 12 := by rw [← hq]; exact HRL.out k hlt
        rw [hq] at hcell hil hu1
        have HIL := Lib.hid hil
        clear hil hq
        go_wp2_with (fail)
        go_loop [7, 8] (fun m j => ∃ t : Nat, t ≤ q ∧ j = .int .i64 t ∧ m = .int .i64 ((nzN ((M.getD k []).take t) : Nat) : Int)) (fun _ j => q - (intOf j).toNat)
        case atStart => exact ⟨0, Nat.zero_le _, rfl, rfl⟩
        case round =>
          obtain ⟨t, ht, rfl, rfl⟩ := hrel
          have htb : nzN ((M.getD k []).take t) ≤ t := Nat.le_trans (nzN_le _) (by rw [List.length_take]; omega)
          by_cases htq : t < q
          · have htq' : (t : Int) < (q : Int) := by omega
            obtain ⟨b2, o2, rfl, hb2, hc2⟩ := il_get8 HIL.out (j := t) (by rw [HQ.out]; exact htq)
            have HT := Lib.hid (nzN_take (M.getD k []) (j := t) (by rw [HQ.out]; exact htq))
            obtain ⟨y, hy⟩ : ∃ y, (M.getD k []).getD t 0 = y := ⟨_, rfl⟩
            rw [hy] at hc2 HT
            clear hy
            generalize nzN ((M.getD k []).take t) = c0 at *
            by_cases hy0 : y = 0
            · subst hy0
              go_wp2_with (fail)
              go_round
              case rel => exact ⟨t + 1, by omega, by go_num, by rw [HT.out]; simp⟩
              case measure => simp [intOf]; omega
            · have hy1 : (y != 0) = true := by simpa using hy0
              go_wp2_with (fail)
              go_round
              case rel => exact ⟨t + 1, by omega, by go_num, by rw [HT.out, if_neg hy0]; go_num⟩
              case measure => simp [intOf]; omega
          · have e : q = t := by omega
            subst e
            have HNS : Hid (nzS (M.take (k + 1)) = S + (nzN ((M.getD k []).take q) : Int)) := Lib.hid (by
              rw [nzS_take M (by rw [HN.out]; exact hlt), HS.out]
              congr 2
              rw [← HQ.out, List.take_length])
            have h4 : nzN ((M.getD k []).take q) ≤ 4 := by
              have := HN4.out k (by rw [HN.out]; exact hlt)
              rwa [← HQ.out, List.take_length]
            generalize nzN ((M.getD k []).take q) = c0 at *
            have h4' : ¬ (4 : Int) < (c0 : Int) := by omega
            go_wp2_with (fail)
            go_roundw
            case rel => exact ⟨k + 1, by omega, by go_num, by rw [HNS.out], HBW.out⟩
            case measure => simp [intOf]; omega
      · have e : n = k := by omega
        subst e
        have HSS : Hid (2 * S = 4 * cm - bd) := Lib.hid (by rw [← HS.out, ← HN.out, List.take_length]; exact H2.out)
        have hs2 := HSS.out
        have hn2 := H1.out
        rw [HN.out] at hn2
        have hq1 : ((2 * (n : Int)) == cm) = true := by simpa using hn2
        have hq2 : ((2 * S) == (4 * cm - bd)) = true := by simpa using hs2
        have hcmb : 0 ≤ cm ∧ cm ≤ 24 := by omega
        have hbdb : -1000 ≤ bd ∧ bd ≤ 1000 := by omega
        have R2 := Lib.hid (R.out.on HBW.out)
        have LM2 := Lib.hid (LM.out.below HBW.out)
        have BW2 := Lib.hid (BW.out.trans (HBW.out.mono BW.out.size))
        obtain ⟨x0, x1, x2⟩ := R2.out.c3
        have sX := R2.out.lt
        have hLc : ∀ (K : Later wr) (b o : Nat), b < wr.heap.size → K.x.cell? ⟨b, o, none⟩ = wr.cell? ⟨b, o, none⟩ := Later.cell
        clear hn2 hs2 hk hlt
        go_wp2_with (fail)
        refine wp_region_later_all (by kernel_rfl) (by kernel_rfl) ?_
        repeat (go_big_quiet_step (fail))
        go_big_quiet_step (with_reducible exact calls_later _ (MatrixValid8_is _ M _ (LM2.out.below (Later.h _)) true HMB.out))
        repeat (first | (go_big_quiet_step (fail)) | rw [hq1])
        go_big_quiet_step (with_reducible exact calls_later _ (Cells8_is _ r _ (R2.out.on (Later.h _)).v cm HCM.out))
        repeat (first | (go_big_quiet_step (fail)) | rw [hq1])
        go_big_quiet_step (with_reducible exact calls_later _ (Cells8_is _ r _ (R2.out.on (Later.h _)).v cm HCM.out))
        repeat (first | (go_big_quiet_step (fail)) | rw [hq2])
        go_big_quiet_step (with_reducible exact calls_later _ (Border8_is _ r _ (R2.out.on (Later.h _)).v HV.out bd HBD.out))
        repeat (first | (go_big_quiet_step (fail)) | rw [hq2])
        refine wpQuiet_nil ?_
        intro K
        have BE := Lib.hid (BW2.out.trans (K.h.mono BW2.out.size))
        clear hLc x0 x1 x2 sX
        go_wp2
        go_ret
        exact ⟨rfl, BE.out⟩
end Go.Proofs.Ytklifibiadiinaa
