/- Walks: the reference's SignMatrix. -/
import Derived.Test.YtklifibiadiinaaVWsgn
import Derived.Test.YtklifibiadiinaaVWlaid
import Derived.Test.YtklifibiadiinaaZd
set_option linter.unusedVariables false
namespace Go.Proofs.Ytklifibiadiinaa
open Go.RowKit Domi

theorem dark_ab {r : Reg} {w k : Nat} (hw : r.wide = w) : darkB r.wide (k : Int) = decide (((k % w : Nat) + (k / w : Nat) : Int) % 2 = 0) := by
  unfold darkB
  rw [hw, ← Int.natCast_emod, ← Int.natCast_ediv, Bool.eq_iff_iff, beq_iff_eq, decide_eq_true_iff]
theorem own_snoc {w : World} {B g m c : Nat} {e : TypeId} {L : List Int} {x : Int} (h : Own w B e (.slice (some ⟨g, 0, none⟩) ((L.map (Value.int .i64)).length + 1) c) (L.map (Value.int .i64) ++ [.int .i64 x])) (hm : m = L.length) :
    Own w B e (.slice (some ⟨g, 0, none⟩) (m + 1) c) ((L ++ [x]).map (Value.int .i64)) := by
  rw [List.length_map, ← hm] at h
  rw [List.map_append]; exact h
theorem app_bel {wA wr w5 : World} {SZ g c : Nat} {e : TypeId} {v x : Value} {xs : List Value} {o : Obj} (h : Below SZ wA wr) (hB : SZ ≤ wr.heap.size) (A : App (wr.alloc o) SZ e v xs x g c w5) (ho : Own (wr.alloc o) SZ e v xs) : Below SZ wA w5 :=
  (h.trans ((below_alloc wr o).mono hB)).trans (A.below ho (by simp; omega))
set_option maxRecDepth 100000 in
set_option maxHeartbeats 4000000 in
theorem sSignMatrix_mx (v : Value) (r : Reg) (w : World) (h : RegV w v r) :
    Calls Try.prog 11 #[v] w fun e w' => ∃ u vs, e = .returned u ∧ Mx w w' 39 3 u vs (signM r) := by
  obtain ⟨ra, rc, rfl, hs, hlc, hcm⟩ := h.opened
  have HS := Lib.hid hs
  have R := RB.new hs
  have B0 := below_alloc w (.cells #[.int .i64 r.wide, .int .i64 r.tall, .slice ra r.cells.length rc] 28)
  obtain ⟨W, hW⟩ : ∃ W, W = w.alloc (.cells #[.int .i64 r.wide, .int .i64 r.tall, .slice ra r.cells.length rc] 28) := ⟨_, rfl⟩
  clear h hs
  go_enter Try.func11, Try.ntmps11
  go_wp2_with (fail)
  rw [← hW] at R B0 ⊢
  have hsz : W.heap.size = w.heap.size + 1 := by rw [hW]; simp
  rw [← hsz]
  clear hW
  have GW := Lib.hid (grown_below B0 none)
  clear B0
  generalize w.heap.size = X at *
  have R := Lib.hid R
  have M0 := Lib.hid (show Mx W (W.alloc (.cells #[] 39)) 39 3 (.slice (some ⟨W.heap.size, 0, none⟩) 0 0) [] [] from Mx.start (n := 0) (Lib.hid rfl) (by omega))
  generalize W.alloc (.cells #[] 39) = W1 at *
  clear hsz
  generalize W.heap.size = g0 at *
  cases hb0 : r.bal
  · refine (sBalanced_is _ r _ (R.out.on M0.out.bel).v false hb0).mono ?_
    rintro e w1 ⟨rfl, hb⟩
    have M := Lib.hid (show Mx w w1 39 3 (.slice (some ⟨g0, 0, none⟩) 0 0) [] (signM r) by rw [signM_no hb0]; exact (M0.out.below hb).base GW.out)
    clear hb
    go_wp2
    go_ret
    exact ⟨_, _, rfl, M.out⟩
  refine (sBalanced_is _ r _ (R.out.on M0.out.bel).v true hb0).mono ?_
  rintro e w1 ⟨rfl, hb⟩
  have M1 := Lib.hid (M0.out.below hb)
  have hv : r.valid = true := by cases hv : r.valid; rw [bal_no hv] at hb0; cases hb0; rfl
  have HV := Lib.hid hv
  have HE := Lib.hid (signM_yes hb0)
  have F := fld_of hv
  obtain ⟨w0, hw0⟩ : ∃ x, r.wide.toNat = x := ⟨_, rfl⟩
  obtain ⟨t, ht⟩ : ∃ x, r.tall.toNat = x := ⟨_, rfl⟩
  rw [hw0, ht] at F
  have HF := Lib.hid F
  have hw6 := F.w6
  have ht6 := F.t6
  have hw00 := F.w0
  have hl36 : r.cells.length ≤ 36 := by rw [F.len]; exact Nat.mul_le_mul hw6 ht6
  have HFw := Lib.hid F.hw
  clear hb hb0 F hw0 ht hv M0
  obtain ⟨x0, x1, x2⟩ := (R.out.on M1.out.bel).c3
  go_wp2_with (fail)
  clear x0 x1 x2
  go_loopw [3, 4] (fun o i wr => ∃ (k n c g : Nat) (vs : List Value), k ≤ r.cells.length ∧ i = .int .i64 k ∧ o = .slice (some ⟨g, 0, none⟩) n c ∧ Hid (n = vs.length) ∧ Mx W wr 39 3 (.slice (some ⟨g, 0, none⟩) n c) vs (signS r k)) (fun _ i _ => r.cells.length - (intOf i).toNat)
  case atStart => exact ⟨0, 0, 0, g0, [], Nat.zero_le _, rfl, rfl, Lib.hid rfl, M1.out⟩
  case round =>
    clear M1
    obtain ⟨k, n, c, g, vs, hk, rfl, rfl, HN, hmx⟩ := hrel
    have MX := Lib.hid hmx
    have RX := Lib.hid (R.out.on hmx.bel)
    have hn36 : n ≤ 36 := by
      have h1 := HN.out
      have h2 := hmx.len
      have h3 := signS_len r k
      omega
    clear hmx
    obtain ⟨x0, x1, x2⟩ := RX.out.c3
    by_cases hlt : k < r.cells.length
    · have hlt' : (k : Int) < (r.cells.length : Int) := by omega
      obtain ⟨_, _, _, rb, ro, e, hrb, hbc⟩ := bl_cell RX.out.bl hlt
      subst e
      obtain ⟨has, hhas⟩ : ∃ b, r.cells.getD k false = b := ⟨_, rfl⟩
      rw [hhas] at hbc
      have HFk : Hid (r.f k = has) := Lib.hid hhas
      have sX := RX.out.lt
      have hLc : ∀ (K : Later wr) (b o : Nat), b < wr.heap.size → K.x.cell? ⟨b, o, none⟩ = wr.cell? ⟨b, o, none⟩ := Later.cell
      obtain ⟨a, ha⟩ : ∃ a, k % w0 = a := ⟨_, rfl⟩
      obtain ⟨b, hb⟩ : ∃ b, k / w0 = b := ⟨_, rfl⟩
      have e1 : (k : Int) % (w0 : Int) = (a : Int) := by rw [← ha, Int.natCast_emod]
      have e2 : (k : Int) / (w0 : Int) = (b : Int) := by rw [← hb, Int.natCast_ediv]
      have hw0' : (w0 : Int) ≠ 0 := by omega
      have haw : a < w0 := by rw [← ha]; exact Nat.mod_lt _ hw00
      have hbt : b ≤ 36 := by rw [← hb]; exact Nat.le_trans (Nat.div_le_self _ _) (by omega)
      have HDK : Hid (darkB r.wide (k : Int) = decide (((a : Int) + (b : Int)) % 2 = 0)) := Lib.hid (by rw [dark_ab HFw.out, ha, hb])
      rw [HFw.out] at x0
      clear hhas ha hb
      cases has
      · go_wp2_with (fail)
        refine wp_region_later_all (by kernel_rfl) (by kernel_rfl) ?_
        repeat (go_big_quiet_step (fail))
        refine wpQuiet_nil ?_
        intro K
        have NX : Hid (Mx W K.x 39 3 (.slice (some ⟨g, 0, none⟩) n c) vs (signS r (k + 1))) := Lib.hid (by rw [signS_no (.inl HFk.out)]; exact MX.out.below K.h)
        clear hLc x0 x1 x2 sX hbc e1 e2
        go_wp2_with (fail)
        go_roundw
        case rel => exact ⟨k + 1, n, c, g, vs, by omega, by go_num, rfl, HN, NX.out⟩
        case measure => simp [intOf]; omega
      · by_cases hpar : ((a : Int) + (b : Int)) % 2 = 1
        · go_wp2_with (fail)
          refine wp_region_later_all (by kernel_rfl) (by kernel_rfl) ?_
          repeat (go_big_quiet_step (fail))
          refine wpQuiet_nil ?_
          intro K
          have NX : Hid (Mx W K.x 39 3 (.slice (some ⟨g, 0, none⟩) n c) vs (signS r (k + 1))) := Lib.hid (by
            rw [signS_no (.inr (by rw [HDK.out]; exact decide_eq_false (by omega)))]; exact MX.out.below K.h)
          clear hLc x0 x1 x2 sX hbc e1 e2
          go_wp2_with (fail)
          go_roundw
          case rel => exact ⟨k + 1, n, c, g, vs, by omega, by go_num, rfl, HN, NX.out⟩
          case measure => simp [intOf]; omega
        · have hpar0 : ((a : Int) + (b : Int)) % 2 = 0 := by omega
          have HD : Hid (darkB r.wide (k : Int) = true) := Lib.hid (by rw [HDK.out]; exact decide_eq_true hpar0)
          have HA : Hid ((k : Int) % r.wide = (a : Int)) := Lib.hid (by rw [HFw.out]; exact e1)
          clear hpar
          go_wp2_with (fail)
          refine wp_region_later_all (by kernel_rfl) (by kernel_rfl) ?_
          repeat (go_big_quiet_step (fail))
          refine wpQuiet_nil ?_
          intro K
          have MA := Lib.hid (MX.out.below K.h)
          have RA := Lib.hid (RX.out.on K.h)
          clear hLc x0 x1 x2 sX hbc e1 e2 hrb hpar0
          obtain ⟨wA, hwA⟩ : ∃ wA, wA = K.x := ⟨_, rfl⟩
          rw [← hwA] at MA RA ⊢
          clear hwA MX RX
          go_wp2_with (fail)
          have OA := Lib.hid (show Own (wA.alloc (.cells #[] 3)) wA.heap.size 3 (.slice (some ⟨wA.heap.size, 0, none⟩) 0 0) (([] : List Int).map (Value.int .i64)) from Own.made (n := 0) (z := .int .i64 0) (Lib.hid rfl) (Nat.le_refl _) (by omega))
          have BA := Lib.hid (show Below wA.heap.size wA (wA.alloc (.cells #[] 3)) from below_alloc wA _)
          obtain ⟨SZ, hSZ⟩ : ∃ SZ, wA.heap.size = SZ := ⟨_, rfl⟩
          have HSZ := Lib.hid hSZ
          rw [hSZ] at OA BA ⊢
          clear hSZ
          go_loopw [5, 6] (fun o i wr => ∃ (j m q rg : Nat) (L : List Int), j ≤ r.cells.length ∧ i = .int .i64 j ∧ o = .slice (some ⟨rg, 0, none⟩) m q ∧ Hid (L = rowS r k j) ∧ Hid (m = L.length) ∧ Own wr SZ 3 (.slice (some ⟨rg, 0, none⟩) m q) (L.map (Value.int .i64)) ∧ Below SZ wA wr) (fun _ i _ => r.cells.length - (intOf i).toNat)
          case atStart => exact ⟨0, 0, 0, SZ, [], Nat.zero_le _, rfl, rfl, Lib.hid rfl, Lib.hid rfl, OA.out, BA.out⟩
          case round =>
            clear OA BA
            obtain ⟨j, m, q, rg, L, hj, rfl, rfl, HL, HM, hown, hbel⟩ := hrel
            have OW := Lib.hid hown
            have BW := Lib.hid (show Below wA.heap.size wA wr by rw [HSZ.out]; exact hbel)
            have hm36 : m ≤ 36 := by
              have h1 := HM.out
              have h2 := HL.out
              have h3 := rowS_len r k j
              rw [h1, h2]; omega
            clear hown hbel
            have RX := Lib.hid (RA.out.on BW.out)
            obtain ⟨x0, x1, x2⟩ := RX.out.c3
            by_cases hjl : j < r.cells.length
            · have hjl' : (j : Int) < (r.cells.length : Int) := by omega
              obtain ⟨_, _, _, rb2, ro2, e, hrb, hbc⟩ := bl_cell RX.out.bl hjl
              simp only [Option.some.injEq, Addr.mk.injEq, and_true] at e
              obtain ⟨rfl, rfl⟩ := e
              obtain ⟨has, hhas⟩ : ∃ b, r.cells.getD j false = b := ⟨_, rfl⟩
              rw [hhas] at hbc
              have HFj : Hid (r.f j = has) := Lib.hid hhas
              have sX := RX.out.lt
              have hLc : ∀ (K : Later wr) (b o : Nat), b < wr.heap.size → K.x.cell? ⟨b, o, none⟩ = wr.cell? ⟨b, o, none⟩ := Later.cell
              obtain ⟨a2, ha⟩ : ∃ a, j % w0 = a := ⟨_, rfl⟩
              obtain ⟨b2, hb⟩ : ∃ b, j / w0 = b := ⟨_, rfl⟩
              have e1 : (j : Int) % (w0 : Int) = (a2 : Int) := by rw [← ha, Int.natCast_emod]
              have e2 : (j : Int) / (w0 : Int) = (b2 : Int) := by rw [← hb, Int.natCast_ediv]
              have haw2 : a2 < w0 := by rw [← ha]; exact Nat.mod_lt _ hw00
              have hbt2 : b2 ≤ 36 := by rw [← hb]; exact Nat.le_trans (Nat.div_le_self _ _) (by omega)
              have HDJ : Hid (darkB r.wide (j : Int) = decide (((a2 : Int) + (b2 : Int)) % 2 = 0)) := Lib.hid (by rw [dark_ab HFw.out, ha, hb])
              rw [HFw.out] at x0
              clear hhas ha hb
              cases has
              · go_wp2_with (fail)
                refine wp_region_later_all (by kernel_rfl) (by kernel_rfl) ?_
                repeat (go_big_quiet_step (fail))
                refine wpQuiet_nil ?_
                intro K
                have NL : Hid (L = rowS r k (j + 1)) := Lib.hid (by rw [rowS_no (.inl HFj.out)]; exact HL.out)
                have NO := Lib.hid (OW.out.below K.h)
                have NB : Hid (Below SZ wA K.x) := Lib.hid (by rw [← HSZ.out]; exact BW.out.trans (K.h.mono BW.out.size))
                clear hLc x0 x1 x2 sX hbc e1 e2
                go_wp2_with (fail)
                go_roundw
                case rel => exact ⟨j + 1, m, q, rg, L, by omega, by go_num, rfl, NL, HM, NO.out, NB.out⟩
                case measure => simp [intOf]; omega
              · by_cases hpar : ((a2 : Int) + (b2 : Int)) % 2 = 0
                · go_wp2_with (fail)
                  refine wp_region_later_all (by kernel_rfl) (by kernel_rfl) ?_
                  repeat (go_big_quiet_step (fail))
                  refine wpQuiet_nil ?_
                  intro K
                  have NL : Hid (L = rowS r k (j + 1)) := Lib.hid (by rw [rowS_no (.inr (by rw [HDJ.out]; exact decide_eq_true hpar))]; exact HL.out)
                  have NO := Lib.hid (OW.out.below K.h)
                  have NB : Hid (Below SZ wA K.x) := Lib.hid (by rw [← HSZ.out]; exact BW.out.trans (K.h.mono BW.out.size))
                  clear hLc x0 x1 x2 sX hbc e1 e2
                  go_wp2_with (fail)
                  go_roundw
                  case rel => exact ⟨j + 1, m, q, rg, L, by omega, by go_num, rfl, NL, HM, NO.out, NB.out⟩
                  case measure => simp [intOf]; omega
                · have hpar1 : ((a2 : Int) + (b2 : Int)) % 2 = 1 := by omega
                  go_wp2_with (fail)
                  refine wp_region_later_all (by kernel_rfl) (by kernel_rfl) ?_
                  repeat (go_big_quiet_step (fail))
                  refine wpQuiet_nil ?_
                  intro K
                  have NL : Hid (L ++ [sgnTo r k j 4] = rowS r k (j + 1)) := Lib.hid (by rw [rowS_yes HFj.out (by rw [HDJ.out]; exact decide_eq_false hpar), HL.out])
                  have NO := Lib.hid (OW.out.below K.h)
                  have NB := Lib.hid (BW.out.trans (K.h.mono BW.out.size))
                  clear hLc x0 x1 x2 sX hbc e1 e2 hpar hpar1 hrb OW BW RX
                  obtain ⟨wC, hwC⟩ : ∃ wC, wC = K.x := ⟨_, rfl⟩
                  rw [← hwC] at NO NB ⊢
                  clear hwC
                  go_wp2_with (fail)
                  go_loopw [7, 8] (fun o i wr => ∃ (q : Nat) (wy : Int), Hid (wy = (q : Int) + 1) ∧ wy ≤ 5 ∧ i = .int .i64 wy ∧ o = .int .i64 (sgnTo r k j q) ∧ Below wC.heap.size wC wr) (fun _ i _ => (6 - intOf i).toNat)
                  case atStart => exact ⟨0, 1, Lib.hid rfl, by omega, rfl, rfl, Below.refl _ _⟩
                  case round =>
                    obtain ⟨q2, wy, HJ, hw5, rfl, rfl, hbs⟩ := hrel
                    have HBS := Lib.hid hbs
                    have NB2 := Lib.hid (NB.out.trans (hbs.mono NB.out.size))
                    have RX := Lib.hid (RA.out.on NB2.out)
                    clear hbs
                    have hj1 : 1 ≤ wy := by have := HJ.out; omega
                    by_cases hj4 : wy ≤ 4
                    · obtain ⟨s, hs⟩ : ∃ s, stepI r k wy = s := ⟨_, rfl⟩
                      have HSt := Lib.hid hs
                      have hkk : (k : Int) < r.wide * r.tall := by
                        obtain ⟨_, _, v3, _⟩ := Reg.valid_iff.1 HV.out
                        omega
                      have HKK := Lib.hid hkk
                      clear hs hkk
                      obtain ⟨x0, x1, x2⟩ := RX.out.c3
                      go_wp2_with (fail)
                      refine (l2Step_is _ r k wy s _ RX.out.v HV.out (by omega) HKK.out ⟨hj1, hj4⟩ HSt.out).mono ?_
                      rintro e w4 ⟨rfl, hb⟩
                      have RX := Lib.hid (RX.out.on hb)
                      have HBS := Lib.hid (HBS.out.trans (hb.mono HBS.out.size))
                      clear hb x0 x1 x2 NB2
                      by_cases hsj : s = (j : Int)
                      · have HIT : Hid (sgnTo r k j (q2 + 1) = sgnV r k (q2 + 1)) := Lib.hid (sgn_hit (by rw [← HJ.out, HSt.out, hsj]))
                        have HKA : Hid ((k : Int) % (w0 : Int) = (a : Int)) := Lib.hid (by rw [← HFw.out]; exact HA.out)
                        have hpar : (k : Int) % (w0 : Int) % 2 = 0 ∨ (k : Int) % (w0 : Int) % 2 = 1 := by rw [HKA.out]; omega
                        have htm : ((k : Int) % (w0 : Int)).tmod 2 = (k : Int) % (w0 : Int) % 2 := Int.tmod_eq_emod_of_nonneg (by rw [HKA.out]; omega)
                        have hwy : wy = 1 ∨ wy = 2 ∨ wy = 3 ∨ wy = 4 := by omega
                        obtain ⟨x0, x1, x2⟩ := RX.out.c3
                        rw [HFw.out] at x0
                        subst hsj
                        clear hw5 hj1 hj4
                        rcases hwy with rfl | rfl | rfl | rfl <;> rcases hpar with hpar | hpar <;> rw [hpar] at htm
                        · go_wp2_with (fail)
                          go_roundw
                          case rel => exact ⟨q2 + 1, 2, Lib.hid (by have := HJ.out; omega), by omega, by go_num, congrArg (Value.int .i64) (by rw [HIT.out]; unfold sgnV; rw [HFw.out]; have := HJ.out; rw [if_neg (by omega)]), HBS.out⟩
                          case measure => simp [intOf]; try omega
                        · go_wp2_with (fail)
                          go_roundw
                          case rel => exact ⟨q2 + 1, 2, Lib.hid (by have := HJ.out; omega), by omega, by go_num, congrArg (Value.int .i64) (by rw [HIT.out]; unfold sgnV; rw [HFw.out]; have := HJ.out; rw [if_neg (by omega)]), HBS.out⟩
                          case measure => simp [intOf]; try omega
                        · go_wp2_with (fail)
                          go_roundw
                          case rel => exact ⟨q2 + 1, 3, Lib.hid (by have := HJ.out; omega), by omega, by go_num, congrArg (Value.int .i64) (by rw [HIT.out]; unfold sgnV; rw [HFw.out]; have := HJ.out; rw [if_neg (by omega)]), HBS.out⟩
                          case measure => simp [intOf]; try omega
                        · go_wp2_with (fail)
                          go_roundw
                          case rel => exact ⟨q2 + 1, 3, Lib.hid (by have := HJ.out; omega), by omega, by go_num, congrArg (Value.int .i64) (by rw [HIT.out]; unfold sgnV; rw [HFw.out]; have := HJ.out; rw [if_pos (by omega)]), HBS.out⟩
                          case measure => simp [intOf]; try omega
                        · go_wp2_with (fail)
                          go_roundw
                          case rel => exact ⟨q2 + 1, 4, Lib.hid (by have := HJ.out; omega), by omega, by go_num, congrArg (Value.int .i64) (by rw [HIT.out]; unfold sgnV; rw [HFw.out]; have := HJ.out; rw [if_neg (by omega)]), HBS.out⟩
                          case measure => simp [intOf]; try omega
                        · go_wp2_with (fail)
                          go_roundw
                          case rel => exact ⟨q2 + 1, 4, Lib.hid (by have := HJ.out; omega), by omega, by go_num, congrArg (Value.int .i64) (by rw [HIT.out]; unfold sgnV; rw [HFw.out]; have := HJ.out; rw [if_neg (by omega)]), HBS.out⟩
                          case measure => simp [intOf]; try omega
                        · go_wp2_with (fail)
                          go_roundw
                          case rel => exact ⟨q2 + 1, 5, Lib.hid (by have := HJ.out; omega), by omega, by go_num, congrArg (Value.int .i64) (by rw [HIT.out]; unfold sgnV; rw [HFw.out]; have := HJ.out; rw [if_neg (by omega)]), HBS.out⟩
                          case measure => simp [intOf]; try omega
                        · go_wp2_with (fail)
                          go_roundw
                          case rel => exact ⟨q2 + 1, 5, Lib.hid (by have := HJ.out; omega), by omega, by go_num, congrArg (Value.int .i64) (by rw [HIT.out]; unfold sgnV; rw [HFw.out]; have := HJ.out; rw [if_pos (by omega)]), HBS.out⟩
                          case measure => simp [intOf]; try omega
                      · have MISS : Hid (sgnTo r k j (q2 + 1) = sgnTo r k j q2) := Lib.hid (sgn_miss (by rw [← HJ.out, HSt.out]; exact hsj))
                        have hsj' : (s == (j : Int)) = false := by simpa using hsj
                        go_wp2_with (fail)
                        go_roundw
                        case rel => exact ⟨q2 + 1, wy + 1, Lib.hid (by rw [HJ.out]; push_cast; rfl), by omega, by go_num, by rw [MISS.out], HBS.out⟩
                        case measure => simp [intOf]; omega
                    · have e5 : wy = 5 := by omega
                      subst e5
                      obtain ⟨sv, hsv⟩ : ∃ sv, sgnTo r k j q2 = sv := ⟨_, rfl⟩
                      have NL2 : Hid (L ++ [sv] = rowS r k (j + 1)) := Lib.hid (by
                        have e4 : q2 = 4 := by have := HJ.out; omega
                        subst e4
                        rw [← hsv]; exact NL.out)
                      have NO2 := Lib.hid (NO.out.below HBS.out)
                      have hSZ3 : SZ ≤ wr.heap.size := by rw [← HSZ.out]; exact NB2.out.size
                      have NB3 : Hid (Below SZ wA wr) := Lib.hid (by rw [← HSZ.out]; exact NB2.out)
                      rw [hsv]
                      clear hsv NO NB RX HBS HJ hj1 hj4 hw5
                      go_wp2_with (at_builtin; refine list_app elem_ints SZ (.slice (some ⟨rg, 0, none⟩) m q) (L.map (Value.int .i64)) ?_ wr.heap.size (.int .i64 sv) (.tmp 91) (.tmp 93) rfl rfl rfl rfl (heap_alloc_new _ _) rfl ?_ ?_ ?_; exact Own.alloc NO2.out _; (rw [List.length_map, ← HM.out]; omega); (simp; omega); intro g2 c2 w5 A5; (have NO5 := Lib.hid (own_snoc A5.own HM.out)); (have NB5 := Lib.hid (app_bel NB3.out hSZ3 A5 (Own.alloc NO2.out _))); clear A5; rw [List.length_map, ← HM.out])
                      go_roundw
                      case rel => exact ⟨j + 1, m + 1, c2, g2, L ++ [sv], by omega, by go_num, rfl, NL2, Lib.hid (by rw [List.length_append, ← HM.out]; rfl), NO5.out, NB5.out⟩
                      case measure => simp [intOf]; omega
            · have e : j = r.cells.length := by omega
              subst e
              have ER : Hid (rowTo r k 4 = L) := Lib.hid (by rw [← rowS_all, HL.out])
              have NM : Hid (signS r (k + 1) = signS r k ++ [L]) := Lib.hid (by rw [signS_yes HFk.out HD.out, ER.out])
              have MW := Lib.hid (MA.out.below BW.out)
              have hAS : wA.heap.size ≤ wr.heap.size := BW.out.size
              clear hj hjl HL
              go_wp2_with (at_builtin; refine list_app elem_rows W.heap.size (.slice (some ⟨g, 0, none⟩) n c) vs ?_ wr.heap.size (.slice (some ⟨rg, 0, none⟩) m q) (.tmp 95) (.tmp 97) rfl rfl rfl rfl (heap_alloc_new _ _) rfl ?_ ?_ ?_; (rw [HN.out]; exact Own.alloc (by have := MW.out.out; rw [HN.out] at this; exact this) _); (rw [← HN.out]; omega); (have := MW.out.g.size; simp; omega); intro g2 c2 w5 A5; (have M5 := Lib.hid (MA.out.addRow (grown_alloc (grown_below BW.out none) _) (row := L) (Own.alloc (by rw [HSZ.out]; exact OW.out) _) A5)); clear A5; rw [← HN.out])
              have NM5 : Hid (Mx W w5 39 3 (.slice (some ⟨g2, 0, none⟩) (n + 1) c2) (vs ++ [.slice (some ⟨rg, 0, none⟩) m q]) (signS r (k + 1))) := Lib.hid (by rw [NM.out, HN.out]; exact M5.out)
              go_roundw
              case rel => exact ⟨k + 1, n + 1, c2, g2, _, by omega, by go_num, rfl, Lib.hid (by rw [List.length_append, ← HN.out]; rfl), NM5.out⟩
              case measure => simp [intOf]; omega
    · have e : k = r.cells.length := by omega
      subst e
      have HR := Lib.hid (show Mx w wr 39 3 (.slice (some ⟨g, 0, none⟩) n c) vs (signM r) by rw [HE.out, ← signS_all]; exact MX.out.base GW.out)
      clear MX hk hlt
      go_wp2_with (fail)
      go_ret
      exact ⟨_, _, rfl, HR.out⟩
end Go.Proofs.Ytklifibiadiinaa
