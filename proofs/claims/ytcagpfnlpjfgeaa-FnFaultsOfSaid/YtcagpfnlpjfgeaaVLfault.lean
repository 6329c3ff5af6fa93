/- The law FnFaultsOf: its walk. -/
import Derived.Test.YtcagpfnlpjfgeaaVDrawT
import Derived.Test.YtcagpfnlpjfgeaaVWfault
import Derived.Test.YtcagpfnlpjfgeaaVWmany
import Derived.Test.YtcagpfnlpjfgeaaVWasc
import Derived.Test.YtcagpfnlpjfgeaaVSame
import Derived.Test.YtcagpfnlpjfgeaaVWd
set_option linter.unusedVariables false
namespace Go.Proofs.Ytcagpfnlpjfgeaa
open Go.RowKit Domi

theorem wsh_bd (r : Reg) (c : Int) (j : Nat) : -(j : Int) ≤ sumI (wsh r c) j ∧ sumI (wsh r c) j ≤ j := by
  induction j with
  | zero => simp [sumI]
  | succ j ih =>
    rw [sumI]
    have : -1 ≤ wsh r c j ∧ wsh r c j ≤ 1 := by unfold wsh; split <;> (try split) <;> omega
    omega
theorem tilOk4_is (v u : Value) (r : Reg) (L : List Int) (w : World) (h : RegV w v r) (hu : Il w u L) (b : Bool) (hb : tilingOk r L = b) : Calls Try.prog 16 #[v, u] w (Ret (.bool b) w) := by rw [← hb]; exact TilingOk_any v u r L w h hu
set_option maxRecDepth 100000 in
set_option maxHeartbeats 4000000 in
theorem FnFaultsOf_walk (v : Value) (ys : List Int) (w : World) (h : Yl w v ys) (hr : ∀ i, i < ys.length → 0 ≤ ys.getD i 0 ∧ ys.getD i 0 ≤ 255) :
    Calls Try.prog 5 #[v] w (Ret (.bool true) w) := by
  have H := Lib.hid h
  have Hr := Lib.hid hr
  obtain ⟨a0, cap0, rfl, hlc0, hcm0, _⟩ := h.opened
  clear h hr
  by_cases hlen : (1048576 : Int) < (ys.length : Int)
  · go_enter Try.func5, Try.ntmps5
    go_wp2
    go_ret
    exact ⟨rfl, Below.refl _ _⟩
  go_enter Try.func5, Try.ntmps5
  go_wp2_with (fail)
  refine (DrawFaultsOf_any _ ys w H.out Hr.out).mono ?_
  rintro e w1 ⟨v1, u1, r, L, rfl, hv1, hu1, hsm, hl37, hb1⟩
  obtain ⟨a1, cap1, rfl, hs1, _, _⟩ := hv1.opened
  obtain ⟨ua, uc, rfl, hul, hum, _⟩ := hu1.opened
  have R := RB.new hs1
  have U := hu1.below (below_alloc w1 (.cells #[.int .i64 r.wide, .int .i64 r.tall, .slice a1 r.cells.length cap1] 25))
  obtain ⟨W, hW⟩ : ∃ W, W = w1.alloc (.cells #[.int .i64 r.wide, .int .i64 r.tall, .slice a1 r.cells.length cap1] 25) := ⟨_, rfl⟩
  rw [← hW] at R U
  have R := Lib.hid R
  have U := Lib.hid U
  have BW := Lib.hid (show Below w.heap.size w W by rw [hW]; exact hb1.alloc hb1.size _)
  have hX : w1.heap.size < W.heap.size := by rw [hW]; simp
  clear hs1 hb1 hv1 hu1
  go_wp2_with (fail)
  rw [← hW]
  clear hW
  generalize w1.heap.size = X at *
  clear hX
  have HASC := Lib.hid (faults_asc r L)
  have HNO : Hid (laidOk r L = false → faultsOf r L = []) := Lib.hid faultsOf_no
  have HAT : Hid (∀ k, tilingOk r L = true → k < (faultsOf r L).length → ∃ x : Nat, (faultsOf r L).getD k 0 = x ∧ x ≤ 6 ∧ sumI (wsh r x) r.cells.length = 0) := Lib.hid fun k ht hk => by
    have hl := (tilingOk_iff.1 ht).1
    have F := fld_of (laidOk_iff.1 hl).1
    obtain ⟨x, e, h1, h2, h3⟩ := faults_at hl F.hw F.ht hk
    exact ⟨x, e, by have := F.w6; omega, wsh_zero F ht ⟨h1, h2⟩ h3⟩
  have HI := fun (v u : Value) (w : World) (h : RegV w v r) (g : Il w u L) => FaultsOf_any v u r L w h g
  have HS := fun (v u : Value) (w : World) (h : RegV w v r) (g : Il w u L) => sFaultsOf_any v u r L w h g
  obtain ⟨Fl, hF⟩ : ∃ F, faultsOf r L = F := ⟨_, rfl⟩
  rw [hF] at HASC HNO HAT HI HS
  have HI := Lib.hid HI
  have HS := Lib.hid HS
  clear hF
  obtain ⟨x0, x1, x2⟩ := R.out.c3
  go_wp2_with (fail)
  refine (HI.out _ _ _ R.out.v U.out).mono ?_
  rintro e w2 ⟨v2, rfl, ho2, hb⟩
  have BW := Lib.hid (BW.out.trans (hb.mono BW.out.size))
  have R := Lib.hid (R.out.on hb)
  have U := Lib.hid (Sl.below U.out hb)
  have O := Lib.hid ho2
  clear hb ho2 x0 x1 x2
  obtain ⟨x0, x1, x2⟩ := R.out.c3
  go_wp2_with (fail)
  refine (HS.out _ _ _ R.out.v U.out).mono ?_
  rintro e w3 ⟨v3, rfl, ho3, hb⟩
  have BW := Lib.hid (BW.out.trans (hb.mono BW.out.size))
  have R := Lib.hid (R.out.on hb)
  have U := Lib.hid (Sl.below U.out hb)
  have O := Lib.hid (O.out.below hb)
  have O3 := Lib.hid ho3
  clear hb ho3 x0 x1 x2
  go_wp2_with (fail)
  refine (sameInts_is _ _ Fl Fl _ O.out.il O3.out.il true (by simp)).mono ?_
  rintro e w4 ⟨rfl, hb⟩
  have BW := Lib.hid (BW.out.trans (hb.mono BW.out.size))
  have R := Lib.hid (R.out.on hb)
  have U := Lib.hid (Sl.below U.out hb)
  have O := Lib.hid (O.out.below hb)
  clear hb O3
  obtain ⟨fa, fc, rfl, _, _, _⟩ := O.out.il.opened
  obtain ⟨x0, x1, x2⟩ := R.out.c3
  go_wp2_with (fail)
  cases hk : laidOk r L
  · refine (sLaidOk_is _ _ r L _ R.out.v U.out false hk).mono ?_
    rintro e w5 ⟨rfl, hb⟩
    have BW := Lib.hid (BW.out.trans (hb.mono BW.out.size))
    have e0 : Fl.length = 0 := by rw [HNO.out hk]; rfl
    rw [e0]
    clear hb hk
    go_wp2_with (fail)
    refine (alive_any _).mono ?_
    rintro e w6 ⟨rfl, hb⟩
    have BW := Lib.hid (BW.out.trans (hb.mono BW.out.size))
    clear hb
    go_wp2
    go_ret
    exact ⟨rfl, BW.out⟩
  refine (sLaidOk_is _ _ r L _ R.out.v U.out true hk).mono ?_
  rintro e w5 ⟨rfl, hb⟩
  have BW := Lib.hid (BW.out.trans (hb.mono BW.out.size))
  have R := Lib.hid (R.out.on hb)
  have U := Lib.hid (Sl.below U.out hb)
  have O := Lib.hid (O.out.below hb)
  obtain ⟨tk, htk⟩ : ∃ b, tilingOk r L = b := ⟨_, rfl⟩
  rw [htk] at HAT
  have HK := Lib.hid htk
  have hwb : 1 ≤ r.wide ∧ r.wide ≤ 6 := (Reg.valid_iff.1 (laidOk_iff.1 hk).1).1
  have hl36 : r.cells.length ≤ 36 := by
    obtain ⟨b1, b2, b3, b4⟩ := Reg.valid_iff.1 (laidOk_iff.1 hk).1
    have := area_in b1 b2; omega
  clear hb htk hk HNO x0 x1 x2
  go_wp2_with (fail)
  go_loopw [6] (fun i wr => ∃ k : Nat, k ≤ Fl.length ∧ i = .int .i64 k ∧ Below w5.heap.size w5 wr) (fun i _ => Fl.length - (intOf i).toNat)
  case atStart => exact ⟨0, Nat.zero_le _, rfl, Below.refl _ _⟩
  case round =>
    obtain ⟨k, hk, rfl, hbw⟩ := hrel
    have HBW := Lib.hid hbw
    have R1 := Lib.hid (R.out.on hbw)
    have U1 : Hid (Il wr _ L) := Lib.hid (Sl.below U.out hbw)
    have O1 := Lib.hid (O.out.below hbw)
    clear hbw
    have endW : ∀ w' : World, Below wr.heap.size wr w' → Below w.heap.size w w' := fun w' hb => BW.out.trans ((HBW.out.trans (hb.mono HBW.out.size)).mono BW.out.size)
    have END := Lib.hid endW
    clear endW
    by_cases hlt : k < Fl.length
    · have hlt' : (k : Int) < (Fl.length : Int) := by omega
      obtain ⟨x0, x1, x2⟩ := R1.out.c3
      go_wp2_with (fail)
      refine (tilOk4_is _ _ r L _ R1.out.v U1.out tk HK.out).mono ?_
      rintro e w7 ⟨rfl, hb⟩
      have HB7 := Lib.hid (HBW.out.trans (hb.mono HBW.out.size))
      have O7 := Lib.hid (O1.out.below hb)
      have B7 := Lib.hid hb
      clear hb x0 x1 x2
      cases tk
      · go_wp2_with (fail)
        refine (ascend_yes _ Fl _ O7.out.il HASC.out).mono ?_
        rintro e w8 ⟨rfl, hb⟩
        have BE := Lib.hid (END.out _ (B7.out.trans (hb.mono B7.out.size)))
        clear hb
        go_wp2
        go_ret
        exact ⟨rfl, BE.out⟩
      · obtain ⟨x, hx, hx6, hsum⟩ := HAT.out k (by first | trivial | rfl) hlt
        have HX := Lib.hid hx
        have HSUM := Lib.hid hsum
        clear hx hsum
        go_wp2_with (fail)
        go_loopw [7, 8] (fun s i wq => ∃ j : Nat, j ≤ r.cells.length ∧ i = .int .i64 j ∧ s = .int .i64 (sumI (wsh r x) j) ∧ Below w5.heap.size w5 wq) (fun _ i _ => r.cells.length - (intOf i).toNat)
        case atStart => exact ⟨0, Nat.zero_le _, rfl, rfl, HB7.out⟩
        case round =>
          obtain ⟨j, hj, rfl, rfl, hbw⟩ := hrel
          have HBQ := Lib.hid hbw
          have R3 := Lib.hid (R.out.on hbw)
          have O3 := Lib.hid (O.out.below hbw)
          clear hbw
          obtain ⟨x0, x1, x2⟩ := R3.out.c3
          have sX := R3.out.lt
          by_cases hjl : j < r.cells.length
          · have hjl' : (j : Int) < (r.cells.length : Int) := by omega
            obtain ⟨_, _, _, rb, ro, rfl, hrb, hbc⟩ := bl_cell R3.out.bl hjl
            obtain ⟨lb, lo, rfl, hlb, hlc⟩ := il_at O3.out.il hlt
            rw [HX.out] at hlc
            obtain ⟨has, hhas⟩ : ∃ b, r.cells.getD j false = b := ⟨_, rfl⟩
            rw [hhas] at hbc
            have hsb := wsh_bd r x j
            have HS2 : Hid (sumI (wsh r x) (j + 1) = sumI (wsh r x) j + wsh r x j) := Lib.hid rfl
            have HWS : Hid (wsh r x j = if has && decide ((j : Int) % r.wide < x) then (if darkB r.wide j then 1 else -1) else 0) := Lib.hid (by unfold wsh; rw [show r.f j = has from hhas])
            have m1 := Int.emod_nonneg (j : Int) (b := r.wide) (by omega)
            have m2 := Int.emod_lt_of_pos (j : Int) (b := r.wide) (by omega)
            have m3 := Int.ediv_nonneg (a := (j : Int)) (b := r.wide) (by omega) (by omega)
            have m4 := Int.ediv_le_self (a := (j : Int)) r.wide (by omega)
            generalize sumI (wsh r x) j = S at *
            clear hhas
            cases has
            · have N : Hid (S = sumI (wsh r x) (j + 1)) := Lib.hid (by rw [HS2.out, HWS.out]; simp)
              clear HS2 HWS
              go_wp2
              go_quiet (fail)
              go_wp2
              go_roundw
              case rel => exact ⟨j + 1, by omega, by go_num, by rw [← N.out], bel_dn HBQ.out _⟩
              case measure => simp [intOf]; omega
            · by_cases hlx : (j : Int) % r.wide < (x : Int)
              · have HWS2 : Hid (wsh r x j = if darkB r.wide j then 1 else -1) := Lib.hid (by rw [HWS.out, decide_eq_true hlx]; rfl)
                clear HWS
                by_cases hd : ((j : Int) % r.wide + (j : Int) / r.wide) % 2 = 0
                · have N : Hid (S + 1 = sumI (wsh r x) (j + 1)) := Lib.hid (by rw [HS2.out, HWS2.out, show darkB r.wide j = true by unfold darkB; simpa using hd]; rfl)
                  clear HS2 HWS2
                  go_wp2
                  go_quiet (fail)
                  go_wp2
                  go_quiet (fail)
                  go_wp2
                  go_roundw
                  case rel => exact ⟨j + 1, by omega, by go_num, by rw [← N.out], bel_dn HBQ.out _⟩
                  case measure => simp [intOf]; omega
                · have N : Hid (S - 1 = sumI (wsh r x) (j + 1)) := Lib.hid (by rw [HS2.out, HWS2.out, show darkB r.wide j = false by unfold darkB; simpa using hd]; rfl)
                  clear HS2 HWS2
                  go_wp2
                  go_quiet (fail)
                  go_wp2
                  go_quiet (fail)
                  go_wp2
                  go_roundw
                  case rel => exact ⟨j + 1, by omega, by go_num, by rw [← N.out], bel_dn HBQ.out _⟩
                  case measure => simp [intOf]; omega
              · have N : Hid (S = sumI (wsh r x) (j + 1)) := Lib.hid (by rw [HS2.out, HWS.out, decide_eq_false hlx]; simp)
                clear HS2 HWS
                go_wp2
                go_quiet (fail)
                go_wp2
                go_roundw
                case rel => exact ⟨j + 1, by omega, by go_num, by rw [← N.out], bel_dn HBQ.out _⟩
                case measure => simp [intOf]; omega
          · have e : j = r.cells.length := by omega
            subst e
            rw [HSUM.out]
            go_wp2
            go_roundw
            case rel => exact ⟨k + 1, by omega, by go_num, HBQ.out⟩
            case measure => simp [intOf]; omega
    · go_wp2_with (fail)
      refine (ascend_yes _ Fl _ O1.out.il HASC.out).mono ?_
      rintro e w8 ⟨rfl, hb⟩
      have BE := Lib.hid (END.out _ hb)
      clear hb
      go_wp2
      go_ret
      exact ⟨rfl, BE.out⟩
end Go.Proofs.Ytcagpfnlpjfgeaa
