/- The law FnForcedOf: its walk. -/
import Derived.Test.YtbjenmfoblniaaaVDrawE
import Derived.Test.YtbjenmfoblniaaaVWforced
import Derived.Test.YtbjenmfoblniaaaVWasc
import Derived.Test.YtbjenmfoblniaaaVWtilsC
import Derived.Test.YtbjenmfoblniaaaVSame
import Derived.Test.YtbjenmfoblniaaaVWd
set_option linter.unusedVariables false
namespace Go.Proofs.Ytbjenmfoblniaaa
open Go.RowKit Domi

/-- Is the direction at cell k the same in the first j tilings? -/
def sameT (T : List (List Int)) (k j : Nat) : Bool := (T.take j).all fun X => decide (X.getD k 0 = (T.getD 0 []).getD k 0)
theorem sameT_one {T : List (List Int)} (h : 0 < T.length) (k : Nat) : sameT T k 1 = true := by
  cases T with
  | nil => simp at h
  | cons a l => unfold sameT; simp
theorem sameT_succ {T : List (List Int)} {k j : Nat} (h : j < T.length) : sameT T k (j + 1) = (sameT T k j && decide ((T.getD j []).getD k 0 = (T.getD 0 []).getD k 0)) := by
  unfold sameT; rw [take_snoc T [] j h]; simp
theorem sameT_all {r : Reg} {T : List (List Int)} (h : tilsR r = T) (k : Nat) : (r.f k && sameT T k T.length) = sameB r k := by
  unfold sameT sameB; rw [h, List.take_length]
set_option maxRecDepth 100000 in
set_option maxHeartbeats 4000000 in
theorem FnForcedOf_walk (v : Value) (ys : List Int) (w : World) (h : Yl w v ys) (hr : ∀ i, i < ys.length → 0 ≤ ys.getD i 0 ∧ ys.getD i 0 ≤ 255) :
    Calls Try.prog 7 #[v] w (Ret (.bool true) w) := by
  have H := Lib.hid h
  have Hr := Lib.hid hr
  obtain ⟨a0, cap0, rfl, hlc0, hcm0, _⟩ := h.opened
  clear h hr
  by_cases hlen : (1048576 : Int) < (ys.length : Int)
  · go_enter Try.func7, Try.ntmps7
    go_wp2
    go_ret
    exact ⟨rfl, Below.refl _ _⟩
  go_enter Try.func7, Try.ntmps7
  go_wp2_with (fail)
  refine (DrawForcedOf_any _ ys w H.out Hr.out).mono ?_
  rintro e w1 ⟨v1, r, rfl, hv1, hsm, hb1⟩
  obtain ⟨a1, cap1, rfl, hs1, _, _⟩ := hv1.opened
  have R := RB.new hs1
  obtain ⟨W, hW⟩ : ∃ W, W = w1.alloc (.cells #[.int .i64 r.wide, .int .i64 r.tall, .slice a1 r.cells.length cap1] 29) := ⟨_, rfl⟩
  rw [← hW] at R
  have R := Lib.hid R
  have BW := Lib.hid (show Below w.heap.size w W by rw [hW]; exact hb1.alloc hb1.size _)
  have hX : w1.heap.size < W.heap.size := by rw [hW]; simp
  clear hs1 hb1 hv1
  go_wp2_with (fail)
  rw [← hW]
  clear hW
  generalize w1.heap.size = X at *
  clear hX
  have HASC := Lib.hid (asc_forced r)
  have HMEM : Hid (0 < manyT r → ∀ k, k < r.cells.length → decide ((k : Int) ∈ forced r) = sameB r k) := Lib.hid fun h k hk => mem_forced h hk
  have HNO : Hid (tilsR r = [] → forced r = []) := Lib.hid fun h => forced_no (by unfold manyT; rw [h]; split <;> simp)
  obtain ⟨F, hF⟩ : ∃ F, forced r = F := ⟨_, rfl⟩
  have HI := fun (v : Value) (w : World) (h : RegV w v r) => ForcedOf_any v r w h
  have HS := fun (v : Value) (w : World) (h : RegV w v r) => sForcedOf_any v r w h
  rw [hF] at HASC HMEM HNO HI HS
  have HI := Lib.hid HI
  have HS := Lib.hid HS
  clear hF
  obtain ⟨x0, x1, x2⟩ := R.out.c3
  have sX := R.out.lt
  go_wp2_with (fail)
  refine (HI.out _ _ R.out.v).mono ?_
  rintro e w2 ⟨v2, rfl, ho2, hb⟩
  have BW := Lib.hid (BW.out.trans (hb.mono BW.out.size))
  have R := Lib.hid (R.out.on hb)
  have O := Lib.hid ho2
  clear hb ho2
  clear x0 x1 x2 sX
  obtain ⟨x0, x1, x2⟩ := R.out.c3
  have sX := R.out.lt
  go_wp2_with (fail)
  refine (HS.out _ _ R.out.v).mono ?_
  rintro e w3 ⟨v3, rfl, ho3, hb⟩
  have BW := Lib.hid (BW.out.trans (hb.mono BW.out.size))
  have R := Lib.hid (R.out.on hb)
  have O := Lib.hid (O.out.below hb)
  have O3 := Lib.hid ho3
  clear hb ho3
  clear x0 x1 x2 sX
  go_wp2_with (fail)
  refine (sameInts_is _ _ F F _ O.out.il O3.out.il true (by simp)).mono ?_
  rintro e w4 ⟨rfl, hb⟩
  have BW := Lib.hid (BW.out.trans (hb.mono BW.out.size))
  have R := Lib.hid (R.out.on hb)
  have O := Lib.hid (O.out.below hb)
  clear hb O3
  obtain ⟨x0, x1, x2⟩ := R.out.c3
  have sX := R.out.lt
  go_wp2_with (fail)
  have HTl : Hid (∀ k, k < (tilsR r).length → ((tilsR r).getD k []).length = r.cells.length) := Lib.hid fun k hk => by
    have h1 : (tilsR r).getD k [] ∈ tilsR r := by rw [← Domi.get_at _ _ _ hk]; exact List.getElem_mem hk
    exact tiling_len (mem_tilsR'.1 h1)
  have HMY : Hid (r.valid = true → manyT r = ((tilsR r).length : Nat)) := Lib.hid manyT_yes
  have HVN : Hid (r.valid = false → tilsR r = []) := Lib.hid tilsR_no
  refine (TilingsAll_any _ r _ R.out.v).mono ?_
  obtain ⟨T, hT⟩ : ∃ T, tilsR r = T := ⟨_, rfl⟩
  have HT := Lib.hid hT
  rw [hT] at HTl HNO HMY HVN ⊢
  clear hT
  rintro e w5 ⟨v5, rfl, hv5, hb⟩
  have BW := Lib.hid (BW.out.trans (hb.mono BW.out.size))
  have R := Lib.hid (R.out.on hb)
  have O := Lib.hid (O.out.below hb)
  have A := Lib.hid hv5
  clear hv5 hb
  clear x0 x1 x2 sX
  obtain ⟨fa, fc, rfl, _, _, _⟩ := O.out.il.opened
  obtain ⟨za, zc, rfl, hz1, hz2, _⟩ := A.out.opened
  by_cases hT0 : T.length = 0
  · have hF0 : F.length = 0 := by rw [HNO.out (List.eq_nil_of_length_eq_zero hT0)]; rfl
    rw [hT0, hF0]
    go_wp2_with (fail)
    refine (alive_any _).mono ?_
    rintro e w6 ⟨rfl, hb⟩
    have BW := Lib.hid (BW.out.trans (hb.mono BW.out.size))
    clear hb
    go_wp2
    go_ret
    exact ⟨rfl, BW.out⟩
  have hTp : 0 < T.length := by omega
  have HS2 : Hid (∀ k, k < r.cells.length → decide ((k : Int) ∈ F) = (r.f k && sameT T k T.length)) := Lib.hid fun k hk => by
    have hv : r.valid = true := by
      cases e : r.valid
      · rw [HVN.out e] at hTp; simp at hTp
      · rfl
    rw [HMEM.out (by rw [HMY.out hv]; omega) k hk, ← sameT_all HT.out k]
  clear HMEM HNO HMY HVN
  have hT0' : ((T.length : Int) == 0) = false := by simpa using hT0
  obtain ⟨T0, hT0e⟩ : ∃ X, T.getD 0 [] = X := ⟨_, rfl⟩
  have HT0 := Lib.hid hT0e
  have hlen0 : T0.length = r.cells.length := by rw [← hT0e]; exact HTl.out 0 hTp
  obtain ⟨zb, zo, u0, q0, rfl, hzb, hc0, hq0, hil0⟩ := ll_at A.out hTp hT0e hlen0
  clear hlen0
  have I0 := Lib.hid hil0
  obtain ⟨x0, x1, x2⟩ := R.out.c3
  have sX := R.out.lt
  have hnn : ((r.cells.length : Int) != (r.cells.length : Int)) = false := by simp
  rw [Nat.add_zero] at hc0
  clear hT0e hil0
  go_wp2
  go_quiet (fail)
  go_wp2_with (fail)
  clear x0 x1 x2 sX hc0
  go_loopw [6] (fun i wr => ∃ (k : Nat), k ≤ r.cells.length ∧ i = .int .i64 k ∧ Below w5.heap.size w5 wr) (fun i _ => r.cells.length - (intOf i).toNat)
  case atStart => exact ⟨0, Nat.zero_le _, rfl, by first | exact bel_dn (Below.refl _ _) _ | exact Below.refl _ _⟩
  case round =>
    obtain ⟨k, hk, rfl, hbw⟩ := hrel
    have HBW := Lib.hid hbw
    have R1 := Lib.hid (R.out.on hbw)
    clear hbw
    obtain ⟨x0, x1, x2⟩ := R1.out.c3
    have sX := R1.out.lt
    by_cases hlt : k < r.cells.length
    · have hlt' : (k : Int) < (r.cells.length : Int) := by omega
      obtain ⟨_, _, _, rb, ro, rfl, hrb, hbc⟩ := bl_cell R1.out.bl hlt
      obtain ⟨has, hhas⟩ : ∃ b, r.cells.getD k false = b := ⟨_, rfl⟩
      rw [hhas] at hbc
      have HF : Hid (r.f k = has) := Lib.hid hhas
      have HM : Hid (decide ((k : Int) ∈ F) = (has && sameT T k T.length)) := Lib.hid (by rw [HS2.out k hlt, show r.f k = has from hhas])
      have H1 := Lib.hid (sameT_one hTp k)
      clear hhas
      go_wp2_with (fail)
      clear x0 x1 x2 sX hbc hrb
      go_loopw [7, 8] (fun s i wq => ∃ (j : Nat) (c : Bool), 1 ≤ j ∧ j ≤ T.length ∧ i = .int .i64 j ∧ s = .bool c ∧ Hid (c = (has && sameT T k j)) ∧ Below w5.heap.size w5 wq) (fun _ i _ => T.length - (intOf i).toNat)
      case atStart => exact ⟨1, has, Nat.le_refl _, by omega, rfl, rfl, Lib.hid (by rw [H1.out, Bool.and_true]), HBW.out⟩
      case round =>
        clear H1 HBW R1
        obtain ⟨j, c, hj1, hj, rfl, rfl, HC, hbw⟩ := hrel
        have HBW := Lib.hid hbw
        have R1 := Lib.hid (R.out.on hbw)
        have A1 := Lib.hid (Ll.below A.out hbw)
        clear hbw
        by_cases hjl : j < T.length
        · have hjl' : (j : Int) < (T.length : Int) := by omega
          cases c
          · have N : Hid (false = (has && sameT T k (j + 1))) := Lib.hid (by rw [sameT_succ hjl, ← Bool.and_assoc, ← HC.out]; rfl)
            clear HC
            go_wp2
            go_quiet (fail)
            go_wp2
            go_roundw
            case rel => exact ⟨j + 1, false, by omega, by omega, by go_num, rfl, N, bel_dn HBW.out _⟩
            case measure => simp [intOf]; omega
          · obtain ⟨Xj, hXj⟩ : ∃ X, T.getD j [] = X := ⟨_, rfl⟩
            obtain ⟨zb2, zo2, uj, qj, e2, hzb2, hcj, hqj, hilj⟩ := ll_at A1.out hjl hXj (show Xj.length = r.cells.length by rw [← hXj]; exact HTl.out j hjl)
            obtain ⟨zb3, zo3, u3, q3, e3, hzb3, hc3, hq3, hil3⟩ := ll_at A1.out hTp HT0.out (show T0.length = r.cells.length by rw [← HT0.out]; exact HTl.out 0 hTp)
            cases e2
            cases e3
            rw [Nat.add_zero] at hc3
            have hlj : Xj.length = r.cells.length := by rw [← hXj]; exact HTl.out j hjl
            have hl0 : T0.length = r.cells.length := by rw [← HT0.out]; exact HTl.out 0 hTp
            obtain ⟨b1, o1, rfl, hb1l, hv1⟩ := il_at hilj (j := k) (by omega)
            obtain ⟨b2, o2, rfl, hb2l, hv2⟩ := il_at hil3 (j := k) (by omega)
            have N : Hid (sameT T k (j + 1) = (sameT T k j && decide (Xj.getD k 0 = T0.getD k 0))) := Lib.hid (by rw [sameT_succ hjl, hXj, HT0.out])
            have hee : ((r.cells.length : Int) == (r.cells.length : Int)) = true := by simp
            clear hlj hl0 hilj hil3 hXj
            by_cases he : Xj.getD k 0 = T0.getD k 0
            · have M : Hid (true = (has && sameT T k (j + 1))) := Lib.hid (by rw [N.out, decide_eq_true he, Bool.and_true]; exact HC.out)
              rw [he] at hv1
              generalize T0.getD k 0 = y at *
              generalize Xj.getD k 0 = y' at *
              clear N HC he
              go_wp2
              go_quiet (fail)
              go_wp2
              go_roundw
              case rel => exact ⟨j + 1, true, by omega, by omega, by go_num, rfl, M, bel_dn HBW.out _⟩
              case measure => simp [intOf]; omega
            · have M : Hid (false = (has && sameT T k (j + 1))) := Lib.hid (by rw [N.out, decide_eq_false he, Bool.and_false, Bool.and_false])
              have he' : (Xj.getD k 0 == T0.getD k 0) = false := by simpa using he
              generalize T0.getD k 0 = y at *
              generalize Xj.getD k 0 = y' at *
              clear N HC he
              go_wp2
              go_quiet (fail)
              go_wp2
              go_roundw
              case rel => exact ⟨j + 1, false, by omega, by omega, by go_num, rfl, M, bel_dn HBW.out _⟩
              case measure => simp [intOf]; omega
        · have e : j = T.length := by omega
          subst e
          have E : Hid (decide ((k : Int) ∈ F) = c) := Lib.hid (by rw [HM.out, HC.out])
          clear HC HM
          have hcc : (c != c) = false := by simp
          go_wp2_with (fail)
          refine (hasInt_is _ F k _ (Sl.below O.out.il HBW.out) c E.out).mono ?_
          rintro e w8 ⟨rfl, hb⟩
          have HB8 := Lib.hid (HBW.out.trans (hb.mono HBW.out.size))
          clear hb
          go_wp2
          go_roundw
          case rel => exact ⟨k + 1, by omega, by go_num, HB8.out⟩
          case measure => simp [intOf]; omega
    · go_wp2_with (fail)
      refine (ascend_yes _ F _ (Sl.below O.out.il HBW.out) HASC.out).mono ?_
      rintro e w8 ⟨rfl, hb⟩
      have BW := Lib.hid (BW.out.trans ((HBW.out.trans (hb.mono HBW.out.size)).mono BW.out.size))
      clear hb
      go_wp2
      go_ret
      exact ⟨rfl, BW.out⟩
end Go.Proofs.Ytbjenmfoblniaaa
