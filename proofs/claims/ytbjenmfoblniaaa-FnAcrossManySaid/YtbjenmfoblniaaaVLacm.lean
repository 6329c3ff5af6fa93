/- The law FnAcrossMany: its walk. -/
import Derived.Test.YtbjenmfoblniaaaVDrawAcm
import Derived.Test.YtbjenmfoblniaaaZe
import Derived.Test.YtbjenmfoblniaaaVWacmT
import Derived.Test.YtbjenmfoblniaaaVWacmI
set_option linter.unusedVariables false
namespace Go.Proofs.Ytbjenmfoblniaaa
open Go.RowKit Domi

theorem acMany_cases (r : Reg) (c u : Int) : acMany r c u < 0 ∧ acMany r c u = -1 ∨ ∃ w t d x : Nat, Fld r w t ∧ c = d ∧ u = x ∧ (1 ≤ d ∧ d < w) ∧ x < 2 ^ t ∧ acMany r c u = (acCount r d x : Int) := by
  cases hv : r.valid
  · rw [acMany_no1 hv]; exact .inl ⟨by decide, rfl⟩
  cases hc : inB c 1 (r.wide - 1)
  · rw [acMany_no2 hc]; exact .inl ⟨by decide, rfl⟩
  cases hs : inB u 0 ((2 : Int) ^ r.tall.toNat - 1)
  · rw [acMany_no3 hs]; exact .inl ⟨by decide, rfl⟩
  have F := fld_of hv
  have h1 := inB_iff.1 hc
  have h2 := inB_iff.1 hs
  obtain ⟨d, rfl⟩ : ∃ d : Nat, c = (d : Int) := ⟨c.toNat, by omega⟩
  obtain ⟨x, rfl⟩ : ∃ d : Nat, u = (d : Int) := ⟨u.toNat, by omega⟩
  have e : (2 : Int) ^ r.tall.toNat = ((2 ^ r.tall.toNat : Nat) : Int) := (Int.natCast_pow 2 _).symm
  rw [e] at h2
  have hw := F.hw
  exact .inr ⟨_, _, d, x, F, rfl, rfl, ⟨by omega, by omega⟩, by omega, acMany_yes hv hc hs⟩
theorem west_sum_bd (r : Reg) (w d x n : Nat) : -2 * (n : Int) ≤ sumI (westT r w d x) n ∧ sumI (westT r w d x) n ≤ 2 * (n : Int) := by
  induction n with
  | zero => simp [sumI]
  | succ n ih => have := westT_bd r w d x n; rw [sumI]; omega
theorem ix_lt9 {W H x y : Nat} (hx : x < W) (hy : y < H) : y * W + x < W * H := by
  have h1 : (y + 1) * W ≤ H * W := Nat.mul_le_mul_right _ hy
  rw [Nat.add_mul] at h1
  rw [Nat.mul_comm W H]
  omega
set_option maxRecDepth 100000 in
set_option maxHeartbeats 4000000 in
theorem FnAcrossMany_walk (v : Value) (ys : List Int) (w : World) (h : Yl w v ys) (hr : ∀ i, i < ys.length → 0 ≤ ys.getD i 0 ∧ ys.getD i 0 ≤ 255) :
    Calls Try.prog 11 #[v] w (Ret (.bool true) w) := by
  have H := Lib.hid h
  have Hr := Lib.hid hr
  obtain ⟨a0, cap0, rfl, hlc0, hcm0, _⟩ := h.opened
  clear h hr
  by_cases hlen : (1048576 : Int) < (ys.length : Int)
  · go_enter Try.func11, Try.ntmps11
    go_wp2
    go_ret
    exact ⟨rfl, Below.refl _ _⟩
  go_enter Try.func11, Try.ntmps11
  go_wp2_with (fail)
  refine (DrawAcrossMany_any _ ys w H.out Hr.out).mono ?_
  rintro e w1 ⟨s1, r, c, u, rfl, hs1, hsm, hb1⟩
  obtain ⟨a1, cap1, rfl, hlc1, hcm1, _⟩ := hs1.opened
  have R := RB.new hs1
  obtain ⟨W, hW⟩ : ∃ W, W = w1.alloc (.cells #[.int .i64 r.wide, .int .i64 r.tall, .slice a1 r.cells.length cap1] 29) := ⟨_, rfl⟩
  rw [← hW] at R
  have R := Lib.hid R
  have BW := Lib.hid (show Below w.heap.size w W by rw [hW]; exact hb1.alloc hb1.size _)
  have hX : w1.heap.size < W.heap.size := by rw [hW]; simp
  clear hs1 hb1
  go_wp2_with (fail)
  rw [← hW]
  clear hW
  generalize w1.heap.size = X at *
  clear hX
  have HNN := Lib.hid (acMany_cases r c u)
  obtain ⟨n, hn⟩ : ∃ n, acMany r c u = n := ⟨_, rfl⟩
  have HI := Lib.hid (fun (v : Value) (w : World) (h : RegV w v r) => AcrossMany_any v r c u w h n hn)
  have HS := Lib.hid (fun (v : Value) (w : World) (h : RegV w v r) => sAcrossMany_is v r c u w h n hn)
  rw [hn] at HNN
  have hnn : (n != n) = false := by simp
  have hee : (n == n) = true := by simp
  clear hn
  obtain ⟨x0, x1, x2⟩ := R.out.c3
  go_wp2_with (fail)
  refine (HI.out _ _ R.out.v).mono ?_
  rintro e w2 ⟨rfl, hb⟩
  have BW := Lib.hid (BW.out.trans (hb.mono BW.out.size))
  have R := Lib.hid (R.out.on hb)
  clear hb x0 x1 x2
  obtain ⟨x0, x1, x2⟩ := R.out.c3
  go_wp2_with (fail)
  refine (HS.out _ _ R.out.v).mono ?_
  rintro e w3 ⟨rfl, hb⟩
  have BW := Lib.hid (BW.out.trans (hb.mono BW.out.size))
  have R := Lib.hid (R.out.on hb)
  clear hb x0 x1 x2 HI HS
  rcases HNN.out with ⟨h1, h2⟩ | ⟨w0, t, d, x, F, rfl, rfl, hd, hx, hnx⟩
  · subst h2
    go_wp2_with (fail)
    refine (alive_any _).mono ?_
    rintro e w5 ⟨rfl, hb⟩
    have BW := Lib.hid (BW.out.trans (hb.mono BW.out.size))
    clear hb
    go_wp2
    go_ret
    exact ⟨rfl, BW.out⟩
  · have HF := Lib.hid F
    have hnb := acCount_le r d x
    have h3 : ¬ n < 0 := by omega
    have hFw := F.hw
    have hFt := F.ht
    have hw6 := F.w6
    have ht6 := F.t6
    have HFw := Lib.hid hFw
    have HFt := Lib.hid hFt
    have HLEN := Lib.hid F.len
    have hx64 : x < 64 := by
      have : 2 ^ t ≤ 2 ^ 6 := Nat.pow_le_pow_right (by omega) ht6
      omega
    have HX2 := Lib.hid hx
    have hmb := manyT_bd F.hv
    rw [manyT_yes F.hv] at hmb
    have HTl : Hid (∀ k, k < (tilsR r).length → tilingOk r ((tilsR r).getD k []) = true) := Lib.hid fun k hk => by
      refine mem_tilsR'.1 ?_
      rw [← Domi.get_at _ _ _ hk]; exact List.getElem_mem hk
    have HCN : Hid ((((tilsR r).filter fun Y => rowsOk w0 Y d x t).length : Int) = n) := Lib.hid (by
      rw [hnx]
      unfold acCount
      rw [F.hw, F.ht]
      refine congrArg (fun l : List (List Int) => (l.length : Int)) (List.filter_congr fun Y hY => ?_)
      exact rowsOk_across F hd hx (mem_tilsR'.1 hY))
    have HWZ : Hid (n ≠ 0 → sumI (westT r w0 d x) r.cells.length = 0) := Lib.hid fun h0 => west_zero F hd hx (by intro e; rw [e] at hnx; exact h0 hnx)
    clear hnx F hFw hFt hx hnb
    obtain ⟨x0, x1, x2⟩ := R.out.c3
    go_wp2_with (fail)
    refine (TilingsAll_any _ r _ R.out.v).mono ?_
    obtain ⟨T, hT⟩ : ∃ T, tilsR r = T := ⟨_, rfl⟩
    rw [hT] at HTl HCN hmb ⊢
    clear hT
    rintro e w6 ⟨v6, rfl, hv6, hb⟩
    have BW := Lib.hid (BW.out.trans (hb.mono BW.out.size))
    have R := Lib.hid (R.out.on hb)
    have A := Lib.hid hv6
    clear hv6 hb x0 x1 x2
    obtain ⟨za, zc, rfl, hz1, hz2, _⟩ := A.out.opened
    go_wp2_with (fail)
    go_loopw [8, 9] (fun m i wr => ∃ k : Nat, k ≤ T.length ∧ i = .int .i64 k ∧ m = .int .i64 ((((T.take k).filter fun Y => rowsOk w0 Y d x t).length : Nat) : Int) ∧ Below w6.heap.size w6 wr) (fun _ i _ => T.length - (intOf i).toNat)
    case atStart => exact ⟨0, Nat.zero_le _, rfl, rfl, Below.refl _ _⟩
    case round =>
      obtain ⟨k, hk, rfl, rfl, hbw⟩ := hrel
      have HBW := Lib.hid hbw
      have R1 := Lib.hid (R.out.on hbw)
      have A1 := Lib.hid (Ll.below A.out hbw)
      have BW1 := Lib.hid (BW.out.trans (hbw.mono BW.out.size))
      clear hbw
      by_cases hlt : k < T.length
      · have hlt' : (k : Int) < (T.length : Int) := by omega
        have HSN := Lib.hid (filt_snoc (fun Y => rowsOk w0 Y d x t) T hlt)
        have hle := List.length_filter_le (fun Y => rowsOk w0 Y d x t) (T.take k)
        rw [List.length_take] at hle
        have hTk := Lib.hid (HTl.out k hlt)
        obtain ⟨Y, hY⟩ : ∃ Y, T.getD k [] = Y := ⟨_, rfl⟩
        rw [hY] at hTk HSN
        obtain ⟨q, hq⟩ : ∃ q, Y.length = q := ⟨_, rfl⟩
        have hql : q = r.cells.length := by rw [← hq]; exact (laidOk_iff.1 (tilingOk_iff.1 hTk.out).1).2.1
        subst hql
        obtain ⟨zb, zf, u, qc, rfl, hzb, hcell, hqc, hil⟩ := ll_at A1.out hlt hY hq
        have HIL := Lib.hid hil
        have HQ := Lib.hid hq
        clear hY hq hil
        generalize ((T.take k).filter fun Y => rowsOk w0 Y d x t).length = c0 at *
        obtain ⟨x0, x1, x2⟩ := R1.out.c3
        have sX := R1.out.lt
        have hLc : ∀ (K : Later wr) (b o : Nat), b < wr.heap.size → K.x.cell? ⟨b, o, none⟩ = wr.cell? ⟨b, o, none⟩ := Later.cell
        have hll : ((r.cells.length : Int) == (r.cells.length : Int)) = true := by simp
        go_wp2_with (fail)
        refine wp_region_later_all (by kernel_rfl) (by kernel_rfl) ?_
        repeat (go_big_quiet_step (fail))
        refine wpQuiet_nil ?_
        intro K
        have KB := Lib.hid (HBW.out.trans (K.h.mono HBW.out.size))
        go_wp2_with (fail)
        have HC2 := Lib.hid (show zb < K.x.heap.size ∧ K.x.cell? ⟨zb, zf + k, none⟩ = some (.slice u r.cells.length qc) from ⟨Nat.lt_of_lt_of_le hzb K.h.size, (K.h.cell (p := ⟨zb, zf + k, none⟩) hzb).trans hcell⟩)
        have HI2 := Lib.hid (Il.below HIL.out K.h)
        obtain ⟨W2, hW2⟩ : ∃ W2, W2 = K.x := ⟨_, rfl⟩
        have R2 := Lib.hid (R1.out.on K.h)
        have A2 := Lib.hid (Ll.below A1.out K.h)
        have B2 := Lib.hid (BW1.out.trans (K.h.mono BW1.out.size))
        rw [← hW2] at KB R2 A2 B2 HC2 HI2 ⊢
        clear hW2 hLc x0 x1 x2 sX hcell HIL
        go_loopw [10, 11] (fun s y wr => ∃ j : Nat, j ≤ t ∧ y = .int .i64 j ∧ s = .bool (rowsOk w0 Y d x j) ∧ Below W2.heap.size W2 wr) (fun _ y _ => t - (intOf y).toNat)
        case atStart => exact ⟨0, Nat.zero_le _, rfl, by simp [rowsOk], Below.refl _ _⟩
        case round =>
          obtain ⟨j, hj, rfl, rfl, hbw⟩ := hrel
          have HBW := Lib.hid hbw
          have R3 := Lib.hid (R2.out.on hbw)
          have KB3 := Lib.hid (KB.out.trans (hbw.mono KB.out.size))
          have hzb3 : zb < wr.heap.size := Nat.lt_of_lt_of_le HC2.out.1 hbw.size
          have hcell3 : wr.cell? ⟨zb, zf + k, none⟩ = some (.slice u r.cells.length qc) := (hbw.cell (p := ⟨zb, zf + k, none⟩) HC2.out.1).trans HC2.out.2
          have HI3 := Lib.hid (Il.below HI2.out hbw)
          clear hbw
          obtain ⟨x0, x1, x2⟩ := R3.out.c3
          cases hso : rowsOk w0 Y d x j
          · have HNO : Hid (rowsOk w0 Y d x t = false) := Lib.hid (rowsOk_later hso hj)
            clear hso
            by_cases hjt : j < t
            · have hjt' : (j : Int) < r.tall := by have := HFt.out; omega
              go_wp2_with (fail)
              have HS2 : Hid (((T.take (k + 1)).filter fun Y => rowsOk w0 Y d x t).length = c0) := Lib.hid (by have h := HSN.out; simpa [HNO.out] using h)
              go_roundw
              case rel => exact ⟨k + 1, by omega, by go_num, by rw [HS2.out], KB3.out⟩
              case measure => simp [intOf]; omega
            · have hjt' : ¬ (j : Int) < r.tall := by have := HFt.out; omega
              go_wp2_with (fail)
              have HS2 : Hid (((T.take (k + 1)).filter fun Y => rowsOk w0 Y d x t).length = c0) := Lib.hid (by have h := HSN.out; simpa [HNO.out] using h)
              go_roundw
              case rel => exact ⟨k + 1, by omega, by go_num, by rw [HS2.out], KB3.out⟩
              case measure => simp [intOf]; omega
          · have HSO := Lib.hid hso
            clear hso
            by_cases hjt : j < t
            · have hjt' : (j : Int) < r.tall := by have := HFt.out; omega
              have hidx : j * w0 + d < r.cells.length := by rw [HLEN.out]; exact ix_lt9 hd.2 hjt
              obtain ⟨ub, uo, rfl, hub, huc⟩ := il_at HI3.out (j := j * w0 + d) (by rw [HQ.out]; exact hidx)
              obtain ⟨yv, hyv⟩ : ∃ yv, Y.getD (j * w0 + d) 0 = yv := ⟨_, rfl⟩
              rw [hyv] at huc
              obtain ⟨ei, hei⟩ : ∃ ei, (x : Int) / 2 ^ j = ei := ⟨_, rfl⟩
              have hbit : ei % 2 = if x.testBit j then 1 else 0 := by rw [← hei]; exact bit_of
              have he0 : 0 ≤ ei := by rw [← hei]; exact Int.ediv_nonneg (by omega) (Int.pow_nonneg (by decide))
              have HROW : Hid (rowsOk w0 Y d x (j + 1) = (decide (yv = 3) == x.testBit j)) := Lib.hid (by rw [rowsOk, HSO.out, Bool.true_and]; unfold rowOk; rw [hyv])
              have htm : ei.tmod 2 = ei % 2 := Int.tmod_eq_emod_of_nonneg he0
              obtain ⟨tb, htb⟩ : ∃ tb, x.testBit j = tb := ⟨_, rfl⟩
              rw [htb] at hbit HROW
              rw [hbit] at htm
              have hj64 : (j : Int) < 64 := by omega
              have hjw : (j : Int) * (w0 : Int) ≤ 36 := by
                have h1 : j * w0 ≤ 6 * 6 := Nat.mul_le_mul (by omega) hw6
                have h2 : ((j * w0 : Nat) : Int) ≤ 36 := by omega
                rwa [Int.natCast_mul] at h2
              have hjw0 : (0 : Int) ≤ (j : Int) * (w0 : Int) := Int.mul_nonneg (by omega) (by omega)
              have hidx' : (j : Int) * (w0 : Int) + (d : Int) < (r.cells.length : Int) := by
                have : ((j * w0 + d : Nat) : Int) < (r.cells.length : Int) := by omega
                rwa [Int.natCast_add, Int.natCast_mul] at this
              rw [HFw.out] at x0
              have sX := R3.out.lt
              have hLc : ∀ (K : Later wr) (b o : Nat), b < wr.heap.size → K.x.cell? ⟨b, o, none⟩ = wr.cell? ⟨b, o, none⟩ := Later.cell
              obtain ⟨bv, hbv⟩ : ∃ bv, ((yv == (3 : Int)) == ((if tb = true then (1 : Int) else 0) == 1)) = bv := ⟨_, rfl⟩
              have HROW2 : Hid (rowsOk w0 Y d x (j + 1) = bv) := Lib.hid (by rw [HROW.out, ← hbv]; cases tb <;> by_cases h : yv = 3 <;> simp [h])
              have HBV := Lib.hid hbv
              clear htb hbit hyv hbv HROW
              go_wp2_with (fail)
              refine wp_region_later_all (by kernel_rfl) (by kernel_rfl) ?_
              repeat (go_big_quiet_step (fail))
              refine wpQuiet_nil ?_
              intro K2
              have KB4 := Lib.hid (HBW.out.trans (K2.h.mono HBW.out.size))
              rw [HBV.out]
              clear hLc x0 x1 x2 sX huc hub hcell3 hzb3 hidx' hjw hjw0 hei htm he0
              go_wp2_with (fail)
              go_roundw
              case rel => exact ⟨j + 1, by omega, by go_num, by rw [HROW2.out], KB4.out⟩
              case measure => simp [intOf]; omega
            · have e : j = t := by omega
              subst e
              have hjt' : ¬ (j : Int) < r.tall := by have := HFt.out; omega
              go_wp2_with (fail)
              have HS2 : Hid (((T.take (k + 1)).filter fun Y => rowsOk w0 Y d x j).length = c0 + 1) := Lib.hid (by have h := HSN.out; simpa [HSO.out] using h)
              go_roundw
              case rel => exact ⟨k + 1, by omega, by go_num, by rw [HS2.out]; go_num, KB3.out⟩
              case measure => simp [intOf]; omega
      · have e : k = T.length := by omega
        subst e
        have HM : Hid ((((T.take T.length).filter fun Y => rowsOk w0 Y d x t).length : Int) = n) := Lib.hid (by rw [List.take_length]; exact HCN.out)
        generalize ((T.take T.length).filter fun Y => rowsOk w0 Y d x t).length = c0 at *
        obtain ⟨x0, x1, x2⟩ := R1.out.c3
        go_wp2_with (fail)
        obtain ⟨W3, hW3⟩ : ∃ W3, W3 = wr := ⟨_, rfl⟩
        rw [← hW3] at R1 BW1 ⊢
        clear hW3 x0 x1 x2 A1 HBW
        go_loopw [12, 13] (fun s j wr => ∃ k : Nat, k ≤ r.cells.length ∧ j = .int .i64 k ∧ s = .int .i64 (sumI (westT r w0 d x) k) ∧ Below W3.heap.size W3 wr) (fun _ j _ => r.cells.length - (intOf j).toNat)
        case atStart => exact ⟨0, Nat.zero_le _, rfl, rfl, Below.refl _ _⟩
        case round =>
          obtain ⟨k, hk, rfl, rfl, hbw⟩ := hrel
          have HBW := Lib.hid hbw
          have R2 := Lib.hid (R1.out.on hbw)
          have BW2 := Lib.hid (BW1.out.trans (hbw.mono BW1.out.size))
          clear hbw
          obtain ⟨x0, x1, x2⟩ := R2.out.c3
          by_cases hlt : k < r.cells.length
          · have hlt' : (k : Int) < (r.cells.length : Int) := by omega
            obtain ⟨_, _, _, rb, ro, e, hrb, hbc⟩ := bl_cell R2.out.bl hlt
            subst e
            obtain ⟨has, hhas⟩ : ∃ b, r.cells.getD k false = b := ⟨_, rfl⟩
            rw [hhas] at hbc
            have HF : Hid (r.f k = has) := Lib.hid hhas
            obtain ⟨a, ha⟩ : ∃ a, k % w0 = a := ⟨_, rfl⟩
            obtain ⟨b, hb⟩ : ∃ b, k / w0 = b := ⟨_, rfl⟩
            have hw0 : 0 < w0 := by omega
            have haw : a < w0 := by rw [← ha]; exact Nat.mod_lt _ hw0
            have hbt : b < t := by rw [← hb]; refine Nat.div_lt_of_lt_mul ?_; rw [← HLEN.out]; exact hlt
            have e1 : (k : Int) % (w0 : Int) = (a : Int) := by rw [← ha, Int.natCast_emod]
            have e2 : (k : Int) / (w0 : Int) = (b : Int) := by rw [← hb, Int.natCast_ediv]
            have hw0' : (w0 : Int) ≠ 0 := by omega
            have sX := R2.out.lt
            have hLc : ∀ (K : Later wr) (b o : Nat), b < wr.heap.size → K.x.cell? ⟨b, o, none⟩ = wr.cell? ⟨b, o, none⟩ := Later.cell
            rw [HFw.out] at x0
            clear hhas
            go_wp2_with (fail)
            refine wp_region_later_all (by kernel_rfl) (by kernel_rfl) ?_
            repeat (go_big_quiet_step (fail))
            refine wpQuiet_nil ?_
            intro K2
            have R4 := Lib.hid (R2.out.on K2.h)
            have BB := Lib.hid (HBW.out.trans (K2.h.mono HBW.out.size))
            have hbc4 : K2.x.cell? ⟨rb, ro + k, none⟩ = some (.bool has) := (K2.h.cell (p := ⟨rb, ro + k, none⟩) hrb).trans hbc
            have hrb4 : rb < K2.x.heap.size := Nat.lt_of_lt_of_le hrb K2.h.size
            have hsb := west_sum_bd r w0 d x k
            obtain ⟨ei, hei⟩ : ∃ ei, (x : Int) / 2 ^ b = ei := ⟨_, rfl⟩
            have hbit : ei % 2 = if x.testBit b then 1 else 0 := by rw [← hei]; exact bit_of
            have he0 : 0 ≤ ei := by rw [← hei]; exact Int.ediv_nonneg (by omega) (Int.pow_nonneg (by decide))
            have htm : ei.tmod 2 = ei % 2 := Int.tmod_eq_emod_of_nonneg he0
            obtain ⟨tb, htb⟩ : ∃ tb, x.testBit b = tb := ⟨_, rfl⟩
            have HSUM : Hid (sumI (westT r w0 d x) (k + 1) = sumI (westT r w0 d x) k + ((if has && decide (a < d) then 1 - ((a : Int) + (b : Int)) % 2 * 2 else 0) - (if tb && decide (a + 1 = d) then 1 - ((a : Int) + (b : Int)) % 2 * 2 else 0))) := Lib.hid (by
              rw [sumI]
              unfold westT inRow shade
              rw [HF.out, ha, hb, htb]
              push_cast
              rfl)
            rw [htb] at hbit
            rw [hbit] at htm
            obtain ⟨dv, hdv⟩ : ∃ dv, 1 - ((a : Int) + (b : Int)) % 2 * 2 = dv := ⟨_, rfl⟩
            have hdb : -1 ≤ dv ∧ dv ≤ 1 := by omega
            rw [hdv] at HSUM ⊢
            obtain ⟨S, hS⟩ : ∃ S, sumI (westT r w0 d x) k = S := ⟨_, rfl⟩
            rw [hS] at HSUM hsb ⊢
            have hSb : -100 ≤ S ∧ S ≤ 100 := by have := HLEN.out; have h36 : w0 * t ≤ 6 * 6 := Nat.mul_le_mul hw6 ht6; omega
            have hb64 : (b : Int) < 64 := by omega
            clear hLc x0 x1 x2 sX hbc hrb hsb hbit htb hS hdv ha hb HF
            obtain ⟨x0, x1, x2⟩ := R4.out.c3
            rw [HFw.out] at x0
            rcases (show d ≤ a ∨ (a < d ∧ a + 1 ≠ d) ∨ a + 1 = d by omega) with h3 | h3 | h3
            · have hd0 : ¬ (a < d) := by omega
              have hd1 : ¬ (a + 1 = d) := by omega
              have hq1 : ¬ (a : Int) < (d : Int) := by omega
              have hq2 : ((a : Int) == (d : Int) - 1) = false := by simp; omega
              cases has
              · go_wp2_with (fail)
                go_roundw
                case rel => exact ⟨k + 1, by omega, by go_num, congrArg (Value.int .i64) (by rw [HSUM.out]; simp [hd0, hd1] <;> omega), BB.out⟩
                case measure => simp [intOf]; omega
              · go_wp2_with (fail)
                go_roundw
                case rel => exact ⟨k + 1, by omega, by go_num, congrArg (Value.int .i64) (by rw [HSUM.out]; simp [hd0, hd1] <;> omega), BB.out⟩
                case measure => simp [intOf]; omega
            · have hd0 : a < d := h3.1
              have hd1 : ¬ (a + 1 = d) := by omega
              have hq1 : (a : Int) < (d : Int) := by omega
              have hq2 : ((a : Int) == (d : Int) - 1) = false := by simp; omega
              cases has
              · go_wp2_with (fail)
                go_roundw
                case rel => exact ⟨k + 1, by omega, by go_num, congrArg (Value.int .i64) (by rw [HSUM.out]; simp [hd0, hd1] <;> omega), BB.out⟩
                case measure => simp [intOf]; omega
              · go_wp2_with (fail)
                go_roundw
                case rel => exact ⟨k + 1, by omega, by go_num, congrArg (Value.int .i64) (by rw [HSUM.out]; simp [hd0, hd1] <;> omega), BB.out⟩
                case measure => simp [intOf]; omega
            · have hd0 : a < d := by omega
              have hd1 : a + 1 = d := h3
              have hq1 : (a : Int) < (d : Int) := by omega
              have hq2 : ((a : Int) == (d : Int) - 1) = true := by simp; omega
              cases has <;> cases tb
              · go_wp2_with (fail)
                go_roundw
                case rel => exact ⟨k + 1, by omega, by go_num, congrArg (Value.int .i64) (by rw [HSUM.out]; simp [hd0, hd1] <;> omega), BB.out⟩
                case measure => simp [intOf]; omega
              · go_wp2_with (fail)
                go_roundw
                case rel => exact ⟨k + 1, by omega, by go_num, congrArg (Value.int .i64) (by rw [HSUM.out]; simp [hd0, hd1] <;> omega), BB.out⟩
                case measure => simp [intOf]; omega
              · go_wp2_with (fail)
                go_roundw
                case rel => exact ⟨k + 1, by omega, by go_num, congrArg (Value.int .i64) (by rw [HSUM.out]; simp [hd0, hd1] <;> omega), BB.out⟩
                case measure => simp [intOf]; omega
              · go_wp2_with (fail)
                go_roundw
                case rel => exact ⟨k + 1, by omega, by go_num, congrArg (Value.int .i64) (by rw [HSUM.out]; simp [hd0, hd1] <;> omega), BB.out⟩
                case measure => simp [intOf]; omega
          · have e : k = r.cells.length := by omega
            subst e
            have HW0 : Hid (n ≠ 0 → sumI (westT r w0 d x) r.cells.length = 0) := HWZ
            obtain ⟨S, hS⟩ : ∃ S, sumI (westT r w0 d x) r.cells.length = S := ⟨_, rfl⟩
            rw [hS] at HW0 ⊢
            clear hS
            obtain ⟨N, hN⟩ : ∃ N, ((c0 : Nat) : Int) = N := ⟨_, rfl⟩
            have hNn : N = n := by rw [← hN]; exact HM.out
            rw [hN]
            clear hN
            subst hNn
            have hNN : (N == N) = true := by simp
            by_cases h0 : N = 0
            · subst h0
              go_wp2_with (fail)
              go_ret
              exact ⟨rfl, BW2.out⟩
            · have hS0 := HW0.out h0
              subst hS0
              have h0' : (N == 0) = false := by simpa using h0
              go_wp2_with (fail)
              go_ret
              exact ⟨rfl, BW2.out⟩
end Go.Proofs.Ytbjenmfoblniaaa
