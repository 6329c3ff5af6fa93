/- Walks: FlipLines on both sides. -/
import Derived.Test.YtcagpfnlpjfgeaaVWflipD
import Derived.Test.YtcagpfnlpjfgeaaVWtilsC
import Derived.Test.YtcagpfnlpjfgeaaVWtilsS
import Derived.Test.YtcagpfnlpjfgeaaVLil
import Derived.Test.YtcagpfnlpjfgeaaVWg
import Derived.Test.YtcagpfnlpjfgeaaZb
set_option linter.unusedVariables false
namespace Go.Proofs.Ytcagpfnlpjfgeaa
open Go.RowKit Domi

/-- How many flips the first k lists have together. -/
def sumT (r : Reg) (T : List (List Int)) : Nat → Nat
  | 0 => 0
  | k + 1 => sumT r T k + (flipsOf r (T.getD k [])).length
theorem sumT_le (r : Reg) (T : List (List Int)) (k : Nat) : sumT r T k ≤ 49 * k := by
  induction k with
  | zero => exact Nat.le_refl _
  | succ k ih => unfold sumT; have := flipsOf_len r (T.getD k []); omega
def smallB (r : Reg) : Bool := r.valid && decide (cnt r.cells ≤ 16)
def flipLines (r : Reg) : Int := if smallB r then ((sumT r (tilsR r) (tilsR r).length : Nat) : Int) / 2 else -1
theorem flipLines_no {r : Reg} (h : smallB r = false) : flipLines r = -1 := by unfold flipLines; rw [h]; rfl
theorem flipLines_yes {r : Reg} (h : smallB r = true) : flipLines r = ((sumT r (tilsR r) (tilsR r).length : Nat) : Int) / 2 := by unfold flipLines; rw [if_pos h]
theorem tilsR_at {r : Reg} {k : Nat} (hk : k < (tilsR r).length) : tilingOk r ((tilsR r).getD k []) = true := by
  refine mem_tilsR'.1 ?_
  rw [← Domi.get_at _ _ _ hk]; exact List.getElem_mem hk
set_option maxHeartbeats 1000000 in
theorem small_any (v : Value) (r : Reg) (w : World) (h : RegV w v r) (b : Bool) (hb0 : smallB r = b) : Calls Try.prog 100 #[v] w (Ret (.bool b) w) := by
  obtain ⟨a, cap, rfl, hs, hlc, hcm⟩ := h.opened
  have R0 := Lib.hid (RB.new hs)
  have B0 := Lib.hid (below_alloc w (.cells #[.int .i64 r.wide, .int .i64 r.tall, .slice a r.cells.length cap] 25))
  have HB := Lib.hid hb0
  clear h hs hb0
  go_enter Try.func100, Try.ntmps100
  go_wp2_with (fail)
  cases hv : r.valid
  · refine (RegionValid_is _ r _ R0.out.v false hv).mono ?_
    rintro e w1 ⟨rfl, hb⟩
    have B1 := Lib.hid (B0.out.trans (hb.mono B0.out.size))
    have E : Hid (b = false) := Lib.hid (by rw [← HB.out]; unfold smallB; rw [hv]; rfl)
    clear hb
    go_wp2
    go_ret
    exact ⟨ret_bool E.out.symm, B1.out⟩
  · refine (RegionValid_is _ r _ R0.out.v true hv).mono ?_
    rintro e w1 ⟨rfl, hb⟩
    have B1 := Lib.hid (B0.out.trans (hb.mono B0.out.size))
    have R1 := Lib.hid (R0.out.on hb)
    have E : Hid (b = decide (cnt r.cells ≤ 16)) := Lib.hid (by rw [← HB.out]; unfold smallB; rw [hv]; rfl)
    clear hb R0
    obtain ⟨x0, x1, x2⟩ := R1.out.c3
    go_wp2_with (fail)
    refine (many_any _ r.cells _ R1.out.bl).mono ?_
    rintro e w2 ⟨rfl, rfl⟩
    clear R1 x0 x1 x2 HB
    generalize cnt r.cells = c at *
    by_cases hc : c ≤ 16
    · have G : Hid (b = true) := Lib.hid (by rw [E.out]; exact decide_eq_true hc)
      go_wp2
      go_ret
      exact ⟨ret_bool G.out.symm, B1.out⟩
    · go_wp2
      go_ret
      exact ⟨ret_bool E.out.symm, B1.out⟩
set_option maxRecDepth 100000 in
set_option maxHeartbeats 4000000 in
theorem FlipLines_any (v : Value) (r : Reg) (w : World) (h : RegV w v r) (b : Int) (hb0 : flipLines r = b) : Calls Try.prog 59 #[v] w (Ret (.int .i64 b) w) := by
  obtain ⟨a, cap, rfl, hs, hlc, hcm⟩ := h.opened
  have R0 := Lib.hid (RB.new hs)
  have B0 := Lib.hid (below_alloc w (.cells #[.int .i64 r.wide, .int .i64 r.tall, .slice a r.cells.length cap] 25))
  have HB := Lib.hid hb0
  clear h hs hb0
  go_enter Try.func59, Try.ntmps59
  go_wp2_with (fail)
  cases hk : smallB r
  · refine (small_any _ r _ R0.out.v false hk).mono ?_
    rintro e w1 ⟨rfl, hb⟩
    have B1 := Lib.hid (B0.out.trans (hb.mono B0.out.size))
    have E : Hid (b = -1) := Lib.hid (by rw [← HB.out, flipLines_no hk])
    clear hb
    go_wp2
    go_ret
    exact ⟨ret_int E.out.symm, B1.out⟩
  refine (small_any _ r _ R0.out.v true hk).mono ?_
  rintro e w1 ⟨rfl, hb⟩
  have B1 := Lib.hid (B0.out.trans (hb.mono B0.out.size))
  have R1 := Lib.hid (R0.out.on hb)
  have hv : r.valid = true := by unfold smallB at hk; simp at hk; exact hk.1
  have HE : Hid (b = ((sumT r (tilsR r) (tilsR r).length : Nat) : Int) / 2) := Lib.hid (by rw [← HB.out, flipLines_yes hk])
  have HT : Hid (∀ k, k < (tilsR r).length → laidOk r ((tilsR r).getD k []) = true) := Lib.hid fun k hk => (tilingOk_iff.1 (tilsR_at hk)).1
  have hTl := tilsR_len r
  clear hb R0 HB hk
  obtain ⟨x0, x1, x2⟩ := R1.out.c3
  go_wp2_with (fail)
  refine (tilings_any _ r _ R1.out.v hv).mono ?_
  obtain ⟨T, hT⟩ : ∃ T, tilsR r = T := ⟨_, rfl⟩
  rw [hT] at HE HT hTl ⊢
  clear hT
  rintro e w2 ⟨v2, rfl, hl, hb⟩
  have R2 := Lib.hid (R1.out.on hb)
  have B2 := Lib.hid (B1.out.trans (hb.mono B1.out.size))
  obtain ⟨ta, tc, rfl, ht1, ht2, _⟩ := hl.opened
  have A := Lib.hid hl
  clear hb hl R1 x0 x1 x2
  go_wp2_with (fail)
  go_loopw [3, 12] (fun s i wr => ∃ (k : Nat) (x : Nat), k ≤ T.length ∧ i = .int .i64 k ∧ s = .int .i64 x ∧ Hid (x = sumT r T k) ∧ Below w2.heap.size w2 wr) (fun _ i _ => T.length - (intOf i).toNat)
  case atStart => exact ⟨0, 0, Nat.zero_le _, rfl, rfl, Lib.hid rfl, Below.refl _ _⟩
  case round =>
    obtain ⟨k, x, hk, rfl, rfl, HX, hbw⟩ := hrel
    have HBW := Lib.hid hbw
    have R3 := Lib.hid (R2.out.on hbw)
    have A3 := Lib.hid (Ll.below A.out hbw)
    have hx : x ≤ 49 * k := by rw [HX.out]; exact sumT_le r T k
    clear hbw
    by_cases hlt : k < T.length
    · have hlt' : (k : Int) < (T.length : Int) := by omega
      have hL := HT.out k hlt
      have NX := Lib.hid (show sumT r T (k + 1) = x + (flipsL r (T.getD k [])).length by unfold sumT flipsOf; rw [if_pos hL, HX.out])
      obtain ⟨X, hX⟩ : ∃ X, T.getD k [] = X := ⟨_, rfl⟩
      rw [hX] at NX hL
      obtain ⟨m, hm⟩ : ∃ m, X.length = m := ⟨_, rfl⟩
      obtain ⟨tb, tf, u, q, rfl, htb, hcell, hq, hil⟩ := ll_at A3.out hlt hX hm
      have HIL := Lib.hid hil
      have HLo := Lib.hid hL
      have hfl := flipsL_len hv X
      clear hil hX hm hL HX
      obtain ⟨x0, x1, x2⟩ := R3.out.c3
      go_wp2_with (fail)
      refine (flips_any _ _ r X _ R3.out.v HIL.out hv (laidOk_iff.1 HLo.out).2.1).mono ?_
      rintro e w4 ⟨v4, rfl, ho, hb⟩
      have B4 := Lib.hid (HBW.out.trans (hb.mono HBW.out.size))
      obtain ⟨fa, fc, rfl⟩ := ho.formM
      clear hb ho x0 x1 x2 hcell
      generalize (flipsL r X).length = y at *
      go_wp2
      go_roundw
      case rel => exact ⟨k + 1, x + y, by omega, by go_num, by go_num, Lib.hid NX.out.symm, B4.out⟩
      case measure => simp [intOf]; omega
    · have e : k = T.length := by omega
      subst e
      have E : Hid (b = (x : Int) / 2) := Lib.hid (by rw [HE.out, HX.out])
      clear HE HX
      have BW := Lib.hid (B2.out.trans (HBW.out.mono B2.out.size))
      go_wp2
      go_ret
      refine ⟨ret_int ?_, BW.out⟩
      rw [E.out]
set_option maxRecDepth 100000 in
set_option maxHeartbeats 4000000 in
theorem sFlipLines_any (v : Value) (r : Reg) (w : World) (h : RegV w v r) (b : Int) (hb0 : flipLines r = b) : Calls Try.prog 58 #[v] w (Ret (.int .i64 b) w) := by
  obtain ⟨a, cap, rfl, hs, hlc, hcm⟩ := h.opened
  have R0 := Lib.hid (RB.new hs)
  have B0 := Lib.hid (below_alloc w (.cells #[.int .i64 r.wide, .int .i64 r.tall, .slice a r.cells.length cap] 25))
  have HB := Lib.hid hb0
  clear h hs hb0
  go_enter Try.func58, Try.ntmps58
  go_wp2_with (fail)
  cases hv : r.valid
  · refine (sRegionValid_is _ r _ R0.out.v false hv).mono ?_
    rintro e w1 ⟨rfl, hb⟩
    have B1 := Lib.hid (B0.out.trans (hb.mono B0.out.size))
    have E : Hid (b = -1) := Lib.hid (by rw [← HB.out, flipLines_no (by unfold smallB; rw [hv]; rfl)])
    clear hb
    go_wp2
    go_ret
    exact ⟨ret_int E.out.symm, B1.out⟩
  refine (sRegionValid_is _ r _ R0.out.v true hv).mono ?_
  rintro e w1 ⟨rfl, hb⟩
  have B1 := Lib.hid (B0.out.trans (hb.mono B0.out.size))
  have R1 := Lib.hid (R0.out.on hb)
  have HS : Hid (smallB r = decide (cnt r.cells ≤ 16)) := Lib.hid (by unfold smallB; rw [hv]; rfl)
  clear hb R0
  obtain ⟨x0, x1, x2⟩ := R1.out.c3
  go_wp2_with (fail)
  refine (sCellsMany_any _ r _ R1.out.v hv).mono ?_
  rintro e w2 ⟨rfl, hb⟩
  have B2 := Lib.hid (B1.out.trans (hb.mono B1.out.size))
  have R2 := Lib.hid (R1.out.on hb)
  clear hb R1 x0 x1 x2
  by_cases h16 : (16 : Int) < cnt r.cells
  · have E : Hid (b = -1) := Lib.hid (by rw [← HB.out, flipLines_no (by rw [HS.out]; exact decide_eq_false (by omega))])
    generalize cnt r.cells = c at *
    go_wp2
    go_ret
    exact ⟨ret_int E.out.symm, B2.out⟩
  have hk : smallB r = true := by rw [HS.out]; exact decide_eq_true (by omega)
  have HE : Hid (b = ((sumT r (tilsR r) (tilsR r).length : Nat) : Int) / 2) := Lib.hid (by rw [← HB.out, flipLines_yes hk])
  have hTl := tilsR_len r
  clear HB hk HS
  generalize cnt r.cells = c at *
  obtain ⟨x0, x1, x2⟩ := R2.out.c3
  go_wp2_with (fail)
  refine (sTilingsAll_any _ r _ R2.out.v).mono ?_
  obtain ⟨T, hT⟩ : ∃ T, tilsR r = T := ⟨_, rfl⟩
  rw [hT] at HE hTl ⊢
  clear hT
  rintro e w3 ⟨v3, rfl, hl, hb⟩
  have R3 := Lib.hid (R2.out.on hb)
  have B3 := Lib.hid (B2.out.trans (hb.mono B2.out.size))
  obtain ⟨ta, tc, rfl, ht1, ht2, _⟩ := hl.ll.opened
  have A := Lib.hid hl.ll
  clear hb hl R2 x0 x1 x2
  go_wp2_with (fail)
  go_loopw [3, 5] (fun s i wr => ∃ (k : Nat) (x : Nat), k ≤ T.length ∧ i = .int .i64 k ∧ s = .int .i64 x ∧ Hid (x = sumT r T k) ∧ Below w3.heap.size w3 wr) (fun _ i _ => T.length - (intOf i).toNat)
  case atStart => exact ⟨0, 0, Nat.zero_le _, rfl, rfl, Lib.hid rfl, Below.refl _ _⟩
  case round =>
    obtain ⟨k, x, hk, rfl, rfl, HX, hbw⟩ := hrel
    have HBW := Lib.hid hbw
    have R4 := Lib.hid (R3.out.on hbw)
    have A4 := Lib.hid (Ll.below A.out hbw)
    have hx : x ≤ 49 * k := by rw [HX.out]; exact sumT_le r T k
    clear hbw
    by_cases hlt : k < T.length
    · have hlt' : (k : Int) < (T.length : Int) := by omega
      have NX := Lib.hid (show sumT r T (k + 1) = x + (flipsOf r (T.getD k [])).length by rw [HX.out]; rfl)
      obtain ⟨X, hX⟩ : ∃ X, T.getD k [] = X := ⟨_, rfl⟩
      rw [hX] at NX
      obtain ⟨m, hm⟩ : ∃ m, X.length = m := ⟨_, rfl⟩
      obtain ⟨tb, tf, u, q, rfl, htb, hcell, hq, hil⟩ := ll_at A4.out hlt hX hm
      have HIL := Lib.hid hil
      have hfl := flipsOf_len r X
      clear hil hX hm HX
      obtain ⟨x0, x1, x2⟩ := R4.out.c3
      have sX := R4.out.lt
      go_wp2_with (fail)
      go_region_held3 (fun w' => w'.cell? ⟨w.heap.size, 0, none⟩ = some (.int .i64 r.wide) ∧ w'.cell? ⟨w.heap.size, 1, none⟩ = some (.int .i64 r.tall) ∧ w'.cell? ⟨w.heap.size, 2, none⟩ = some (.slice a r.cells.length cap) ∧ w'.cell? ⟨tb, tf + k, none⟩ = some (.slice u m q))
        (first | go_keep | assumption | exact ⟨(cell_behind BY sX).trans x0, (cell_behind BY sX).trans x1, (cell_behind BY sX).trans x2, (cell_behind BY htb).trans hcell⟩)
        ((first | (go_at_call 49; refine (sFlipsOf_any _ _ r X _ (R4.out.on (Below.refl _ _).drew).v (HIL.out.below (Below.refl _ _).drew)).mono ?_; rintro e w6 ⟨v4, rfl, ho4, hb4⟩; (have BY : Below wr.heap.size wr w6 := (Below.refl _ _).drew.trans hb4); obtain ⟨fa, fc, rfl⟩ := ho4.formM; clear ho4 hb4)))
      have B4 := Lib.hid (HBW.out.trans (BY.mono HBW.out.size))
      clear BY x0 x1 x2 sX hcell
      generalize (flipsOf r X).length = y at *
      have hw : IntKind.i64.wrap ((x : Int) + (y : Int)) = ((x + y : Nat) : Int) := (IntWalk.i64_in _ (by omega)).trans (by omega)
      have HWR := Lib.hid hw
      clear hw
      go_wp2
      go_roundw
      case rel => exact ⟨k + 1, x + y, by omega, by go_num, congrArg (Value.int .i64) HWR.out, Lib.hid NX.out.symm, B4.out⟩
      case measure => simp [intOf]; omega
    · have e : k = T.length := by omega
      subst e
      have E : Hid (b = (x : Int) / 2) := Lib.hid (by rw [HE.out, HX.out])
      clear HE HX
      have BW := Lib.hid (B3.out.trans (HBW.out.mono B3.out.size))
      go_wp2
      go_ret
      refine ⟨ret_int ?_, BW.out⟩
      rw [E.out]
end Go.Proofs.Ytcagpfnlpjfgeaa
