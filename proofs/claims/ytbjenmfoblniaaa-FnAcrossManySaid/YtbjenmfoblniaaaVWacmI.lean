/- Walks: lined, AcrossSum, AcrossMany of the program. -/
import Derived.Test.YtbjenmfoblniaaaZe
import Derived.Test.YtbjenmfoblniaaaVWacross
import Derived.Test.YtbjenmfoblniaaaVWtilsC
import Derived.Test.YtbjenmfoblniaaaVWcntB
import Derived.Test.YtbjenmfoblniaaaVLil
set_option linter.unusedVariables false
namespace Go.Proofs.Ytbjenmfoblniaaa
open Go.RowKit Domi

theorem in9_is (n lo hi : Int) (w : World) (b : Bool) (h : inB n lo hi = b) : Calls Try.prog 67 #[.int .i64 n, .int .i64 lo, .int .i64 hi] w fun e w' => e = .returned (.bool b) ∧ w = w' := by rw [← h]; exact in_any n lo hi w
theorem valid9_is (v : Value) (r : Reg) (w : World) (h : RegV w v r) (b : Bool) (hb : r.valid = b) : Calls Try.prog 26 #[v] w (Ret (.bool b) w) := by rw [← hb]; exact RegionValid_any v r w h
/-- Is there a line? -/
def linedB (r : Reg) (c : Int) : Bool := r.valid && inB c 1 (r.wide - 1)
set_option maxHeartbeats 1000000 in
theorem lined_is (v : Value) (r : Reg) (c : Int) (w : World) (h : RegV w v r) (b : Bool) (hb0 : linedB r c = b) : Calls Try.prog 88 #[v, .int .i64 c] w (Ret (.bool b) w) := by
  obtain ⟨a, cap, rfl, hs, hlc, hcm⟩ := h.opened
  have R := Lib.hid (RB.new hs)
  have B0 := Lib.hid (below_alloc w (.cells #[.int .i64 r.wide, .int .i64 r.tall, .slice a r.cells.length cap] 29))
  have HB := Lib.hid hb0
  clear h hs hb0
  go_enter Try.func88, Try.ntmps88
  go_wp2_with (fail)
  cases hv : r.valid
  · refine (valid9_is _ r _ R.out.v false hv).mono ?_
    rintro e w1 ⟨rfl, hb⟩
    have B1 := Lib.hid (B0.out.trans (hb.mono B0.out.size))
    have E : Hid (b = false) := Lib.hid (by rw [← HB.out]; unfold linedB; rw [hv]; rfl)
    clear hb
    go_wp2
    go_ret
    exact ⟨ret_bool E.out.symm, B1.out⟩
  · refine (valid9_is _ r _ R.out.v true hv).mono ?_
    rintro e w1 ⟨rfl, hb⟩
    have B1 := Lib.hid (B0.out.trans (hb.mono B0.out.size))
    have R1 := Lib.hid (R.out.on hb)
    have E : Hid (inB c 1 (r.wide - 1) = b) := Lib.hid (by rw [← HB.out]; unfold linedB; rw [hv]; rfl)
    have hw := (Reg.valid_iff.1 hv).1
    have wsb : IntKind.i64.wrap (r.wide - 1) = r.wide - 1 := IntWalk.i64_in _ (by omega)
    clear hb R
    obtain ⟨x0, x1, x2⟩ := R1.out.c3
    go_wp2_with (fail)
    refine (in9_is _ _ _ _ b E.out).mono ?_
    rintro e w2 ⟨rfl, rfl⟩
    go_wp2
    go_ret
    exact ⟨rfl, B1.out⟩
set_option maxHeartbeats 1000000 in
theorem AcrossSum_any (v : Value) (r : Reg) (c : Int) (w : World) (h : RegV w v r) (n : Int) (hn : acSumR r c = n) : Calls Try.prog 48 #[v, .int .i64 c] w (Ret (.int .i64 n) w) := by
  obtain ⟨a, cap, rfl, hs, hlc, hcm⟩ := h.opened
  have R := Lib.hid (RB.new hs)
  have B0 := Lib.hid (below_alloc w (.cells #[.int .i64 r.wide, .int .i64 r.tall, .slice a r.cells.length cap] 29))
  have HN := Lib.hid hn
  clear h hs hn
  go_enter Try.func48, Try.ntmps48
  go_wp2_with (fail)
  cases hv : linedB r c
  · refine (lined_is _ r c _ R.out.v false hv).mono ?_
    rintro e w1 ⟨rfl, hb⟩
    have B1 := Lib.hid (B0.out.trans (hb.mono B0.out.size))
    have E : n = -1 := by rw [← HN.out]; unfold acSumR; unfold linedB at hv; rw [hv]; rfl
    subst E
    clear hb
    go_wp2
    go_ret
    exact ⟨rfl, B1.out⟩
  · refine (lined_is _ r c _ R.out.v true hv).mono ?_
    rintro e w1 ⟨rfl, hb⟩
    have B1 := Lib.hid (B0.out.trans (hb.mono B0.out.size))
    have R1 := Lib.hid (R.out.on hb)
    have hvv : r.valid = true := by unfold linedB at hv; rw [Bool.and_eq_true] at hv; exact hv.1
    have E : manyT r = n := by rw [← HN.out]; unfold acSumR; unfold linedB at hv; rw [hv]; rfl
    have HT : Hid (∀ v w, RegV w v r → Calls Try.prog 69 #[v] w (Ret (.int .i64 n) w)) := Lib.hid fun v w h => by rw [← E]; exact total_any v r w h hvv
    clear hb R E
    obtain ⟨x0, x1, x2⟩ := R1.out.c3
    go_wp2_with (fail)
    refine (HT.out _ _ R1.out.v).mono ?_
    rintro e w2 ⟨rfl, hb⟩
    have B2 := Lib.hid (B1.out.trans (hb.mono B1.out.size))
    clear hb x0 x1 x2
    go_wp2
    go_ret
    exact ⟨rfl, B2.out⟩
theorem filt_snoc (p : List Int → Bool) (T : List (List Int)) {k : Nat} (h : k < T.length) : ((T.take (k + 1)).filter p).length = ((T.take k).filter p).length + (if p (T.getD k []) then 1 else 0) := by
  rw [take_snoc T [] k h, List.filter_append, List.length_append]
  cases hp : p (T.getD k [])
  · simp only [List.filter, hp]; rfl
  · simp only [List.filter, hp]; rfl
theorem pow_in {t : Nat} (ht : t ≤ 6) : ∃ q : Nat, 2 ^ t = q ∧ (2 : Int) ^ t = (q : Int) ∧ 1 ≤ q ∧ q ≤ 64 := by
  refine ⟨2 ^ t, rfl, (Int.natCast_pow 2 t).symm, Nat.pos_of_ne_zero (by simp), ?_⟩
  exact Nat.pow_le_pow_right (n := 2) (i := t) (j := 6) (by omega) ht
set_option maxRecDepth 100000 in
set_option maxHeartbeats 2000000 in
theorem AcrossMany_any (v : Value) (r : Reg) (c s : Int) (w : World) (h : RegV w v r) (n : Int) (hn : acMany r c s = n) : Calls Try.prog 51 #[v, .int .i64 c, .int .i64 s] w (Ret (.int .i64 n) w) := by
  obtain ⟨a, cap, rfl, hs, hlc, hcm⟩ := h.opened
  have R := Lib.hid (RB.new hs)
  have B0 := Lib.hid (below_alloc w (.cells #[.int .i64 r.wide, .int .i64 r.tall, .slice a r.cells.length cap] 29))
  have HN := Lib.hid hn
  clear h hs hn
  go_enter Try.func51, Try.ntmps51
  go_wp2_with (fail)
  cases hv : linedB r c
  · refine (lined_is _ r c _ R.out.v false hv).mono ?_
    rintro e w1 ⟨rfl, hb⟩
    have B1 := Lib.hid (B0.out.trans (hb.mono B0.out.size))
    have E : n = -1 := by rw [← HN.out]; unfold acMany; unfold linedB at hv; rw [hv]; rfl
    subst E
    clear hb
    go_wp2
    go_ret
    exact ⟨rfl, B1.out⟩
  · refine (lined_is _ r c _ R.out.v true hv).mono ?_
    rintro e w1 ⟨rfl, hb⟩
    have B1 := Lib.hid (B0.out.trans (hb.mono B0.out.size))
    have R1 := Lib.hid (R.out.on hb)
    unfold linedB at hv
    rw [Bool.and_eq_true] at hv
    obtain ⟨hvv, hcc⟩ := hv
    have HV := Lib.hid hvv
    have F := fld_of hvv
    obtain ⟨w0, hw0⟩ : ∃ x, r.wide.toNat = x := ⟨_, rfl⟩
    obtain ⟨t, ht⟩ : ∃ x, r.tall.toNat = x := ⟨_, rfl⟩
    rw [hw0, ht] at F
    have hF := Lib.hid F
    have hFw := F.hw
    have hFt := F.ht
    have ht6 := F.t6
    have hw6 := F.w6
    have hc := inB_iff.1 hcc
    rw [hFw] at hc
    obtain ⟨d, rfl⟩ : ∃ d : Nat, c = (d : Int) := ⟨c.toNat, by omega⟩
    obtain ⟨q, hq0, hq1, hq2, hq3⟩ := pow_in ht6
    have wq : IntKind.i64.wrap ((q : Int) - 1) = (q : Int) - 1 := IntWalk.i64_in _ (by omega)
    have wq1 : IntKind.i64.wrap (q : Int) = (q : Int) := IntWalk.i64_in _ (by omega)
    obtain ⟨b2, hb2⟩ : ∃ b, inB s 0 ((q : Int) - 1) = b := ⟨_, rfl⟩
    have HB2 := Lib.hid hb2
    have E : Hid ((if b2 then (acCount r d s.toNat : Int) else -1) = n) := Lib.hid (by
      rw [← HN.out]; unfold acMany; rw [hvv, hcc, ht, hq1, hb2]; rfl)
    clear hb R hb2 hvv hcc F hw0
    obtain ⟨x0, x1, x2⟩ := R1.out.c3
    rw [hFt] at x1
    clear hFt hFw
    go_wp2_with (fail)
    refine (in9_is _ _ _ _ b2 HB2.out).mono ?_
    rintro e w' ⟨rfl, rfl⟩
    cases b2
    · have E2 : n = -1 := E.out.symm
      subst E2
      go_wp2
      go_ret
      exact ⟨rfl, B1.out⟩
    have hs2 := inB_iff.1 HB2.out
    obtain ⟨u, rfl⟩ : ∃ u : Nat, s = (u : Int) := ⟨s.toNat, by omega⟩
    have E2 : Hid (((acCount r d u : Nat) : Int) = n) := Lib.hid E.out
    clear E hs2 HN x0 x1 x2
    obtain ⟨x0, x1, x2⟩ := R1.out.c3
    go_wp2_with (fail)
    refine (tilings_any _ r _ R1.out.v HV.out).mono ?_
    have HTl : Hid (∀ k, k < (tilsR r).length → ((tilsR r).getD k []).length = r.cells.length) := Lib.hid fun k hk => by
      have : (tilsR r).getD k [] ∈ tilsR r := by rw [← Domi.get_at _ _ _ hk]; exact List.getElem_mem hk
      exact (laidOk_iff.1 (tilingOk_iff.1 (mem_tilsR'.1 this)).1).2.1
    have HCN : Hid (((tilsR r).filter fun T => decide (acrossN w0 T d t = u)).length = acCount r d u) := Lib.hid (by
      unfold acCount; rw [hF.out.hw, hF.out.ht]; rfl)
    have HBD := Lib.hid (manyT_bd HV.out)
    rw [manyT_yes HV.out] at HBD
    obtain ⟨T, hT⟩ : ∃ T, tilsR r = T := ⟨_, rfl⟩
    rw [hT] at HTl HCN HBD ⊢
    clear hT
    rintro e w6 ⟨v6, rfl, hv6, hb⟩
    have B2 := Lib.hid (B1.out.trans (hb.mono B1.out.size))
    have R2 := Lib.hid (R1.out.on hb)
    have A := Lib.hid hv6
    clear hv6 hb x0 x1 x2
    obtain ⟨za, zc, rfl, hz1, hz2, _⟩ := A.out.opened
    have hbd := HBD.out
    go_wp2_with (fail)
    go_loopw [7, 26] (fun m i wr => ∃ k : Nat, k ≤ T.length ∧ i = .int .i64 k ∧ m = .int .i64 (((((T.take k).filter fun T => decide (acrossN w0 T d t = u)).length : Nat)) : Int) ∧ Below w6.heap.size w6 wr) (fun _ i _ => T.length - (intOf i).toNat)
    case atStart => exact ⟨0, Nat.zero_le _, rfl, rfl, Below.refl _ _⟩
    case round =>
      obtain ⟨k, hk, rfl, rfl, hbw⟩ := hrel
      have HBW := Lib.hid hbw
      have R3 := Lib.hid (R2.out.on hbw)
      have A3 := Lib.hid (Ll.below A.out hbw)
      have B3 := Lib.hid (B2.out.trans (hbw.mono B2.out.size))
      clear hbw
      by_cases hlt : k < T.length
      · have hlt' : (k : Int) < (T.length : Int) := by omega
        have HSN := Lib.hid (filt_snoc (fun T => decide (acrossN w0 T d t = u)) T hlt)
        have hle := List.length_filter_le (fun T => decide (acrossN w0 T d t = u)) (T.take k)
        rw [List.length_take] at hle
        have hTk := Lib.hid (HTl.out k hlt)
        obtain ⟨Y, hY⟩ : ∃ Y, T.getD k [] = Y := ⟨_, rfl⟩
        obtain ⟨q', hq'⟩ : ∃ q, Y.length = q := ⟨_, rfl⟩
        obtain ⟨zb, zf, uu, qc, rfl, hzb, hcell, hqc, hil⟩ := ll_at A3.out hlt hY hq'
        have HIL := Lib.hid hil
        obtain ⟨m, hm⟩ : ∃ m, acrossN w0 Y d t = m := ⟨_, rfl⟩
        have HAC := Lib.hid (fun (v u : Value) (w : World) (h : RegV w v r) (hu : Il w u Y) => across_any v u r Y w0 t d w h hu hF.out (by have := hTk.out; rw [hY] at this; exact this) ⟨by omega, by omega⟩ m hm)
        rw [hY] at HSN
        have HM := Lib.hid hm
        clear hY hq' hil hm
        generalize ((T.take k).filter fun T => decide (acrossN w0 T d t = u)).length = c0 at *
        obtain ⟨x0, x1, x2⟩ := R3.out.c3
        go_wp2_with (fail)
        refine (HAC.out _ _ _ R3.out.v HIL.out).mono ?_
        rintro e w7 ⟨rfl, hb⟩
        have HB7 := Lib.hid (HBW.out.trans (hb.mono HBW.out.size))
        clear hb x0 x1 x2 hcell
        by_cases hmu : m = u
        · have he : ((m : Int) == (u : Int)) = true := by rw [hmu]; simp
          have HS2 : Hid (((T.take (k + 1)).filter fun T => decide (acrossN w0 T d t = u)).length = c0 + 1) := Lib.hid (by rw [HSN.out]; simp [HM.out, hmu])
          have wadd : IntKind.i64.wrap ((c0 : Int) + 1) = (c0 : Int) + 1 := IntWalk.i64_in _ (by omega)
          clear hmu
          go_wp2
          go_roundw
          case rel => exact ⟨k + 1, by omega, by go_num, by rw [HS2.out]; push_cast; rfl, HB7.out⟩
          case measure => simp [intOf]; omega
        · have he : ((m : Int) == (u : Int)) = false := by simp; omega
          have HS2 : Hid (((T.take (k + 1)).filter fun T => decide (acrossN w0 T d t = u)).length = c0) := Lib.hid (by rw [HSN.out]; simp [HM.out, hmu])
          clear hmu
          go_wp2
          go_roundw
          case rel => exact ⟨k + 1, by omega, by go_num, by rw [HS2.out], HB7.out⟩
          case measure => simp [intOf]; omega
      · have e : k = T.length := by omega
        subst e
        have EN : Hid (((((T.take T.length).filter fun T => decide (acrossN w0 T d t = u)).length : Nat) : Int) = n) := Lib.hid (by rw [List.take_length, HCN.out]; exact E2.out)
        generalize ((T.take T.length).filter fun T => decide (acrossN w0 T d t = u)).length = c0 at *
        go_wp2
        go_ret
        exact ⟨congrArg _ (congrArg _ EN.out), B3.out⟩
end Go.Proofs.Ytbjenmfoblniaaa
