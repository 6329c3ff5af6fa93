/- The law FnTilingOk: its walk. -/
import Derived.Test.YtcagpfnlpjfgeaaVDrawT
import Derived.Test.YtcagpfnlpjfgeaaVWtilsC
import Derived.Test.YtcagpfnlpjfgeaaVWtokS
import Derived.Test.YtcagpfnlpjfgeaaVWmany
import Derived.Test.YtcagpfnlpjfgeaaVSame
import Derived.Test.YtcagpfnlpjfgeaaVWd
import Derived.Test.YtcagpfnlpjfgeaaVWg
import Derived.Test.YtcagpfnlpjfgeaaVLaw
import Derived.Test.YtcagpfnlpjfgeaaVLil
set_option linter.unusedVariables false
namespace Go.Proofs.Ytcagpfnlpjfgeaa
open Go.RowKit Domi

theorem hasT_snoc {T : List (List Int)} {L : List Int} {k : Nat} (hk : k < T.length) : (T.take (k + 1)).any (fun X => decide (X = L)) = ((T.take k).any (fun X => decide (X = L)) || decide (T.getD k [] = L)) := by
  rw [take_snoc T [] k hk]; simp
theorem sTilingOk_is (v u : Value) (r : Reg) (L : List Int) (w : World) (h : RegV w v r) (hu : Il w u L) (b : Bool) (hb : tilingOk r L = b) : Calls Try.prog 17 #[v, u] w (Ret (.bool b) w) := by rw [← hb]; exact sTilingOk_any v u r L w h hu
theorem tilingOk_is (v u : Value) (r : Reg) (L : List Int) (w : World) (h : RegV w v r) (hu : Il w u L) (b : Bool) (hb : tilingOk r L = b) : Calls Try.prog 16 #[v, u] w (Ret (.bool b) w) := by rw [← hb]; exact TilingOk_any v u r L w h hu
set_option maxRecDepth 100000 in
set_option maxHeartbeats 4000000 in
theorem FnTilingOk_walk (v : Value) (ys : List Int) (w : World) (h : Yl w v ys) (hr : ∀ i, i < ys.length → 0 ≤ ys.getD i 0 ∧ ys.getD i 0 ≤ 255) :
    Calls Try.prog 3 #[v] w (Ret (.bool true) w) := by
  have H := Lib.hid h
  have Hr := Lib.hid hr
  obtain ⟨a0, cap0, rfl, hlc0, hcm0, _⟩ := h.opened
  clear h hr
  by_cases hlen : (1048576 : Int) < (ys.length : Int)
  · go_enter Try.func3, Try.ntmps3
    go_wp2
    go_ret
    exact ⟨rfl, Below.refl _ _⟩
  go_enter Try.func3, Try.ntmps3
  go_wp2_with (fail)
  refine (DrawTilingOk_any _ ys w H.out Hr.out).mono ?_
  rintro e w1 ⟨v1, u1, r, L, rfl, hv1, hu1, hsm, hl37, hb1⟩
  obtain ⟨a1, cap1, rfl, hs1, _, _⟩ := hv1.opened
  obtain ⟨ua, uc, rfl, hul, hum, _⟩ := hu1.opened
  have R := RB.new hs1
  have U := hu1.below (below_alloc w1 (.cells #[.int .i64 r.wide, .int .i64 r.tall, .slice a1 r.cells.length cap1] 25))
  obtain ⟨W, hW⟩ : ∃ W, W = w1.alloc (.cells #[.int .i64 r.wide, .int .i64 r.tall, .slice a1 r.cells.length cap1] 25) := ⟨_, rfl⟩
  rw [← hW] at R U
  have R := Lib.hid R
  have U := Lib.hid U
  have BW := Lib.hid (show Below w.heap.size w W by rw [hW]; exact hb1.alloc hb1.size _)
  have hX : w1.heap.size < W.heap.size := by rw [hW]; simp
  clear hs1 hb1 hv1 hu1
  go_wp2_with (fail)
  rw [← hW]
  clear hW
  generalize w1.heap.size = X at *
  clear hX
  cases hb : tilingOk r L
  · obtain ⟨x0, x1, x2⟩ := R.out.c3
    have sX := R.out.lt
    go_wp2_with (fail)
    refine (tilingOk_is _ _ r L _ R.out.v U.out false hb).mono ?_
    rintro e w2 ⟨rfl, hc⟩
    have BW := Lib.hid (BW.out.trans (hc.mono BW.out.size))
    have R := Lib.hid (R.out.on hc)
    have U := Lib.hid (Sl.below U.out hc)
    clear hc
    clear x0 x1 x2 sX
    obtain ⟨x0, x1, x2⟩ := R.out.c3
    have sX := R.out.lt
    go_wp2_with (fail)
    refine (sTilingOk_is _ _ r L _ R.out.v U.out false hb).mono ?_
    rintro e w3 ⟨rfl, hc⟩
    have BW := Lib.hid (BW.out.trans (hc.mono BW.out.size))
    have R := Lib.hid (R.out.on hc)
    have U := Lib.hid (Sl.below U.out hc)
    clear hc
    clear x0 x1 x2 sX
    clear hb
    go_wp2_with (fail)
    refine (alive_any _).mono ?_
    rintro e w4 ⟨rfl, hb⟩
    have BW := Lib.hid (BW.out.trans (hb.mono BW.out.size))
    clear hb
    go_wp2
    go_ret
    exact ⟨rfl, BW.out⟩
  · obtain ⟨x0, x1, x2⟩ := R.out.c3
    have sX := R.out.lt
    go_wp2_with (fail)
    refine (tilingOk_is _ _ r L _ R.out.v U.out true hb).mono ?_
    rintro e w2 ⟨rfl, hc⟩
    have BW := Lib.hid (BW.out.trans (hc.mono BW.out.size))
    have R := Lib.hid (R.out.on hc)
    have U := Lib.hid (Sl.below U.out hc)
    clear hc
    clear x0 x1 x2 sX
    obtain ⟨x0, x1, x2⟩ := R.out.c3
    have sX := R.out.lt
    go_wp2_with (fail)
    refine (sTilingOk_is _ _ r L _ R.out.v U.out true hb).mono ?_
    rintro e w3 ⟨rfl, hc⟩
    have BW := Lib.hid (BW.out.trans (hc.mono BW.out.size))
    have R := Lib.hid (R.out.on hc)
    have U := Lib.hid (Sl.below U.out hc)
    clear hc
    clear x0 x1 x2 sX
    have HV := Lib.hid (laidOk_iff.1 (tilingOk_iff.1 hb).1).1
    have HM := Lib.hid (tiling_many hb)
    have HBl := Lib.hid (tiling_bal hb)
    have HLen := Lib.hid (tiling_len hb)
    have HIn := Lib.hid (mem_tilsR'.2 hb)
    have HC : Hid (r.many = 2 * laidMany r L) := Lib.hid (by rw [HM.out, Reg.many_yes HV.out])
    have hmb : -1 ≤ r.many ∧ r.many ≤ 24 := many_bd r
    rw [HC.out] at hmb
    clear hb
    obtain ⟨T, hT⟩ : ∃ T, tilsR r = T := ⟨_, rfl⟩
    have HT := Lib.hid hT
    clear hT
    obtain ⟨x0, x1, x2⟩ := R.out.c3
    have sX := R.out.lt
    go_wp2_with (fail)
    refine (TilingsAll_any _ r _ R.out.v).mono ?_
    rw [HT.out]
    rintro e w4 ⟨v4, rfl, hv4, hb⟩
    have BW := Lib.hid (BW.out.trans (hb.mono BW.out.size))
    have R := Lib.hid (R.out.on hb)
    have U := Lib.hid (Sl.below U.out hb)
    have A := Lib.hid hv4
    clear hv4
    clear hb
    clear x0 x1 x2 sX
    obtain ⟨za, zc, rfl, hz1, hz2, _⟩ := A.out.opened
    have HTl : Hid (∀ k, k < T.length → (T.getD k []).length = r.cells.length) := Lib.hid fun k hk => by
      have h1 : T.getD k [] ∈ tilsR r := by rw [HT.out, ← Domi.get_at _ _ _ hk]; exact List.getElem_mem hk
      exact tiling_len (mem_tilsR'.1 h1)
    go_wp2_with (fail)
    go_loopw [7, 8] (fun s i wr => ∃ (k : Nat) (c : Bool), k ≤ T.length ∧ i = .int .i64 k ∧ s = .bool c ∧ c = (T.take k).any (fun X => decide (X = L)) ∧ Below w4.heap.size w4 wr) (fun _ i _ => T.length - (intOf i).toNat)
    case atStart => exact ⟨0, false, Nat.zero_le _, rfl, rfl, rfl, Below.refl _ _⟩
    case round =>
      obtain ⟨k, c, hk, rfl, rfl, hcc, hbw⟩ := hrel
      have HBW := Lib.hid hbw
      have HCC := Lib.hid hcc
      have R1 := Lib.hid (R.out.on hbw)
      have U1 : Hid (Il wr _ L) := Lib.hid (Sl.below U.out hbw)
      have A1 := Lib.hid (Ll.below A.out hbw)
      have BW1 := Lib.hid (BW.out.trans (hbw.mono BW.out.size))
      clear hbw hcc
      by_cases hlt : k < T.length
      · have hlt' : (k : Int) < (T.length : Int) := by omega
        cases c
        · obtain ⟨zb, zo, ka, kc, hza, hzb, hzk, hkc, hkx⟩ := ll_at A1.out hlt rfl (HTl.out k hlt)
          subst hza
          have KX := Lib.hid hkx
          clear hkx
          go_wp2_with (fail)
          obtain ⟨c, hc⟩ : ∃ c, decide (T.getD k [] = L) = c := ⟨_, rfl⟩
          refine (sameInts_is _ _ (T.getD k []) L _ KX.out U1.out c hc).mono ?_
          rintro e w5 ⟨rfl, hb⟩
          have HB5 := Lib.hid (HBW.out.trans (hb.mono HBW.out.size))
          have HN : Hid (c = (T.take (k + 1)).any (fun X => decide (X = L))) := Lib.hid (by rw [hasT_snoc hlt, ← HCC.out, hc]; rfl)
          clear hb hc
          go_wp2
          go_roundw
          case rel => exact ⟨k + 1, c, by omega, by go_num, rfl, HN.out, HB5.out⟩
          case measure => simp [intOf]; omega
        · have HN : Hid (true = (T.take (k + 1)).any (fun X => decide (X = L))) := Lib.hid (by rw [hasT_snoc hlt, ← HCC.out]; rfl)
          go_wp2
          go_roundw
          case rel => exact ⟨k + 1, true, by omega, by go_num, rfl, HN.out, HBW.out⟩
          case measure => simp [intOf]; omega
      · have hct : c = true := by
          rw [HCC.out, show T.take k = T from List.take_of_length_le (by omega), List.any_eq_true]
          exact ⟨L, by have := HIn.out; rw [HT.out] at this; exact this, by simp⟩
        clear HCC
        subst hct
        obtain ⟨x0, x1, x2⟩ := R1.out.c3
        have sX := R1.out.lt
        have hLc : ∀ (K : Later wr) (b o : Nat), b < wr.heap.size → K.x.cell? ⟨b, o, none⟩ = wr.cell? ⟨b, o, none⟩ := Later.cell
        have RT : Hid (∀ K : Later wr, RegV K.x (.agg #[.int .i64 r.wide, .int .i64 r.tall, .slice a1 r.cells.length cap1]) r) := Lib.hid fun K => (R1.out.on K.h).v
        have C1 := Lib.hid (fun (K : Later wr) => Balanced_is _ r _ (RT.out K) true HBl.out)
        have HLM := fun (K : Later wr) => LaidMany_any _ _ r L K.x (RT.out K) (Sl.below U1.out K.h)
        have HCM := fun (K : Later wr) => CellsMany_any _ r K.x (RT.out K)
        rw [HC.out] at HCM
        have HLM := Lib.hid HLM
        have HCM := Lib.hid HCM
        generalize laidMany r L = m at *
        have wm : IntKind.i64.wrap (2 * m) = 2 * m := IntWalk.i64_in _ (by omega)
        have hmm : (2 * m == 2 * m) = true := by simp
        go_wp2_with (fail)
        refine wp_region_later_all (by kernel_rfl) (by kernel_rfl) ?_
        repeat (go_big_quiet_step (fail))
        go_big_quiet_step (with_reducible exact calls_later _ (C1.out _))
        repeat (go_big_quiet_step (fail))
        go_big_quiet_step (with_reducible exact calls_later _ (HLM.out _))
        repeat (go_big_quiet_step (fail))
        go_big_quiet_step (with_reducible exact calls_later _ (HCM.out _))
        repeat (go_big_quiet_step (fail))
        refine wpQuiet_nil ?_
        intro K
        have BW6 := Lib.hid (BW1.out.trans (K.h.mono BW1.out.size))
        clear hLc x0 x1 x2 sX
        go_wp2
        go_ret
        exact ⟨rfl, BW6.out⟩
end Go.Proofs.Ytcagpfnlpjfgeaa
