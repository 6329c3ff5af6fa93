/- The law FnFlatMany: its walk. -/
import Derived.Test.YtcagpfnlpjfgeaaVDrawT
import Derived.Test.YtcagpfnlpjfgeaaVWtilsC
import Derived.Test.YtcagpfnlpjfgeaaVWmany
import Derived.Test.YtcagpfnlpjfgeaaVWmanyS
import Derived.Test.YtcagpfnlpjfgeaaVWcarry
import Derived.Test.YtcagpfnlpjfgeaaVWe
import Derived.Test.YtcagpfnlpjfgeaaVWd
import Derived.Test.YtcagpfnlpjfgeaaVWg
import Derived.Test.YtcagpfnlpjfgeaaVLaw
import Derived.Test.YtcagpfnlpjfgeaaVLil
set_option linter.unusedVariables false
namespace Go.Proofs.Ytcagpfnlpjfgeaa
open Go.RowKit Domi

theorem flat_no {r : Reg} {L : List Int} (h : laidOk r L = false) : flatMany r L = -1 := by unfold flatMany; rw [h]; rfl
theorem flat_bd {r : Reg} {L : List Int} (h : laidOk r L = true) : 0 ≤ flatMany r L ∧ flatMany r L ≤ 36 := by
  obtain ⟨hv, hlen, _⟩ := laidOk_iff.1 h
  obtain ⟨v1, v2, v3, _⟩ := Reg.valid_iff.1 hv
  have hA := area_in v1 v2
  have := wayN_le isEast L
  unfold flatMany; rw [if_pos h]; omega
theorem laid_bd {r : Reg} {L : List Int} (h : laidOk r L = true) : 0 ≤ laidMany r L ∧ laidMany r L ≤ 36 := by
  obtain ⟨hv, hlen, _⟩ := laidOk_iff.1 h
  obtain ⟨v1, v2, v3, _⟩ := Reg.valid_iff.1 hv
  have hA := area_in v1 v2
  have := wayN_le isLow L
  unfold laidMany; rw [if_pos h]; omega
theorem flat_turnR {r : Reg} {L : List Int} (h : laidOk r L = true) : flatMany r.turnR (turnLR r L) + flatMany r L = laidMany r L := by
  have e1 : r.turnR = r.turn := by unfold Reg.turnR; rw [if_pos (laidOk_iff.1 h).1]
  have e2 : turnLR r L = turnL r L := by unfold turnLR; rw [if_pos h]
  rw [e1, e2]; exact flat_turned h
theorem tilOk3_is (v u : Value) (r : Reg) (L : List Int) (w : World) (h : RegV w v r) (hu : Il w u L) (b : Bool) (hb : tilingOk r L = b) : Calls Try.prog 16 #[v, u] w (Ret (.bool b) w) := by rw [← hb]; exact TilingOk_any v u r L w h hu
theorem tmod_two {x : Int} (h : x % 2 = 0) : x.tmod 2 = 0 := by
  obtain ⟨y, rfl⟩ : ∃ y, x = 2 * y := ⟨x / 2, by omega⟩
  exact Int.mul_tmod_right 2 y
set_option maxRecDepth 100000 in
set_option maxHeartbeats 4000000 in
theorem FnFlatMany_walk (v : Value) (ys : List Int) (w : World) (h : Yl w v ys) (hr : ∀ i, i < ys.length → 0 ≤ ys.getD i 0 ∧ ys.getD i 0 ≤ 255) :
    Calls Try.prog 4 #[v] w (Ret (.bool true) w) := by
  have H := Lib.hid h
  have Hr := Lib.hid hr
  obtain ⟨a0, cap0, rfl, hlc0, hcm0, _⟩ := h.opened
  clear h hr
  by_cases hlen : (1048576 : Int) < (ys.length : Int)
  · go_enter Try.func4, Try.ntmps4
    go_wp2
    go_ret
    exact ⟨rfl, Below.refl _ _⟩
  go_enter Try.func4, Try.ntmps4
  go_wp2_with (fail)
  refine (DrawFlatMany_any _ ys w H.out Hr.out).mono ?_
  rintro e w1 ⟨v1, u1, r, L, rfl, hv1, hu1, hsm, hl37, hb1⟩
  obtain ⟨a1, cap1, rfl, hs1, _, _⟩ := hv1.opened
  obtain ⟨ua, uc, rfl, hul, hum, _⟩ := hu1.opened
  have R := RB.new hs1
  have U := hu1.below (below_alloc w1 (.cells #[.int .i64 r.wide, .int .i64 r.tall, .slice a1 r.cells.length cap1] 25))
  obtain ⟨W, hW⟩ : ∃ W, W = w1.alloc (.cells #[.int .i64 r.wide, .int .i64 r.tall, .slice a1 r.cells.length cap1] 25) := ⟨_, rfl⟩
  rw [← hW] at R U
  have R := Lib.hid R
  have U := Lib.hid U
  have BW := Lib.hid (show Below w.heap.size w W by rw [hW]; exact hb1.alloc hb1.size _)
  have hX : w1.heap.size < W.heap.size := by rw [hW]; simp
  clear hs1 hb1 hv1 hu1
  go_wp2_with (fail)
  rw [← hW]
  clear hW
  generalize w1.heap.size = X at *
  clear hX
  obtain ⟨n, hn⟩ : ∃ n, flatMany r L = n := ⟨_, rfl⟩
  have HI := fun (v u : Value) (w : World) (h : RegV w v r) (g : Il w u L) => FlatMany_any v u r L w h g
  have HS := fun (v u : Value) (w : World) (h : RegV w v r) (g : Il w u L) => sFlatMany_any v u r L w h g
  rw [hn] at HI HS
  have HI := Lib.hid HI
  have HS := Lib.hid HS
  have HN := Lib.hid hn
  have hnn : (n != n) = false := by simp
  clear hn
  obtain ⟨x0, x1, x2⟩ := R.out.c3
  go_wp2_with (fail)
  refine (HI.out _ _ _ R.out.v U.out).mono ?_
  rintro e w2 ⟨rfl, hb⟩
  have BW := Lib.hid (BW.out.trans (hb.mono BW.out.size))
  have R := Lib.hid (R.out.on hb)
  have U := Lib.hid (Sl.below U.out hb)
  clear hb x0 x1 x2
  obtain ⟨x0, x1, x2⟩ := R.out.c3
  go_wp2_with (fail)
  refine (HS.out _ _ _ R.out.v U.out).mono ?_
  rintro e w3 ⟨rfl, hb⟩
  have BW := Lib.hid (BW.out.trans (hb.mono BW.out.size))
  have R := Lib.hid (R.out.on hb)
  have U := Lib.hid (Sl.below U.out hb)
  clear hb x0 x1 x2
  cases hk : laidOk r L
  · have e1 : n = -1 := by rw [← HN.out, flat_no hk]
    clear HN hk HI HS
    subst e1
    go_wp2_with (fail)
    refine (alive_any _).mono ?_
    rintro e w5 ⟨rfl, hb⟩
    have BW := Lib.hid (BW.out.trans (hb.mono BW.out.size))
    clear hb
    go_wp2
    go_ret
    exact ⟨rfl, BW.out⟩
  have hb1 := flat_bd hk
  rw [HN.out] at hb1
  obtain ⟨m, hm⟩ : ∃ m, laidMany r L = m := ⟨_, rfl⟩
  obtain ⟨n', hn'⟩ : ∃ n', flatMany r.turnR (turnLR r L) = n' := ⟨_, rfl⟩
  have hmn := flat_turnR hk
  have hmb := laid_bd hk
  rw [hn', HN.out, hm] at hmn
  rw [hm] at hmb
  have HT := Lib.hid (fun (v u : Value) (w : World) (h : RegV w v r.turnR) (g : Il w u (turnLR r L)) => hn' ▸ FlatMany_any v u r.turnR (turnLR r L) w h g)
  have HM := Lib.hid (fun (v u : Value) (w : World) (h : RegV w v r) (g : Il w u L) => hm ▸ LaidMany_any v u r L w h g)
  have HEV : Hid (∀ T, tilingOk r L = true → tilingOk r T = true → (flatMany r T - n) % 2 = 0) := Lib.hid fun T h1 h2 => by rw [← HN.out]; exact flat_even h2 h1
  have hadd : n' + n = m := hmn
  have hmne : (m != m) = false := by simp
  have wadd : IntKind.i64.wrap (n' + n) = m := by rw [hadd]; exact IntWalk.i64_in _ (by omega)
  clear hn' hm HI HS hk
  obtain ⟨x0, x1, x2⟩ := R.out.c3
  have sX := R.out.lt
  go_wp2_with (fail)
  go_region_held3 (fun w' => w'.cell? ⟨X, 0, none⟩ = some (.int .i64 r.wide) ∧ w'.cell? ⟨X, 1, none⟩ = some (.int .i64 r.tall) ∧ w'.cell? ⟨X, 2, none⟩ = some (.slice a1 r.cells.length cap1))
    (first | with_reducible exact K3.out | with_reducible exact K2.out | with_reducible exact K1.out | (go_keep; done) | assumption)
    ((first
      | (go_at_call 25; refine (HT.out _ _ _ (V1.out.below (G2.out)) M2.out).mono ?_; rintro e y3 ⟨rfl, hb⟩; (have G3 := Lib.hid (G1.out.trans ((G2.out.trans (hb.mono G2.out.size)).mono G1.out.size))); (have K3 := Lib.hid (R.out.on G3.out).c3); clear hb)
      | (go_at_call 28; refine (TilingTurn_any _ _ r L _ (R.out.on G1.out).v (Sl.below U.out G1.out)).mono ?_; rintro e y2 ⟨m2, rfl, hm2, hb⟩; (have M2 := Lib.hid hm2); (have G2 := Lib.hid hb); (have K2 := Lib.hid (R.out.on (G1.out.trans (hb.mono G1.out.size))).c3); clear hb hm2)
      | (go_at_call 27; refine (RegionTurn_any _ r _ (R.out.on (Below.refl _ _).drew).v).mono ?_; rintro e y1 ⟨m1, rfl, hm1, hb⟩; (have V1 := Lib.hid hm1); (have G1 := Lib.hid ((Below.refl _ _).drew.trans hb : Below w3.heap.size w3 y1)); (have K1 := Lib.hid (R.out.on G1.out).c3); clear hb hm1)))
  have BW := Lib.hid (BW.out.trans (G3.out.mono BW.out.size))
  have R := Lib.hid (R.out.on G3.out)
  have U := Lib.hid (Sl.below U.out G3.out)
  clear x0 x1 x2 sX K1 K2 K3 G1 G2 G3 V1 M2 HT
  obtain ⟨x0, x1, x2⟩ := R.out.c3
  go_wp2_with (fail)
  refine (HM.out _ _ _ R.out.v U.out).mono ?_
  rintro e w5 ⟨rfl, hb⟩
  have BW := Lib.hid (BW.out.trans (hb.mono BW.out.size))
  have R := Lib.hid (R.out.on hb)
  have U := Lib.hid (Sl.below U.out hb)
  clear hb x0 x1 x2 HM
  obtain ⟨x0, x1, x2⟩ := R.out.c3
  have HTl : Hid (∀ k, k < (tilsR r).length → tilingOk r ((tilsR r).getD k []) = true) := Lib.hid fun k hk => by
    refine mem_tilsR'.1 ?_
    rw [← Domi.get_at _ _ _ hk]; exact List.getElem_mem hk
  go_wp2_with (fail)
  refine (TilingsAll_any _ r _ R.out.v).mono ?_
  obtain ⟨T, hT⟩ : ∃ T, tilsR r = T := ⟨_, rfl⟩
  rw [hT] at HTl ⊢
  clear hT
  rintro e w6 ⟨v6, rfl, hv6, hb⟩
  have BW := Lib.hid (BW.out.trans (hb.mono BW.out.size))
  have R := Lib.hid (R.out.on hb)
  have U := Lib.hid (Sl.below U.out hb)
  have A := Lib.hid hv6
  clear hv6 hb x0 x1 x2
  obtain ⟨za, zc, rfl, hz1, hz2, _⟩ := A.out.opened
  obtain ⟨tk, htk⟩ : ∃ b, tilingOk r L = b := ⟨_, rfl⟩
  rw [htk] at HEV
  have HK := Lib.hid htk
  clear htk hadd wadd hmne hmn hmb
  go_wp2_with (fail)
  go_loopw [8] (fun i wr => ∃ k : Nat, k ≤ T.length ∧ i = .int .i64 k ∧ Below w6.heap.size w6 wr) (fun i _ => T.length - (intOf i).toNat)
  case atStart => exact ⟨0, Nat.zero_le _, rfl, Below.refl _ _⟩
  case round =>
    obtain ⟨k, hk, rfl, hbw⟩ := hrel
    have HBW := Lib.hid hbw
    have R1 := Lib.hid (R.out.on hbw)
    have U1 : Hid (Il wr _ L) := Lib.hid (Sl.below U.out hbw)
    have A1 := Lib.hid (Ll.below A.out hbw)
    have BW1 := Lib.hid (BW.out.trans (hbw.mono BW.out.size))
    clear hbw
    by_cases hlt : k < T.length
    · have hlt' : (k : Int) < (T.length : Int) := by omega
      obtain ⟨x0, x1, x2⟩ := R1.out.c3
      go_wp2_with (fail)
      refine (tilOk3_is _ _ r L _ R1.out.v U1.out tk HK.out).mono ?_
      rintro e w7 ⟨rfl, hb⟩
      have HB7 := Lib.hid (HBW.out.trans (hb.mono HBW.out.size))
      have R2 := Lib.hid (R1.out.on hb)
      have A2 := Lib.hid (Ll.below A1.out hb)
      have BW2 := Lib.hid (BW1.out.trans (hb.mono BW1.out.size))
      clear hb x0 x1 x2
      cases tk
      · go_wp2
        go_ret
        exact ⟨rfl, BW2.out⟩
      · have hTk := HTl.out k hlt
        obtain ⟨Y, hY⟩ : ∃ Y, T.getD k [] = Y := ⟨_, rfl⟩
        obtain ⟨q, hq⟩ : ∃ q, Y.length = q := ⟨_, rfl⟩
        obtain ⟨zb, zf, u, qc, rfl, hzb, hcell, hqc, hil⟩ := ll_at A2.out hlt hY hq
        rw [hY] at hTk
        have hev := HEV.out Y (by first | trivial | rfl) hTk
        have hfb := flat_bd (tilingOk_iff.1 hTk).1
        have HIL := Lib.hid hil
        have RT : Hid (∀ K : Later w7, RegV K.x (.agg #[.int .i64 r.wide, .int .i64 r.tall, .slice a1 r.cells.length cap1]) r) := Lib.hid fun K => (R2.out.on K.h).v
        have C1 := fun (K : Later w7) => FlatMany_any _ _ r Y K.x (RT.out K) (Sl.below HIL.out K.h)
        obtain ⟨f, hf⟩ : ∃ f, flatMany r Y = f := ⟨_, rfl⟩
        rw [hf] at C1 hev hfb
        have C1 := Lib.hid C1
        clear hf hY hq hil hTk
        have ws : IntKind.i64.wrap (f - n) = f - n := IntWalk.i64_in _ (by omega)
        have ht := tmod_two hev
        have wt : IntKind.i64.wrap ((f - n).tmod 2) = 0 := by rw [ht]; exact IntWalk.i64_in _ (by omega)
        have h00 : ((0 : Int) != 0) = false := by decide
        obtain ⟨x0, x1, x2⟩ := R2.out.c3
        have sX := R2.out.lt
        have hLc : ∀ (K : Later w7) (b o : Nat), b < w7.heap.size → K.x.cell? ⟨b, o, none⟩ = w7.cell? ⟨b, o, none⟩ := Later.cell
        clear hev
        go_wp2_with (fail)
        refine wp_region_later_all (by kernel_rfl) (by kernel_rfl) ?_
        repeat (go_big_quiet_step (fail))
        go_big_quiet_step (with_reducible exact calls_later _ (C1.out _))
        repeat (go_big_quiet_step (fail))
        refine wpQuiet_nil ?_
        intro K
        have HB8 := Lib.hid (HB7.out.trans (K.h.mono HB7.out.size))
        clear hLc x0 x1 x2 sX hcell
        go_wp2
        go_roundw
        case rel => exact ⟨k + 1, by omega, by go_num, HB8.out⟩
        case measure => simp [intOf]; omega
    · go_wp2
      go_ret
      exact ⟨rfl, BW1.out⟩
end Go.Proofs.Ytcagpfnlpjfgeaa
