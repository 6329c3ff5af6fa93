/- Walks: LaidOk of the reference; lays and LaidOk of the program. -/
import Derived.Test.YtklifibiadiinaaDoorVWlay
set_option linter.unusedVariables false
namespace Go.Proofs.YtklifibiadiinaaDoor
open Go.RowKit Domi

theorem Il.pos {w : World} {u : Value} {L : List Int} (h : Il w u L) (hl : 0 < L.length) :
    ∃ b off cap, u = .slice (some ⟨b, off, none⟩) L.length cap ∧ b < w.heap.size ∧ (∀ w', Below w.heap.size w w' → ∀ i, i < L.length → w'.cell? ⟨b, off + i, none⟩ = some (.int .i64 (L.getD i 0))) ∧ L.length ≤ cap ∧ cap ≤ 9223372036854775807 := by
  obtain ⟨a, cap, rfl, h1, h2, h3⟩ := h.opened
  rcases h3 with rfl | ⟨b, off, rfl, hb, hc⟩
  · simp at hl
  · exact ⟨b, off, cap, rfl, hb, fun w' hw i hi => (hw.cell (p := ⟨b, off + i, none⟩) hb).trans (hc i hi), h1, h2⟩
theorem l2Step_is (v : Value) (r : Reg) (c way s : Int) (w : World) (h : RegV w v r) (hv : r.valid = true) (h0 : 0 ≤ c) (hl : c < r.wide * r.tall) (h1 : 1 ≤ way ∧ way ≤ 4) (hs : stepI r c way = s) :
    Calls Tryd.prog 54 #[v, .int .i64 c, .int .i64 way] w (Ret (.int .i64 s) w) := by rw [← hs]; exact l2Step_any v r c way w h hv h0 hl h1
theorem l2Back_is (way b : Int) (w : World) (h : 1 ≤ way ∧ way ≤ 4) (hb : backI way = b) : Calls Tryd.prog 55 #[.int .i64 way] w (Ret (.int .i64 b) w) := by rw [← hb]; exact l2Back_any way w h
theorem step_is (v : Value) (r : Reg) (c way s : Int) (w : World) (h : RegV w v r) (hv : r.valid = true) (h0 : 0 ≤ c) (hl : c < r.wide * r.tall) (hs : stepI r c way = s) :
    Calls Tryd.prog 56 #[v, .int .i64 c, .int .i64 way] w (Ret (.int .i64 s) w) := by rw [← hs]; exact step_any v r c way w h hv h0 hl
theorem back_is (way b : Int) (w : World) (h : 1 ≤ way ∧ way ≤ 4) (hb : backI way = b) : Calls Tryd.prog 57 #[.int .i64 way] w (Ret (.int .i64 b) w) := by rw [← hb]; exact back_any way w h
theorem sLaidOk_post {r : Reg} {L : List Int} {b : Bool} {w w' : World} (h : laidOk r L = b) (hb : Below w.heap.size w w') : Ret (.bool (laidOk r L)) w (.returned (.bool b)) w' := ⟨ret_bool h.symm, hb⟩

set_option maxRecDepth 100000 in
set_option maxHeartbeats 4000000 in
theorem sLaidOk_yes (v u : Value) (r : Reg) (L : List Int) (w : World) (h : RegV w v r) (hu : Il w u L) (hv : r.valid = true) :
    Calls Tryd.prog 28 #[v, u] w (Ret (.bool (laidOk r L)) w) := by
  obtain ⟨bb1, bb2, bb3, bb4⟩ := Reg.valid_iff.1 hv
  have hA := area_in bb1 bb2
  obtain ⟨a, cap, rfl, hs, hlc, hcm⟩ := h.opened
  obtain ⟨ua, uc, rfl, hul, hum, _⟩ := hu.opened
  have R0 := Lib.hid (RB.new hs)
  have B0 := Lib.hid (below_alloc w (.cells #[.int .i64 r.wide, .int .i64 r.tall, .slice a r.cells.length cap] 25))
  have HU := Lib.hid hu
  have hl36 : r.cells.length ≤ 36 := by omega
  have hl1 : 1 ≤ r.cells.length := by omega
  have HA := Lib.hid bb3
  clear h hs hu bb4 bb3
  by_cases hlen : L.length = r.cells.length
  · have hd : decide (L.length = r.cells.length) = true := by simpa using hlen
    have hne : ((L.length : Int) != (r.cells.length : Int)) = false := by simp [hlen]
    have heq : ((L.length : Int) == (r.cells.length : Int)) = true := by simp [hlen]
    have HLen := Lib.hid hlen
    have hL36 : L.length ≤ 36 := by omega
    have hL1 : 1 ≤ L.length := by omega
    go_enter Tryd.func28, Tryd.ntmps28
    go_wp2_with (fail)
    refine (sRegionValid_is _ r _ R0.out.v true hv).mono ?_
    rintro e w1 ⟨rfl, hb⟩
    have R1 := Lib.hid (R0.out.on hb)
    have HB := Lib.hid (B0.out.trans (hb.mono B0.out.size))
    have HU1 := Lib.hid (HU.out.below HB.out)
    obtain ⟨x0, x1, x2⟩ := R1.out.c3
    clear hb
    obtain ⟨ub, uo, uc', hue, hub, hucell, -, -⟩ := Il.pos HU1.out (by omega)
    obtain ⟨rfl, rfl⟩ : ua = some ⟨ub, uo, none⟩ ∧ uc = uc' := by simpa using hue
    obtain ⟨rb, ro, rcap, hre, -, hrb, hrcell, -, -, -, -, -, -, -⟩ := R1.out.v.valid_opened hv
    obtain ⟨rfl, rfl⟩ : a = some ⟨rb, ro, none⟩ ∧ cap = rcap := by simpa using hre
    have HUC := Lib.hid hucell
    have HRC := Lib.hid hrcell
    have sX := R1.out.lt
    clear hue hre hucell hrcell
    go_wp2_with (fail)
    clear hd hne heq hlen
    go_loopw [5] (fun i wr => ∃ k : Nat, k ≤ r.cells.length ∧ i = .int .i64 k ∧ (∀ j, j < k → okAt r L j = true) ∧ Below w1.heap.size w1 wr) (fun i _ => r.cells.length - (intOf i).toNat)
    case atStart => exact ⟨0, Nat.zero_le _, rfl, fun _ h => absurd h (by omega), by first | exact Below.refl _ _ | exact (Below.refl _ _).drew⟩
    case round =>
      clear x0 x1 x2
      obtain ⟨k, hk, rfl, hdone, hbw⟩ := hrel
      have HBW := Lib.hid hbw
      have HD := Lib.hid hdone
      have R2 := Lib.hid (R1.out.on hbw)
      have HBr := Lib.hid (HB.out.trans (hbw.mono HB.out.size))
      obtain ⟨x0, x1, x2⟩ := R2.out.c3
      have sr := hbw.size
      have hub2 : ub < wr.heap.size := by omega
      have hrb2 : rb < wr.heap.size := by omega
      have sX2 := R2.out.lt
      clear hdone
      by_cases hlt : k < r.cells.length
      · have hltL : k < L.length := by have := HLen.out; omega
        have HLT := Lib.hid hltL
        have hucell := HUC.out wr hbw k HLT.out
        have hrcell := HRC.out wr hbw k hlt
        clear hbw
        obtain ⟨x, hx⟩ : ∃ x, L.getD k 0 = x := ⟨_, rfl⟩
        rw [hx] at hucell
        have HX := Lib.hid hx
        clear hx
        by_cases hx0 : x = 0
        · subst hx0
          have HN := Lib.hid (ok_snoc HD.out (okAt_zero HX.out))
          clear hrcell
          go_wp2
          go_roundw
          case rel => exact ⟨k + 1, by omega, by go_num, HN.out, HBW.out⟩
          case measure => (simp only [intOf]; omega)
        · have hxe : (x == 0) = false := by simpa using hx0
          obtain ⟨s, hs⟩ : ∃ s, stepI r k x = s := ⟨_, rfl⟩
          have HST := Lib.hid hs
          have hkc : (k : Int) < r.wide * r.tall := by have := HLen.out; have := HA.out; omega
          have hin : s = -1 ∨ (0 ≤ s ∧ s < r.wide * r.tall) := by rw [← hs]; exact stepI_in (by omega) (by omega) hkc
          have HKC := Lib.hid hkc
          clear hs hkc
          cases hw : inB x 1 4
          · have hw2 : ¬ (1 ≤ x ∧ x ≤ 4) := fun e => by rw [inB_iff.2 e] at hw; cases hw
            have HBAD := Lib.hid (laidOk_no3 HLT.out (okAt_bad HX.out hx0 HST.out (fun e => hw2 (stepI_way (r := r) (c := (k : Int)) (way := x) (by rw [HST.out]; exact e.1)))))
            clear hw2
            go_wp2_with (fail)
            refine (l1In_is _ _ _ _ false hw).mono ?_
            rintro e w2 ⟨rfl, rfl⟩
            go_wp2
            go_ret
            exact ⟨ret_bool HBAD.out.symm, HBr.out⟩
          · have hwi := inB_iff.1 hw
            cases hf : r.cells.getD k false
            · rw [hf] at hrcell
              have HBAD := Lib.hid (laidOk_no3 HLT.out (okAt_bad HX.out hx0 HST.out (fun e => by have := e.2.1; unfold Reg.f at this; rw [hf] at this; cases this)))
              clear hf
              go_wp2_with (fail)
              refine (l1In_is _ _ _ _ true hw).mono ?_
              rintro e w2 ⟨rfl, rfl⟩
              go_wp2
              go_ret
              exact ⟨ret_bool HBAD.out.symm, HBr.out⟩
            · rw [hf] at hrcell
              have HF := Lib.hid (show r.f k = true from hf)
              clear hf
              go_wp2_with (fail)
              refine (l1In_is _ _ _ _ true hw).mono ?_
              rintro e w2 ⟨rfl, rfl⟩
              have hRV : Hid (∀ T : Later wr, RegV T.x (.agg #[.int .i64 r.wide, .int .i64 r.tall, .slice (some ⟨rb, ro, none⟩) r.cells.length cap]) r) := Lib.hid fun T => (R2.out.on T.h).v
              have hLc : ∀ (T : Later wr) (b o : Nat), b < wr.heap.size → T.x.cell? ⟨b, o, none⟩ = wr.cell? ⟨b, o, none⟩ := Later.cell
              go_wp2_with (fail)
              refine wp_region_later_all (by kernel_rfl) (by kernel_rfl) ?_
              repeat (go_big_quiet_step (fail))
              go_big_quiet_step (with_reducible exact calls_later _ (l2Step_is _ r _ _ _ _ (hRV.out _) hv (by omega) HKC.out hwi HST.out))
              repeat (go_big_quiet_step (fail))
              refine wpQuiet_nil ?_
              intro T0
              obtain ⟨wq, hwq⟩ : ∃ y, y = T0.x := ⟨_, rfl⟩
              have hq : Below wr.heap.size wr wq := by rw [hwq]; exact T0.h
              rw [← hwq]
              have R3 := Lib.hid (R2.out.on hq)
              have HBq := Lib.hid (HBr.out.trans (hq.mono HBr.out.size))
              have HBWq := Lib.hid (HBW.out.trans (hq.mono HBW.out.size))
              have hub3 := Nat.lt_of_lt_of_le hub2 hq.size
              have hrb3 := Nat.lt_of_lt_of_le hrb2 hq.size
              have hrcell := HRC.out wq HBWq.out k (by have := HLen.out; omega)
              have hucell := HUC.out wq HBWq.out k HLT.out
              rw [HX.out] at hucell
              clear x0 x1 x2 hLc hwq hq T0
              have sX3 := R3.out.lt
              obtain ⟨x0, x1, x2⟩ := R3.out.c3
              go_wp2_with (fail)
              have hRB : Hid (∀ T : Later wq, Below w.heap.size w T.x) := Lib.hid fun T => HBq.out.trans (T.h.mono HBq.out.size)
              have hRW : Hid (∀ T : Later wq, Below w1.heap.size w1 T.x) := Lib.hid fun T => HBWq.out.trans (T.h.mono HBWq.out.size)
              have hLc : ∀ (T : Later wq) (b o : Nat), b < wq.heap.size → T.x.cell? ⟨b, o, none⟩ = wq.cell? ⟨b, o, none⟩ := Later.cell
              by_cases hs0 : 0 ≤ s
              · obtain ⟨j, rfl⟩ := Int.eq_ofNat_of_zero_le hs0
                have hsn : ¬ (j : Int) < 0 := by omega
                have hdn : decide ((j : Int) < 0) = false := by simp
                have hjl : j < r.cells.length := by have := HA.out; omega
                have hjL : j < L.length := by have := HLen.out; omega
                have hrj := HRC.out wq HBWq.out j hjl
                have huj := HUC.out wq HBWq.out j hjL
                cases hg : r.cells.getD j false
                · rw [hg] at hrj
                  have HBAD := Lib.hid (laidOk_no3 HLT.out (okAt_bad HX.out hx0 HST.out (fun e => by have := e.2.2.1; unfold Reg.f at this; rw [Int.toNat_natCast, hg] at this; cases this)))
                  clear hg
                  refine wp_region_later_all (by kernel_rfl) (by kernel_rfl) ?_
                  repeat (go_big_quiet_step (fail))
                  refine wpQuiet_nil ?_
                  intro T
                  clear hLc
                  go_wp2
                  go_ret
                  exact ⟨ret_bool HBAD.out.symm, hRB.out T⟩
                · rw [hg] at hrj
                  have HG := Lib.hid (show r.f j = true from hg)
                  clear hg
                  have hway : 1 ≤ x ∧ x ≤ 4 := stepI_way (r := r) (c := (k : Int)) (by rw [HST.out]; omega)
                  obtain ⟨y, hy⟩ : ∃ y, L.getD j 0 = y := ⟨_, rfl⟩
                  obtain ⟨bk, hbk⟩ : ∃ y, backI x = y := ⟨_, rfl⟩
                  rw [hy] at huj
                  have HY := Lib.hid hy
                  have HBK := Lib.hid hbk
                  clear hy hbk
                  by_cases hyb : y = bk
                  · subst hyb
                    have HN := Lib.hid (ok_snoc HD.out (okAt_good HX.out HST.out (by omega) HF.out (by rw [Int.toNat_natCast]; exact HG.out) (by rw [Int.toNat_natCast, HY.out, HBK.out])))
                    refine wp_region_later_all (by kernel_rfl) (by kernel_rfl) ?_
                    repeat (go_big_quiet_step (fail))
                    go_big_quiet_step (with_reducible exact calls_later _ (l2Back_is _ _ _ hway HBK.out))
                    repeat (go_big_quiet_step (fail))
                    refine wpQuiet_nil ?_
                    intro T
                    clear hLc
                    go_wp2
                    go_roundw
                    case rel => exact ⟨k + 1, by omega, by go_num, HN.out, hRW.out T⟩
                    case measure => (simp only [intOf]; omega)
                  · have hye : (y == bk) = false := by simpa using hyb
                    have hyn : (y != bk) = true := by simpa using hyb
                    have HBAD := Lib.hid (laidOk_no3 HLT.out (okAt_bad HX.out hx0 HST.out (fun e => hyb (by have := e.2.2.2; rw [Int.toNat_natCast, HY.out, HBK.out] at this; exact this))))
                    refine wp_region_later_all (by kernel_rfl) (by kernel_rfl) ?_
                    repeat (go_big_quiet_step (fail))
                    go_big_quiet_step (with_reducible exact calls_later _ (l2Back_is _ _ _ hway HBK.out))
                    repeat (first | (go_big_quiet_step (fail)) | rw [hye] | rw [hyn])
                    refine wpQuiet_nil ?_
                    intro T
                    clear hLc
                    go_wp2
                    go_ret
                    exact ⟨ret_bool HBAD.out.symm, hRB.out T⟩
              · have hsn : s < 0 := by omega
                have hdn : decide (s < 0) = true := by simpa using hsn
                have HBAD := Lib.hid (laidOk_no3 HLT.out (okAt_bad HX.out hx0 HST.out (fun e => hs0 e.1)))
                refine wp_region_later_all (by kernel_rfl) (by kernel_rfl) ?_
                repeat (first | (go_big_quiet_step (fail)) | rw [hdn])
                refine wpQuiet_nil ?_
                intro T
                clear hLc
                go_wp2
                go_ret
                exact ⟨ret_bool HBAD.out.symm, hRB.out T⟩
      · have e : k = r.cells.length := by omega
        have hgeL : ¬ k < L.length := by have := HLen.out; omega
        subst e
        have hlen := HLen.out
        have HYES := Lib.hid (laidOk_iff.2 ⟨hv, hlen, fun j hj => HD.out j (by omega)⟩)
        clear hlen hbw
        go_wp2
        go_ret
        exact ⟨ret_bool HYES.out.symm, HBr.out⟩
  · have hd : decide (L.length = r.cells.length) = false := by simpa using hlen
    have hne : ((L.length : Int) != (r.cells.length : Int)) = true := by simp; omega
    have heq : ((L.length : Int) == (r.cells.length : Int)) = false := by simp; omega
    have HBAD := Lib.hid (laidOk_no2 hlen)
    go_enter Tryd.func28, Tryd.ntmps28
    go_wp2_with (fail)
    refine (sRegionValid_is _ r _ R0.out.v true hv).mono ?_
    rintro e w1 ⟨rfl, hb⟩
    have R1 := Lib.hid (R0.out.on hb)
    have HB := Lib.hid (B0.out.trans (hb.mono B0.out.size))
    have HU1 := Lib.hid (HU.out.below HB.out)
    obtain ⟨x0, x1, x2⟩ := R1.out.c3
    clear hb
    go_wp2
    go_ret
    exact ⟨ret_bool HBAD.out.symm, HB.out⟩

set_option maxRecDepth 100000 in
set_option maxHeartbeats 4000000 in
theorem lays_any (v u : Value) (r : Reg) (L : List Int) (w : World) (h : RegV w v r) (hu : Il w u L) (hv : r.valid = true) :
    Calls Tryd.prog 29 #[v, u] w (Ret (.bool (laysB r L)) w) := by
  obtain ⟨bb1, bb2, bb3, bb4⟩ := Reg.valid_iff.1 hv
  have hA := area_in bb1 bb2
  obtain ⟨a, cap, rfl, hs, hlc, hcm⟩ := h.opened
  obtain ⟨ua, uc, rfl, hul, hum, _⟩ := hu.opened
  have R0 := Lib.hid (RB.new hs)
  have B0 := Lib.hid (below_alloc w (.cells #[.int .i64 r.wide, .int .i64 r.tall, .slice a r.cells.length cap] 25))
  have HU := Lib.hid hu
  have hl36 : r.cells.length ≤ 36 := by omega
  have hl1 : 1 ≤ r.cells.length := by omega
  have HA := Lib.hid bb3
  clear h hs hu bb4 bb3
  by_cases hlen : L.length = r.cells.length
  · have hd : decide (L.length = r.cells.length) = true := by simpa using hlen
    have hne : ((L.length : Int) != (r.cells.length : Int)) = false := by simp [hlen]
    have heq : ((L.length : Int) == (r.cells.length : Int)) = true := by simp [hlen]
    have HLen := Lib.hid hlen
    have hL36 : L.length ≤ 36 := by omega
    have hL1 : 1 ≤ L.length := by omega
    go_enter Tryd.func29, Tryd.ntmps29
    go_wp2_with (fail)
    obtain ⟨w1, hw1⟩ : ∃ W, W = w.alloc (.cells #[.int .i64 r.wide, .int .i64 r.tall, .slice a r.cells.length cap] 25) := ⟨_, rfl⟩
    rw [← hw1] at R0 B0 ⊢
    clear hw1
    have R1 := R0
    have HB := B0
    have HU1 := Lib.hid (HU.out.below HB.out)
    obtain ⟨x0, x1, x2⟩ := R1.out.c3
    obtain ⟨ub, uo, uc', hue, hub, hucell, -, -⟩ := Il.pos HU1.out (by omega)
    obtain ⟨rfl, rfl⟩ : ua = some ⟨ub, uo, none⟩ ∧ uc = uc' := by simpa using hue
    obtain ⟨rb, ro, rcap, hre, -, hrb, hrcell, -, -, -, -, -, -, -⟩ := R1.out.v.valid_opened hv
    obtain ⟨rfl, rfl⟩ : a = some ⟨rb, ro, none⟩ ∧ cap = rcap := by simpa using hre
    have HUC := Lib.hid hucell
    have HRC := Lib.hid hrcell
    have sX := R1.out.lt
    clear hue hre hucell hrcell
    go_wp2_with (fail)
    clear hd hne heq hlen
    go_loopw [16] (fun i wr => ∃ k : Nat, k ≤ r.cells.length ∧ i = .int .i64 k ∧ (∀ j, j < k → okAt r L j = true) ∧ Below w1.heap.size w1 wr) (fun i _ => r.cells.length - (intOf i).toNat)
    case atStart => exact ⟨0, Nat.zero_le _, rfl, fun _ h => absurd h (by omega), by first | exact Below.refl _ _ | exact (Below.refl _ _).drew⟩
    case round =>
      clear x0 x1 x2
      obtain ⟨k, hk, rfl, hdone, hbw⟩ := hrel
      have HBW := Lib.hid hbw
      have HD := Lib.hid hdone
      have R2 := Lib.hid (R1.out.on hbw)
      have HBr := Lib.hid (HB.out.trans (hbw.mono HB.out.size))
      obtain ⟨x0, x1, x2⟩ := R2.out.c3
      have sr := hbw.size
      have hub2 : ub < wr.heap.size := by omega
      have hrb2 : rb < wr.heap.size := by omega
      have sX2 := R2.out.lt
      clear hdone
      by_cases hlt : k < r.cells.length
      · have hltL : k < L.length := by have := HLen.out; omega
        have HLT := Lib.hid hltL
        have hucell := HUC.out wr hbw k HLT.out
        have hrcell := HRC.out wr hbw k hlt
        clear hbw
        obtain ⟨x, hx⟩ : ∃ x, L.getD k 0 = x := ⟨_, rfl⟩
        rw [hx] at hucell
        have HX := Lib.hid hx
        clear hx
        by_cases hx0 : x = 0
        · subst hx0
          have HN := Lib.hid (ok_snoc HD.out (okAt_zero HX.out))
          clear hrcell
          go_wp2
          go_roundw
          case rel => exact ⟨k + 1, by omega, by go_num, HN.out, HBW.out⟩
          case measure => (simp only [intOf]; omega)
        · have hxe : (x == 0) = false := by simpa using hx0
          obtain ⟨s, hs⟩ : ∃ s, stepI r k x = s := ⟨_, rfl⟩
          have HST := Lib.hid hs
          have hkc : (k : Int) < r.wide * r.tall := by have := HLen.out; have := HA.out; omega
          have hin : s = -1 ∨ (0 ≤ s ∧ s < r.wide * r.tall) := by rw [← hs]; exact stepI_in (by omega) (by omega) hkc
          have HKC := Lib.hid hkc
          clear hs hkc
          go_wp2_with (fail)
          refine (step_is _ r _ _ s _ R2.out.v hv (by omega) HKC.out HST.out).mono ?_
          rintro e wq ⟨rfl, hq⟩
          have R3 := Lib.hid (R2.out.on hq)
          have HBq := Lib.hid (HBr.out.trans (hq.mono HBr.out.size))
          have HBWq := Lib.hid (HBW.out.trans (hq.mono HBW.out.size))
          have hub3 := Nat.lt_of_lt_of_le hub2 hq.size
          have hrb3 := Nat.lt_of_lt_of_le hrb2 hq.size
          have hrcell := HRC.out wq HBWq.out k (by have := HLen.out; omega)
          have hucell := HUC.out wq HBWq.out k HLT.out
          rw [HX.out] at hucell
          clear x0 x1 x2 hq
          have sX3 := R3.out.lt
          obtain ⟨x0, x1, x2⟩ := R3.out.c3
          go_wp2_with (fail)
          have hRB : Hid (∀ T : Later wq, Below w.heap.size w T.x) := Lib.hid fun T => HBq.out.trans (T.h.mono HBq.out.size)
          have hRW : Hid (∀ T : Later wq, Below w1.heap.size w1 T.x) := Lib.hid fun T => HBWq.out.trans (T.h.mono HBWq.out.size)
          have hLc : ∀ (T : Later wq) (b o : Nat), b < wq.heap.size → T.x.cell? ⟨b, o, none⟩ = wq.cell? ⟨b, o, none⟩ := Later.cell
          by_cases hs0 : 0 ≤ s
          · obtain ⟨j, rfl⟩ := Int.eq_ofNat_of_zero_le hs0
            have hsn : ¬ (j : Int) < 0 := by omega
            have hdn : decide ((j : Int) < 0) = false := by simp
            have hjl : j < r.cells.length := by have := HA.out; omega
            have hjL : j < L.length := by have := HLen.out; omega
            have hrj := HRC.out wq HBWq.out j hjl
            have huj := HUC.out wq HBWq.out j hjL
            cases hf : r.cells.getD k false
            · rw [hf] at hrcell
              have HBAD := Lib.hid (laysB_no3 HLT.out (okAt_bad HX.out hx0 HST.out (fun e => by have := e.2.1; unfold Reg.f at this; rw [hf] at this; cases this)))
              clear hf
              refine wp_region_later_all (by kernel_rfl) (by kernel_rfl) ?_
              repeat (go_big_quiet_step (fail))
              refine wpQuiet_nil ?_
              intro T
              clear hLc
              go_wp2
              go_ret
              exact ⟨ret_bool HBAD.out.symm, hRB.out T⟩
            rw [hf] at hrcell
            have hf : r.f k = true := hf
            have HF := Lib.hid hf
            clear hf
            cases hg : r.cells.getD j false
            · rw [hg] at hrj
              have HBAD := Lib.hid (laysB_no3 HLT.out (okAt_bad HX.out hx0 HST.out (fun e => by have := e.2.2.1; unfold Reg.f at this; rw [Int.toNat_natCast, hg] at this; cases this)))
              clear hg
              refine wp_region_later_all (by kernel_rfl) (by kernel_rfl) ?_
              repeat (go_big_quiet_step (fail))
              refine wpQuiet_nil ?_
              intro T
              clear hLc
              go_wp2
              go_ret
              exact ⟨ret_bool HBAD.out.symm, hRB.out T⟩
            · rw [hg] at hrj
              have HG := Lib.hid (show r.f j = true from hg)
              clear hg
              have hway : 1 ≤ x ∧ x ≤ 4 := stepI_way (r := r) (c := (k : Int)) (by rw [HST.out]; omega)
              obtain ⟨y, hy⟩ : ∃ y, L.getD j 0 = y := ⟨_, rfl⟩
              obtain ⟨bk, hbk⟩ : ∃ y, backI x = y := ⟨_, rfl⟩
              rw [hy] at huj
              have HY := Lib.hid hy
              have HBK := Lib.hid hbk
              clear hy hbk
              by_cases hyb : y = bk
              · subst hyb
                have HN := Lib.hid (ok_snoc HD.out (okAt_good HX.out HST.out (by omega) HF.out (by rw [Int.toNat_natCast]; exact HG.out) (by rw [Int.toNat_natCast, HY.out, HBK.out])))
                refine wp_region_later_all (by kernel_rfl) (by kernel_rfl) ?_
                repeat (go_big_quiet_step (fail))
                go_big_quiet_step (with_reducible exact calls_later _ (back_is _ _ _ hway HBK.out))
                repeat (go_big_quiet_step (fail))
                refine wpQuiet_nil ?_
                intro T
                clear hLc
                go_wp2
                go_roundw
                case rel => exact ⟨k + 1, by omega, by go_num, HN.out, hRW.out T⟩
                case measure => (simp only [intOf]; omega)
              · have hye : (y == bk) = false := by simpa using hyb
                have hyn : (y != bk) = true := by simpa using hyb
                have HBAD := Lib.hid (laysB_no3 HLT.out (okAt_bad HX.out hx0 HST.out (fun e => hyb (by have := e.2.2.2; rw [Int.toNat_natCast, HY.out, HBK.out] at this; exact this))))
                refine wp_region_later_all (by kernel_rfl) (by kernel_rfl) ?_
                repeat (go_big_quiet_step (fail))
                go_big_quiet_step (with_reducible exact calls_later _ (back_is _ _ _ hway HBK.out))
                repeat (first | (go_big_quiet_step (fail)) | rw [hye] | rw [hyn])
                refine wpQuiet_nil ?_
                intro T
                clear hLc
                go_wp2
                go_ret
                exact ⟨ret_bool HBAD.out.symm, hRB.out T⟩
          · have hsn : s < 0 := by omega
            have hdn : decide (s < 0) = true := by simpa using hsn
            have HBAD := Lib.hid (laysB_no3 HLT.out (okAt_bad HX.out hx0 HST.out (fun e => hs0 e.1)))
            refine wp_region_later_all (by kernel_rfl) (by kernel_rfl) ?_
            repeat (first | (go_big_quiet_step (fail)) | rw [hdn])
            refine wpQuiet_nil ?_
            intro T
            clear hLc
            go_wp2
            go_ret
            exact ⟨ret_bool HBAD.out.symm, hRB.out T⟩
      · have e : k = r.cells.length := by omega
        have hgeL : ¬ k < L.length := by have := HLen.out; omega
        subst e
        have hlen := HLen.out
        have HYES := Lib.hid (laysB_iff.2 ⟨hlen, fun j hj => HD.out j (by omega)⟩)
        clear hlen hbw
        go_wp2
        go_ret
        exact ⟨ret_bool HYES.out.symm, HBr.out⟩
  · have hd : decide (L.length = r.cells.length) = false := by simpa using hlen
    have hne : ((L.length : Int) != (r.cells.length : Int)) = true := by simp; omega
    have heq : ((L.length : Int) == (r.cells.length : Int)) = false := by simp; omega
    have HBAD := Lib.hid (laysB_no2 hlen)
    go_enter Tryd.func29, Tryd.ntmps29
    go_wp2_with (fail)
    obtain ⟨w1, hw1⟩ : ∃ W, W = w.alloc (.cells #[.int .i64 r.wide, .int .i64 r.tall, .slice a r.cells.length cap] 25) := ⟨_, rfl⟩
    rw [← hw1] at R0 B0 ⊢
    clear hw1
    have R1 := R0
    have HB := B0
    have HU1 := Lib.hid (HU.out.below HB.out)
    obtain ⟨x0, x1, x2⟩ := R1.out.c3
    go_wp2
    go_ret
    exact ⟨ret_bool HBAD.out.symm, HB.out⟩

set_option maxHeartbeats 400000 in
theorem sLaidOk_any (v u : Value) (r : Reg) (L : List Int) (w : World) (h : RegV w v r) (hu : Il w u L) : Calls Tryd.prog 28 #[v, u] w (Ret (.bool (laidOk r L)) w) := by
  cases hv : r.valid
  · obtain ⟨a, cap, rfl, hs, hlc, hcm⟩ := h.opened
    have R0 := Lib.hid (RB.new hs)
    have B0 := Lib.hid (below_alloc w (.cells #[.int .i64 r.wide, .int .i64 r.tall, .slice a r.cells.length cap] 25))
    clear h hs hu
    go_enter Tryd.func28, Tryd.ntmps28
    go_wp2_with (fail)
    refine (sRegionValid_is _ r _ R0.out.v false hv).mono ?_
    rintro e w1 ⟨rfl, hb⟩
    have HB := Lib.hid (B0.out.trans (hb.mono B0.out.size))
    clear hb
    go_wp2
    go_ret
    exact ⟨ret_bool (laidOk_no1 hv).symm, HB.out⟩
  · exact sLaidOk_yes v u r L w h hu hv
theorem sLaidOk_is (v u : Value) (r : Reg) (L : List Int) (w : World) (h : RegV w v r) (hu : Il w u L) (b : Bool) (hb : laidOk r L = b) : Calls Tryd.prog 28 #[v, u] w (Ret (.bool b) w) := by
  rw [← hb]; exact sLaidOk_any v u r L w h hu
set_option maxHeartbeats 400000 in
theorem LaidOk_any (v u : Value) (r : Reg) (L : List Int) (w : World) (h : RegV w v r) (hu : Il w u L) : Calls Tryd.prog 10 #[v, u] w (Ret (.bool (laidOk r L)) w) := by
  obtain ⟨a, cap, rfl, hs, hlc, hcm⟩ := h.opened
  have R0 := Lib.hid (RB.new hs)
  have B0 := Lib.hid (below_alloc w (.cells #[.int .i64 r.wide, .int .i64 r.tall, .slice a r.cells.length cap] 25))
  have HU := Lib.hid hu
  clear h hs hu
  go_enter Tryd.func10, Tryd.ntmps10
  go_wp2_with (fail)
  refine (RegionValid_any _ r _ R0.out.v).mono ?_
  rintro e w1 ⟨rfl, hb⟩
  have R1 := Lib.hid (R0.out.on hb)
  have HB := Lib.hid (B0.out.trans (hb.mono B0.out.size))
  obtain ⟨x0, x1, x2⟩ := R1.out.c3
  clear hb
  cases hv : r.valid
  · go_wp2
    go_ret
    exact ⟨ret_bool (laidOk_no1 hv).symm, HB.out⟩
  · have HE := Lib.hid (show laidOk r L = laysB r L by unfold laidOk; rw [hv]; rfl)
    go_wp2_with (fail)
    refine (lays_any _ u r L _ R1.out.v (HU.out.below HB.out) hv).mono ?_
    rintro e w2 ⟨rfl, hb⟩
    have HB2 := Lib.hid (HB.out.trans (hb.mono HB.out.size))
    clear hb
    go_wp2
    go_ret
    exact ⟨ret_bool HE.out.symm, HB2.out⟩
theorem LaidOk_is (v u : Value) (r : Reg) (L : List Int) (w : World) (h : RegV w v r) (hu : Il w u L) (b : Bool) (hb : laidOk r L = b) : Calls Tryd.prog 10 #[v, u] w (Ret (.bool b) w) := by
  rw [← hb]; exact LaidOk_any v u r L w h hu
end Go.Proofs.YtklifibiadiinaaDoor
