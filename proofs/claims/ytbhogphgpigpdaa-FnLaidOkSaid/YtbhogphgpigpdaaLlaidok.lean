/- The law FnLaidOk: its walk. -/
import Derived.Test.YtbhogphgpigpdaaDrawL
import Derived.Test.YtbhogphgpigpdaaWlift
import Derived.Test.YtbhogphgpigpdaaWmany
import Derived.Test.YtbhogphgpigpdaaBareP
import Derived.Test.YtbhogphgpigpdaaLaw
namespace Go.Proofs.Ytbhogphgpigpdaa
open Go.RowKit Domi

theorem lift_any_ok {r : Reg} {L : List Int} {k : Nat} (h : laidOk r L = true) (hk : k < L.length) : laidOk r (liftOne r L k).1 = true := by
  by_cases h0 : L.getD k 0 = 0
  · have hno : liftOk L k = false := by
      cases e : liftOk L k
      · rfl
      · exact absurd h0 (by have := (liftOk_iff.1 e).2; rwa [Int.toNat_natCast] at this)
    rw [liftOne_same h hno]; exact h
  · rw [liftOne_yes h (liftOk_iff.2 ⟨by omega, by rw [Int.toNat_natCast]; exact h0⟩)]; exact lift_ok h hk h0
theorem bare_ok (r : Reg) : laidOk r (bareL r) = r.valid := by
  cases hv : r.valid
  · exact laidOk_no1 hv
  · exact bare_laid hv
theorem RegionValid_is' (v : Value) (r : Reg) (w : World) (h : RegV w v r) (c : Bool) (hc : r.valid = c) : Calls Try.prog 28 #[v] w fun e w' => e = .returned (.bool c) ∧ Below w.heap.size w w' := by
  rw [← hc]; exact RegionValid_any v r w h
set_option maxRecDepth 100000 in
set_option maxHeartbeats 2000000 in
theorem FnLaidOk_walk (v : Value) (ys : List Int) (w : World) (h : Yl w v ys) (hr : ∀ i, i < ys.length → 0 ≤ ys.getD i 0 ∧ ys.getD i 0 ≤ 255) :
    Calls Try.prog 6 #[v] w (Ret (.bool true) w) := by
  have H := Lib.hid h
  have Hr := Lib.hid hr
  obtain ⟨a0, cap0, rfl, hlc0, hcm0, _⟩ := h.opened
  clear h hr
  by_cases hlen : (1048576 : Int) < (ys.length : Int)
  · go_enter Try.func6, Try.ntmps6
    go_wp2
    go_ret
    exact ⟨rfl, Below.refl _ _⟩
  · go_enter Try.func6, Try.ntmps6
    go_wp2_with (fail)
    refine (DrawLaidOk_any _ ys w H.out Hr.out).mono ?_
    rintro e w1 ⟨v1, u1, r, L, rfl, hv1, hu1, hsm, hl37, hb1⟩
    obtain ⟨a1, cap1, rfl, hs1, _, _⟩ := hv1.opened
    obtain ⟨ua, uc, rfl, hul, hum, _⟩ := hu1.opened
    have R := RB.new hs1
    have U := hu1.below (below_alloc w1 (.cells #[.int .i64 r.wide, .int .i64 r.tall, .slice a1 r.cells.length cap1] 29))
    obtain ⟨W, hW⟩ : ∃ W, W = w1.alloc (.cells #[.int .i64 r.wide, .int .i64 r.tall, .slice a1 r.cells.length cap1] 29) := ⟨_, rfl⟩
    rw [← hW] at R U
    have R := Lib.hid R
    have U := Lib.hid U
    have BW := Lib.hid (show Below w.heap.size w W by rw [hW]; exact hb1.alloc hb1.size _)
    have hX : w1.heap.size < W.heap.size := by rw [hW]; simp
    clear hs1 hb1 hv1 hu1
    go_wp2_with (fail)
    rw [← hW]
    clear hW
    generalize w1.heap.size = X at *
    obtain ⟨c, hc⟩ : ∃ c, laidOk r L = c := ⟨_, rfl⟩
    refine (LaidOk_is _ _ r L _ R.out.v U.out c hc).mono ?_
    rintro e w2 ⟨rfl, hb⟩
    have BW := Lib.hid (BW.out.trans (hb.mono BW.out.size))
    have R := Lib.hid (R.out.on hb)
    have U := Lib.hid (U.out.below hb)
    clear hb
    obtain ⟨x0, x1, x2⟩ := R.out.c3
    go_wp2_with (fail)
    refine (sLaidOk_is _ _ r L _ R.out.v U.out c hc).mono ?_
    rintro e w3 ⟨rfl, hb⟩
    have BW := Lib.hid (BW.out.trans (hb.mono BW.out.size))
    have R := Lib.hid (R.out.on hb)
    have U := Lib.hid (U.out.below hb)
    clear hb
    clear x0 x1 x2
    go_wp2_with (fail)
    go_loopw [6] (fun i wr => ∃ k : Nat, k ≤ L.length ∧ i = .int .i64 k ∧ Below w3.heap.size w3 wr) (fun i _ => L.length - (intOf i).toNat)
    case atStart => exact ⟨0, Nat.zero_le _, rfl, Below.refl _ _⟩
    case round =>
      obtain ⟨k, hk, rfl, hbw⟩ := hrel
      have R := Lib.hid (R.out.on hbw)
      have U := Lib.hid (U.out.below hbw)
      have BWr := Lib.hid (BW.out.trans (hbw.mono BW.out.size))
      have HBW := Lib.hid hbw
      clear hbw
      obtain ⟨x0, x1, x2⟩ := R.out.c3
      have sX := R.out.lt
      by_cases hgo : k < L.length ∧ c = true
      · obtain ⟨hlt, rfl⟩ := hgo
        have HLO := Lib.hid (lift_any_ok hc hlt)
        go_wp2_with (fail)
        refine (LiftOne_any _ _ r L k _ R.out.v U.out).mono ?_
        rintro e w4 ⟨v4, rfl, hv4, hb⟩
        have BW4 := Lib.hid (BWr.out.trans (hb.mono BWr.out.size))
        have HB4 := Lib.hid (HBW.out.trans (hb.mono HBW.out.size))
        have R4 := Lib.hid (R.out.on hb)
        have V4 := Lib.hid hv4
        clear hb hv4 x0 x1 x2 sX
        obtain ⟨x0, x1, x2⟩ := R4.out.c3
        have sX := R4.out.lt
        go_wp2_with (fail)
        refine (LaidOk_is _ _ r _ _ R4.out.v V4.out true HLO.out).mono ?_
        rintro e w5 ⟨rfl, hb⟩
        have HB5 := Lib.hid (HB4.out.trans (hb.mono HB4.out.size))
        clear hb x0 x1 x2 sX
        go_wp2
        go_roundw
        case rel => exact ⟨k + 1, by omega, by go_num, HB5.out⟩
        case measure => simp [intOf]; omega
      · have HBL := Lib.hid (bare_ok r)
        have hrest : Hid (∀ d : Bool, r.valid = d → True) := Lib.hid fun _ _ => trivial
        obtain ⟨d, hd⟩ : ∃ d, r.valid = d := ⟨_, rfl⟩
        have HBD := Lib.hid (HBL.out.trans hd)
        have HB0 := Lib.hid (show Below wr.heap.size wr wr.drew from (Below.refl _ _).drew)
        by_cases hlt : k < L.length
        · have hcf : c = false := by
            cases c
            · rfl
            · exact absurd ⟨hlt, rfl⟩ hgo
          subst hcf
          clear hgo
          go_wp2_with (fail)
          go_region_held3 (fun w' => w'.cell? ⟨X, 0, none⟩ = some (.int .i64 r.wide) ∧ w'.cell? ⟨X, 1, none⟩ = some (.int .i64 r.tall) ∧ w'.cell? ⟨X, 2, none⟩ = some (.slice a1 r.cells.length cap1))
            (first | with_reducible exact K8.out | with_reducible exact K7.out | with_reducible exact K6.out | with_reducible exact K5.out | (go_keep; done) | assumption)
            ((first
              | (go_at_call 18; refine (alive_any _).mono ?_; rintro e w8 ⟨rfl, hb⟩; (have R8 := Lib.hid (R7.out.on hb)); (have K8 := Lib.hid R8.out.c3); (have BW8 := Lib.hid (BW7.out.trans (hb.mono BW7.out.size))); clear hb)
              | (go_at_call 28; refine (RegionValid_is' _ r _ R6.out.v d hd).mono ?_; rintro e w7 ⟨rfl, hb⟩; (have R7 := Lib.hid (R6.out.on hb)); (have K7 := Lib.hid R7.out.c3); (have BW7 := Lib.hid (BW6.out.trans (hb.mono BW6.out.size))); clear hb)
              | (go_at_call 33; refine (LaidOk_is _ _ r (bareL r) _ R5.out.v V5.out d HBD.out).mono ?_; rintro e w6 ⟨rfl, hb⟩; (have R6 := Lib.hid (R5.out.on hb)); (have K6 := Lib.hid R6.out.c3); (have BW6 := Lib.hid (BW5.out.trans (hb.mono BW5.out.size))); clear hb)
              | (go_at_call 25; refine (LaidBare_any _ r _ (R.out.on HB0.out).v).mono ?_; rintro e w5 ⟨v5, rfl, ho, hb⟩; (have V5 := Lib.hid (own_il ho)); (have R5 := Lib.hid ((R.out.on HB0.out).on hb)); (have K5 := Lib.hid R5.out.c3); (have BW5 := Lib.hid (BWr.out.trans ((HB0.out.trans (hb.mono HB0.out.size)).mono BWr.out.size))); clear ho hb)))
          go_wp2
          go_ret
          exact ⟨rfl, BW8.out⟩
        · clear hgo
          go_wp2_with (fail)
          go_region_held3 (fun w' => w'.cell? ⟨X, 0, none⟩ = some (.int .i64 r.wide) ∧ w'.cell? ⟨X, 1, none⟩ = some (.int .i64 r.tall) ∧ w'.cell? ⟨X, 2, none⟩ = some (.slice a1 r.cells.length cap1))
            (first | with_reducible exact K8.out | with_reducible exact K7.out | with_reducible exact K6.out | with_reducible exact K5.out | (go_keep; done) | assumption)
            ((first
              | (go_at_call 18; refine (alive_any _).mono ?_; rintro e w8 ⟨rfl, hb⟩; (have R8 := Lib.hid (R7.out.on hb)); (have K8 := Lib.hid R8.out.c3); (have BW8 := Lib.hid (BW7.out.trans (hb.mono BW7.out.size))); clear hb)
              | (go_at_call 28; refine (RegionValid_is' _ r _ R6.out.v d hd).mono ?_; rintro e w7 ⟨rfl, hb⟩; (have R7 := Lib.hid (R6.out.on hb)); (have K7 := Lib.hid R7.out.c3); (have BW7 := Lib.hid (BW6.out.trans (hb.mono BW6.out.size))); clear hb)
              | (go_at_call 33; refine (LaidOk_is _ _ r (bareL r) _ R5.out.v V5.out d HBD.out).mono ?_; rintro e w6 ⟨rfl, hb⟩; (have R6 := Lib.hid (R5.out.on hb)); (have K6 := Lib.hid R6.out.c3); (have BW6 := Lib.hid (BW5.out.trans (hb.mono BW5.out.size))); clear hb)
              | (go_at_call 25; refine (LaidBare_any _ r _ (R.out.on HB0.out).v).mono ?_; rintro e w5 ⟨v5, rfl, ho, hb⟩; (have V5 := Lib.hid (own_il ho)); (have R5 := Lib.hid ((R.out.on HB0.out).on hb)); (have K5 := Lib.hid R5.out.c3); (have BW5 := Lib.hid (BWr.out.trans ((HB0.out.trans (hb.mono HB0.out.size)).mono BWr.out.size))); clear ho hb)))
          go_wp2
          go_ret
          exact ⟨rfl, BW8.out⟩

end Go.Proofs.Ytbhogphgpigpdaa
