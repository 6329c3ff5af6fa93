/- The law FnLayOne: its walk. -/
import Derived.Test.YtnmoaecihmjnnaaVDrawOne
import Derived.Test.YtnmoaecihmjnnaaVWlift
import Derived.Test.YtnmoaecihmjnnaaVWmany
import Derived.Test.YtnmoaecihmjnnaaVSame
import Derived.Test.YtnmoaecihmjnnaaVLaw
namespace Go.Proofs.Ytnmoaecihmjnnaa
open Go.RowKit Domi

theorem layOne_false {r : Reg} {L ql : List Int} {c way : Int} (h : layOne r L c way = (ql, false)) (hk : laidOk r L = true) : ql = L := by
  cases e : free r L c way
  · rw [layOne_same hk e] at h; exact (Prod.mk.inj h).1.symm
  · rw [layOne_yes hk e] at h; cases (Prod.mk.inj h).2
theorem layOne_true {r : Reg} {L ql : List Int} {c way : Int} (h : layOne r L c way = (ql, true)) : ∃ k : Nat, c = k ∧ laidOk r L = true ∧ free r L k way = true ∧ ql = layL r L k way := by
  cases hk : laidOk r L
  · rw [layOne_no hk] at h; cases (Prod.mk.inj h).2
  cases e : free r L c way
  · rw [layOne_same hk e] at h; cases (Prod.mk.inj h).2
  · rw [layOne_yes hk e] at h
    obtain ⟨k, rfl⟩ := Int.eq_ofNat_of_zero_le (free_iff.1 e).1.1
    exact ⟨k, rfl, rfl, e, (Prod.mk.inj h).1.symm⟩
set_option maxRecDepth 100000 in
set_option maxHeartbeats 2000000 in
theorem FnLayOne_walk (v : Value) (ys : List Int) (w : World) (h : Yl w v ys) (hr : ∀ i, i < ys.length → 0 ≤ ys.getD i 0 ∧ ys.getD i 0 ≤ 255) :
    Calls Try.prog 9 #[v] w (Ret (.bool true) w) := by
  have H := Lib.hid h
  have Hr := Lib.hid hr
  obtain ⟨a0, cap0, rfl, hlc0, hcm0, _⟩ := h.opened
  clear h hr
  by_cases hlen : (1048576 : Int) < (ys.length : Int)
  · go_enter Try.func9, Try.ntmps9
    go_wp2
    go_ret
    exact ⟨rfl, Below.refl _ _⟩
  · go_enter Try.func9, Try.ntmps9
    go_wp2_with (fail)
    refine (DrawLayOne_any _ ys w H.out Hr.out).mono ?_
    rintro e w1 ⟨v1, u1, r, L, c, way, rfl, hv1, hu1, hsm, hl37, hc, hw, hb1⟩
    obtain ⟨a1, cap1, rfl, hs1, _, _⟩ := hv1.opened
    obtain ⟨ua, uc, rfl, hul, hum, _⟩ := hu1.opened
    have R := RB.new hs1
    have U := hu1.below (below_alloc w1 (.cells #[.int .i64 r.wide, .int .i64 r.tall, .slice a1 r.cells.length cap1] 25))
    obtain ⟨W, hW⟩ : ∃ W, W = w1.alloc (.cells #[.int .i64 r.wide, .int .i64 r.tall, .slice a1 r.cells.length cap1] 25) := ⟨_, rfl⟩
    rw [← hW] at R U
    have R := Lib.hid R
    have U := Lib.hid U
    have BW := Lib.hid (show Below w.heap.size w W by rw [hW]; exact hb1.alloc hb1.size _)
    have hX : w1.heap.size < W.heap.size := by rw [hW]; simp
    clear hs1 hb1 hv1 hu1
    go_wp2_with (fail)
    rw [← hW]
    clear hW
    generalize w1.heap.size = X at *
    obtain ⟨ql, qb, hq⟩ : ∃ ql qb, layOne r L c way = (ql, qb) := ⟨_, _, rfl⟩
    have HI := fun (v u : Value) (w : World) (h : RegV w v r) (hu : Il w u L) => LayOne_any v u r L c way w h hu
    have HS := fun (v u : Value) (w : World) (h : RegV w v r) (hu : Il w u L) => sLayOne_any v u r L c way w h hu
    rw [hq] at HI HS
    have HI := Lib.hid HI
    have HS := Lib.hid HS
    have HQ := Lib.hid hq
    clear hq
    refine (HI.out _ _ _ R.out.v U.out).mono ?_
    rintro e w2 ⟨v2, rfl, hv2, hb⟩
    have BW := Lib.hid (BW.out.trans (hb.mono BW.out.size))
    have R := Lib.hid (R.out.on hb)
    have U := Lib.hid (U.out.below hb)
    have V := Lib.hid hv2
    clear hv2
    clear hb
    obtain ⟨x0, x1, x2⟩ := R.out.c3
    obtain ⟨va, vc, hvf⟩ : ∃ a c, v2 = .slice a ql.length c := by
      obtain ⟨a, c, e, _⟩ := V.out.opened
      exact ⟨a, c, e⟩
    subst hvf
    go_wp2_with (fail)
    refine (HS.out _ _ _ R.out.v U.out).mono ?_
    rintro e w3 ⟨v3, rfl, hv3, hb⟩
    have BW := Lib.hid (BW.out.trans (hb.mono BW.out.size))
    have R := Lib.hid (R.out.on hb)
    have U := Lib.hid (U.out.below hb)
    have V := Lib.hid (Sl.below V.out hb)
    have V3 := Lib.hid (own_il hv3)
    clear hv3
    clear hb
    clear x0 x1 x2
    go_wp2_with (fail)
    refine (sameInts_is _ _ ql ql _ V.out V3.out true (by simp)).mono ?_
    rintro e w4 ⟨rfl, hb⟩
    have BW := Lib.hid (BW.out.trans (hb.mono BW.out.size))
    have R := Lib.hid (R.out.on hb)
    have U := Lib.hid (U.out.below hb)
    have V := Lib.hid (Sl.below V.out hb)
    clear hb
    clear V3
    cases qb
    · cases hk : laidOk r L
      · obtain ⟨d, hd⟩ : ∃ d, decide (ql = L) = d := ⟨_, rfl⟩
        go_wp2_with (fail)
        refine (sameInts_is _ _ ql L _ V.out U.out d hd).mono ?_
        rintro e w5 ⟨rfl, hb⟩
        have BW := Lib.hid (BW.out.trans (hb.mono BW.out.size))
        have R := Lib.hid (R.out.on hb)
        have U := Lib.hid (U.out.below hb)
        have V := Lib.hid (Sl.below V.out hb)
        clear hb
        cases d
        · obtain ⟨x0, x1, x2⟩ := R.out.c3
          go_wp2_with (fail)
          refine (LaidOk_is _ _ r L _ R.out.v U.out false hk).mono ?_
          rintro e w6 ⟨rfl, hb⟩
          have BW := Lib.hid (BW.out.trans (hb.mono BW.out.size))
          clear hb
          clear x0 x1 x2
          go_wp2_with (fail)
          refine (alive_any _).mono ?_
          rintro e w7 ⟨rfl, hb⟩
          have BW := Lib.hid (BW.out.trans (hb.mono BW.out.size))
          clear hb
          go_wp2
          go_ret
          exact ⟨rfl, BW.out⟩
        · go_wp2_with (fail)
          refine (alive_any _).mono ?_
          rintro e w7 ⟨rfl, hb⟩
          have BW := Lib.hid (BW.out.trans (hb.mono BW.out.size))
          clear hb
          go_wp2
          go_ret
          exact ⟨rfl, BW.out⟩
      · have hd : decide (ql = L) = true := by
          have := layOne_false HQ.out hk
          simp [this]
        go_wp2_with (fail)
        refine (sameInts_is _ _ ql L _ V.out U.out true hd).mono ?_
        rintro e w5 ⟨rfl, hb⟩
        have BW := Lib.hid (BW.out.trans (hb.mono BW.out.size))
        clear hb
        clear hd
        go_wp2_with (fail)
        refine (alive_any _).mono ?_
        rintro e w7 ⟨rfl, hb⟩
        have BW := Lib.hid (BW.out.trans (hb.mono BW.out.size))
        clear hb
        go_wp2
        go_ret
        exact ⟨rfl, BW.out⟩
    · obtain ⟨k, rfl, hk, hfr, hql⟩ := layOne_true HQ.out
      have HL := Lib.hid (lay_lift hk hfr)
      have HOK := Lib.hid (lay_ok hk hfr)
      have HMM := Lib.hid (lay_many hk hfr)
      rw [← hql] at HL HOK HMM
      have HLO := Lib.hid (show liftOne r ql k = (L, true) by rw [liftOne_yes HOK.out HL.out.1, HL.out.2])
      have HLI := Lib.hid (fun (v u : Value) (w : World) (h : RegV w v r) (hu : Il w u ql) => show Calls Try.prog 18 #[v, u, .int .i64 k] w (RetIB (L, true) w) by rw [← HLO.out]; exact LiftOne_any v u r ql k w h hu)
      obtain ⟨m, hm⟩ : ∃ m, laidMany r L = m := ⟨_, rfl⟩
      have hmb : 0 ≤ m ∧ m ≤ 37 := by
        rw [← hm, laidMany_yes hk]
        have := wayN_le isLow L
        omega
      have HM1 := fun (v u : Value) (w : World) (h : RegV w v r) (hu : Il w u L) => LaidMany_any v u r L w h hu
      have HM2 := fun (v u : Value) (w : World) (h : RegV w v r) (hu : Il w u ql) => LaidMany_any v u r ql w h hu
      rw [hm] at HM1
      rw [HMM.out, hm] at HM2
      have HM1 := Lib.hid HM1
      have HM2 := Lib.hid HM2
      clear hk hfr hql hm
      obtain ⟨x0, x1, x2⟩ := R.out.c3
      go_wp2_with (fail)
      refine (HLI.out _ _ _ R.out.v V.out).mono ?_
      rintro e w5 ⟨v5, rfl, hv5, hb⟩
      have R5 := Lib.hid (R.out.on hb)
      have U5 := Lib.hid (Sl.below U.out hb)
      have V5 := Lib.hid (Sl.below V.out hb)
      have W5 := Lib.hid hv5
      have BW5 := Lib.hid (BW.out.trans (hb.mono BW.out.size))
      clear hb hv5 x0 x1 x2
      obtain ⟨x0, x1, x2⟩ := R5.out.c3
      have sX := R5.out.lt
      have hLc : ∀ (T : Later w5) (b o : Nat), b < w5.heap.size → T.x.cell? ⟨b, o, none⟩ = w5.cell? ⟨b, o, none⟩ := Later.cell
      have RT : Hid (∀ T : Later w5, RegV T.x (.agg #[.int .i64 r.wide, .int .i64 r.tall, .slice a1 r.cells.length cap1]) r) := Lib.hid fun T => (R5.out.on T.h).v
      have C1 := Lib.hid (fun (T : Later w5) => LaidOk_is _ _ r ql _ (RT.out T) (Sl.below V5.out T.h) true HOK.out)
      have C2 := Lib.hid (fun (T : Later w5) => sameInts_is _ _ L L _ (Sl.below W5.out T.h) (Sl.below U5.out T.h) true (by simp))
      have C3 := Lib.hid (fun (T : Later w5) => HM2.out _ _ _ (RT.out T) (Sl.below V5.out T.h))
      have C4 := Lib.hid (fun (T : Later w5) => HM1.out _ _ _ (RT.out T) (Sl.below U5.out T.h))
      have wl : IntKind.i64.wrap (m + 1) = m + 1 := IntWalk.i64_in _ (by omega)
      go_wp2_with (fail)
      refine wp_region_later_all (by kernel_rfl) (by kernel_rfl) ?_
      repeat (go_big_quiet_step (fail))
      go_big_quiet_step (with_reducible exact calls_later _ (C1.out _))
      repeat (go_big_quiet_step (fail))
      go_big_quiet_step (with_reducible exact calls_later _ (C2.out _))
      repeat (go_big_quiet_step (fail))
      go_big_quiet_step (with_reducible exact calls_later _ (C3.out _))
      repeat (go_big_quiet_step (fail))
      go_big_quiet_step (with_reducible exact calls_later _ (C4.out _))
      repeat (go_big_quiet_step (fail))
      refine wpQuiet_nil ?_
      intro T
      have BW6 := Lib.hid (BW5.out.trans (T.h.mono BW5.out.size))
      clear hLc x0 x1 x2 sX wl
      go_wp2
      go_ret
      exact ⟨rfl, BW6.out⟩

end Go.Proofs.Ytnmoaecihmjnnaa
