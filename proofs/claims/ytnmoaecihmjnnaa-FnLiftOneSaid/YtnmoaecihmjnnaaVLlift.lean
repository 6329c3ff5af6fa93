/- The law FnLiftOne: its walk. -/
import Derived.Test.YtnmoaecihmjnnaaVDrawOne
import Derived.Test.YtnmoaecihmjnnaaVWlift
import Derived.Test.YtnmoaecihmjnnaaVWmany
import Derived.Test.YtnmoaecihmjnnaaVSame
import Derived.Test.YtnmoaecihmjnnaaVLaw
namespace Go.Proofs.Ytnmoaecihmjnnaa
open Go.RowKit Domi

theorem liftOne_false {r : Reg} {L ql : List Int} {c : Int} (h : liftOne r L c = (ql, false)) (hk : laidOk r L = true) : ql = L := by
  cases e : liftOk L c
  · rw [liftOne_same hk e] at h; exact (Prod.mk.inj h).1.symm
  · rw [liftOne_yes hk e] at h; cases (Prod.mk.inj h).2
theorem liftOne_true {r : Reg} {L ql : List Int} {c : Int} (h : liftOne r L c = (ql, true)) : ∃ k : Nat, c = k ∧ laidOk r L = true ∧ k < L.length ∧ L.getD k 0 ≠ 0 ∧ ql = liftL r L k := by
  cases hk : laidOk r L
  · rw [liftOne_no hk] at h; cases (Prod.mk.inj h).2
  cases e : liftOk L c
  · rw [liftOne_same hk e] at h; cases (Prod.mk.inj h).2
  · rw [liftOne_yes hk e] at h
    obtain ⟨h1, h2⟩ := liftOk_iff.1 e
    obtain ⟨k, rfl⟩ := Int.eq_ofNat_of_zero_le h1.1
    exact ⟨k, rfl, rfl, by omega, by rwa [Int.toNat_natCast] at h2, (Prod.mk.inj h).1.symm⟩
set_option maxRecDepth 100000 in
set_option maxHeartbeats 2000000 in
theorem FnLiftOne_walk (v : Value) (ys : List Int) (w : World) (h : Yl w v ys) (hr : ∀ i, i < ys.length → 0 ≤ ys.getD i 0 ∧ ys.getD i 0 ≤ 255) :
    Calls Try.prog 7 #[v] w (Ret (.bool true) w) := by
  have H := Lib.hid h
  have Hr := Lib.hid hr
  obtain ⟨a0, cap0, rfl, hlc0, hcm0, _⟩ := h.opened
  clear h hr
  by_cases hlen : (1048576 : Int) < (ys.length : Int)
  · go_enter Try.func7, Try.ntmps7
    go_wp2
    go_ret
    exact ⟨rfl, Below.refl _ _⟩
  · go_enter Try.func7, Try.ntmps7
    go_wp2_with (fail)
    refine (DrawLiftOne_any _ ys w H.out Hr.out).mono ?_
    rintro e w1 ⟨v1, u1, r, L, c, rfl, hv1, hu1, hsm, hl37, hc, hb1⟩
    obtain ⟨a1, cap1, rfl, hs1, _, _⟩ := hv1.opened
    obtain ⟨ua, uc, rfl, hul, hum, _⟩ := hu1.opened
    have R := RB.new hs1
    have U := hu1.below (below_alloc w1 (.cells #[.int .i64 r.wide, .int .i64 r.tall, .slice a1 r.cells.length cap1] 25))
    obtain ⟨W, hW⟩ : ∃ W, W = w1.alloc (.cells #[.int .i64 r.wide, .int .i64 r.tall, .slice a1 r.cells.length cap1] 25) := ⟨_, rfl⟩
    rw [← hW] at R U
    have R := Lib.hid R
    have U := Lib.hid U
    have BW := Lib.hid (show Below w.heap.size w W by rw [hW]; exact hb1.alloc hb1.size _)
    have hX : w1.heap.size < W.heap.size := by rw [hW]; simp
    clear hs1 hb1 hv1 hu1
    go_wp2_with (fail)
    rw [← hW]
    clear hW
    generalize w1.heap.size = X at *
    obtain ⟨ql, qb, hq⟩ : ∃ ql qb, liftOne r L c = (ql, qb) := ⟨_, _, rfl⟩
    have HI := fun (v u : Value) (w : World) (h : RegV w v r) (hu : Il w u L) => LiftOne_any v u r L c w h hu
    have HS := fun (v u : Value) (w : World) (h : RegV w v r) (hu : Il w u L) => sLiftOne_any v u r L c w h hu
    rw [hq] at HI HS
    have HI := Lib.hid HI
    have HS := Lib.hid HS
    have HQ := Lib.hid hq
    clear hq
    refine (HI.out _ _ _ R.out.v U.out).mono ?_
    rintro e w2 ⟨v2, rfl, hv2, hb⟩
    have BW := Lib.hid (BW.out.trans (hb.mono BW.out.size))
    have R := Lib.hid (R.out.on hb)
    have U := Lib.hid (U.out.below hb)
    have V := Lib.hid hv2
    clear hv2
    clear hb
    obtain ⟨x0, x1, x2⟩ := R.out.c3
    obtain ⟨va, vc, hvf⟩ : ∃ a c, v2 = .slice a ql.length c := by
      obtain ⟨a, c, e, _⟩ := V.out.opened
      exact ⟨a, c, e⟩
    subst hvf
    go_wp2_with (fail)
    refine (HS.out _ _ _ R.out.v U.out).mono ?_
    rintro e w3 ⟨v3, rfl, hv3, hb⟩
    have BW := Lib.hid (BW.out.trans (hb.mono BW.out.size))
    have R := Lib.hid (R.out.on hb)
    have U := Lib.hid (U.out.below hb)
    have V := Lib.hid (Sl.below V.out hb)
    have V3 := Lib.hid (own_il hv3)
    clear hv3
    clear hb
    clear x0 x1 x2
    go_wp2_with (fail)
    refine (sameInts_is _ _ ql ql _ V.out V3.out true (by simp)).mono ?_
    rintro e w4 ⟨rfl, hb⟩
    have BW := Lib.hid (BW.out.trans (hb.mono BW.out.size))
    have R := Lib.hid (R.out.on hb)
    have U := Lib.hid (U.out.below hb)
    have V := Lib.hid (Sl.below V.out hb)
    clear hb
    clear V3
    cases qb
    · cases hk : laidOk r L
      · obtain ⟨d, hd⟩ : ∃ d, decide (ql = L) = d := ⟨_, rfl⟩
        go_wp2_with (fail)
        refine (sameInts_is _ _ ql L _ V.out U.out d hd).mono ?_
        rintro e w5 ⟨rfl, hb⟩
        have BW := Lib.hid (BW.out.trans (hb.mono BW.out.size))
        have R := Lib.hid (R.out.on hb)
        have U := Lib.hid (U.out.below hb)
        have V := Lib.hid (Sl.below V.out hb)
        clear hb
        cases d
        · obtain ⟨x0, x1, x2⟩ := R.out.c3
          go_wp2_with (fail)
          refine (LaidOk_is _ _ r L _ R.out.v U.out false hk).mono ?_
          rintro e w6 ⟨rfl, hb⟩
          have BW := Lib.hid (BW.out.trans (hb.mono BW.out.size))
          clear hb
          clear x0 x1 x2
          go_wp2_with (fail)
          refine (alive_any _).mono ?_
          rintro e w7 ⟨rfl, hb⟩
          have BW := Lib.hid (BW.out.trans (hb.mono BW.out.size))
          clear hb
          go_wp2
          go_ret
          exact ⟨rfl, BW.out⟩
        · go_wp2_with (fail)
          refine (alive_any _).mono ?_
          rintro e w7 ⟨rfl, hb⟩
          have BW := Lib.hid (BW.out.trans (hb.mono BW.out.size))
          clear hb
          go_wp2
          go_ret
          exact ⟨rfl, BW.out⟩
      · have hd : decide (ql = L) = true := by
          have := liftOne_false HQ.out hk
          simp [this]
        go_wp2_with (fail)
        refine (sameInts_is _ _ ql L _ V.out U.out true hd).mono ?_
        rintro e w5 ⟨rfl, hb⟩
        have BW := Lib.hid (BW.out.trans (hb.mono BW.out.size))
        clear hb
        clear hd
        go_wp2_with (fail)
        refine (alive_any _).mono ?_
        rintro e w7 ⟨rfl, hb⟩
        have BW := Lib.hid (BW.out.trans (hb.mono BW.out.size))
        clear hb
        go_wp2
        go_ret
        exact ⟨rfl, BW.out⟩
    · obtain ⟨k, rfl, hk, hkL, h0, hql⟩ := liftOne_true HQ.out
      have HL := Lib.hid (lift_lay hk hkL h0)
      have HOK := Lib.hid (lift_ok hk hkL h0)
      obtain ⟨x, hx⟩ : ∃ x, L.getD k 0 = x := ⟨_, rfl⟩
      rw [hx, ← hql] at HL
      rw [← hql] at HOK
      have HX := Lib.hid hx
      have HLO := Lib.hid (show layOne r ql k x = (L, true) by rw [layOne_yes HOK.out HL.out.1, HL.out.2])
      obtain ⟨ub, uo, uc', hue, hub, huc, -, -⟩ := Il.pos U.out (by omega)
      obtain ⟨rfl, rfl⟩ : ua = some ⟨ub, uo, none⟩ ∧ uc = uc' := by simpa using hue
      have huk := huc w4 (Below.refl _ _) k hkL
      rw [hx] at huk
      have HUC := Lib.hid (fun w' (hb : Below w4.heap.size w4 w') => show w'.cell? ⟨ub, uo + k, none⟩ = some (.int .i64 x) by have := huc w' hb k hkL; rwa [HX.out] at this)
      clear hue huc hx hk h0 hql
      have HB0 := Lib.hid (show Below w4.heap.size w4 w4.drew from (Below.refl _ _).drew)
      have HLI := Lib.hid (fun (v u : Value) (w : World) (h : RegV w v r) (hu : Il w u ql) => show Calls Try.prog 37 #[v, u, .int .i64 k, .int .i64 x] w (RetIB (L, true) w) by rw [← HLO.out]; exact LayOne_any v u r ql k x w h hu)
      obtain ⟨x0, x1, x2⟩ := R.out.c3
      have sX := R.out.lt
      go_wp2_with (fail)
      go_region_held3 (fun w' => w'.cell? ⟨X, 0, none⟩ = some (.int .i64 r.wide) ∧ w'.cell? ⟨X, 1, none⟩ = some (.int .i64 r.tall) ∧ w'.cell? ⟨X, 2, none⟩ = some (.slice a1 r.cells.length cap1) ∧ w'.cell? ⟨ub, uo + k, none⟩ = some (.int .i64 x))
        (first | with_reducible exact K5.out | (go_keep; done) | assumption)
        ((first
          | (go_at_call 37; refine (HLI.out _ _ _ (R.out.on HB0.out).v (Sl.below V.out HB0.out)).mono ?_; rintro e w5 ⟨v5, rfl, hv5, hb⟩; (have hb5 : Below w4.heap.size w4 w5 := HB0.out.trans (hb.mono HB0.out.size)); (have R5 := Lib.hid (R.out.on hb5)); (have U5 := Lib.hid (Sl.below U.out hb5)); (have V5 := Lib.hid (Sl.below V.out hb5)); (have BW5 := Lib.hid (BW.out.trans (hb5.mono BW.out.size))); (have W5 := Lib.hid hv5); (have K5 := Lib.hid (And.intro R5.out.c3.1 (And.intro R5.out.c3.2.1 (And.intro R5.out.c3.2.2 (HUC.out _ hb5))))); clear hv5 hb hb5)))
      clear x0 x1 x2 sX huk
      obtain ⟨x0, x1, x2⟩ := R5.out.c3
      go_wp2_with (fail)
      refine (LaidOk_is _ _ r ql _ R5.out.v V5.out true HOK.out).mono ?_
      rintro e w6 ⟨rfl, hb⟩
      have BW6 := Lib.hid (BW5.out.trans (hb.mono BW5.out.size))
      have U6 := Lib.hid (Sl.below U5.out hb)
      have W6 := Lib.hid (Sl.below W5.out hb)
      clear hb x0 x1 x2
      go_wp2_with (fail)
      refine (sameInts_is _ _ L L _ W6.out U6.out true (by simp)).mono ?_
      rintro e w7 ⟨rfl, hb⟩
      have BW7 := Lib.hid (BW6.out.trans (hb.mono BW6.out.size))
      clear hb
      go_wp2
      go_ret
      exact ⟨rfl, BW7.out⟩

end Go.Proofs.Ytnmoaecihmjnnaa
