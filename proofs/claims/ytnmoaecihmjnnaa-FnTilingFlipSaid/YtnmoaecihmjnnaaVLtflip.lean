/- The law FnTilingFlip: its walk. -/
import Derived.Test.YtnmoaecihmjnnaaVDrawL
import Derived.Test.YtnmoaecihmjnnaaVWcarry
import Derived.Test.YtnmoaecihmjnnaaVWcarryS
import Derived.Test.YtnmoaecihmjnnaaVWmany
import Derived.Test.YtnmoaecihmjnnaaVSame
import Derived.Test.YtnmoaecihmjnnaaVLaw
set_option linter.unusedVariables false
namespace Go.Proofs.Ytnmoaecihmjnnaa
open Go.RowKit Domi

set_option maxRecDepth 100000 in
set_option maxHeartbeats 4000000 in
theorem FnTilingFlip_walk (v : Value) (ys : List Int) (w : World) (h : Yl w v ys) (hr : ∀ i, i < ys.length → 0 ≤ ys.getD i 0 ∧ ys.getD i 0 ≤ 255) :
    Calls Try.prog 8 #[v] w (Ret (.bool true) w) := by
  have H := Lib.hid h
  have Hr := Lib.hid hr
  obtain ⟨a0, cap0, rfl, hlc0, hcm0, _⟩ := h.opened
  clear h hr
  by_cases hlen : (1048576 : Int) < (ys.length : Int)
  · go_enter Try.func8, Try.ntmps8
    go_wp2
    go_ret
    exact ⟨rfl, Below.refl _ _⟩
  · go_enter Try.func8, Try.ntmps8
    go_wp2_with (fail)
    refine (DrawTilingFlip_any _ ys w H.out Hr.out).mono ?_
    rintro e w1 ⟨v1, u1, r, L, rfl, hv1, hu1, hsm, hl37, hb1⟩
    obtain ⟨a1, cap1, rfl, hs1, _, _⟩ := hv1.opened
    obtain ⟨ua, uc, rfl, hul, hum, _⟩ := hu1.opened
    have R := RB.new hs1
    have U := hu1.below (below_alloc w1 (.cells #[.int .i64 r.wide, .int .i64 r.tall, .slice a1 r.cells.length cap1] 25))
    obtain ⟨W, hW⟩ : ∃ W, W = w1.alloc (.cells #[.int .i64 r.wide, .int .i64 r.tall, .slice a1 r.cells.length cap1] 25) := ⟨_, rfl⟩
    rw [← hW] at R U
    have R := Lib.hid R
    have U := Lib.hid U
    have BW := Lib.hid (show Below w.heap.size w W by rw [hW]; exact hb1.alloc hb1.size _)
    have hX : w1.heap.size < W.heap.size := by rw [hW]; simp
    clear hs1 hb1 hv1 hu1
    go_wp2_with (fail)
    rw [← hW]
    clear hW
    generalize w1.heap.size = X at *
    obtain ⟨ql, hq⟩ : ∃ ql, mirLR r L = ql := ⟨_, rfl⟩
    have HI := fun (v u : Value) (w : World) (h : RegV w v r) (hu : Il w u L) => TilingFlip_any v u r L w h hu
    have HS := fun (v u : Value) (w : World) (h : RegV w v r) (hu : Il w u L) => sTilingFlip_any v u r L w h hu
    rw [hq] at HI HS
    have HI := Lib.hid HI
    have HS := Lib.hid HS
    have HQ := Lib.hid hq
    clear hq
    refine (HI.out _ _ _ R.out.v U.out).mono ?_
    rintro e w2 ⟨v2, rfl, hv2, hb⟩
    have BW := Lib.hid (BW.out.trans (hb.mono BW.out.size))
    have R := Lib.hid (R.out.on hb)
    have U := Lib.hid (U.out.below hb)
    have V := Lib.hid hv2
    clear hv2
    clear hb
    obtain ⟨x0, x1, x2⟩ := R.out.c3
    obtain ⟨va, vc, hvf⟩ : ∃ a c, v2 = .slice a ql.length c := by
      obtain ⟨a, c, e, _⟩ := V.out.opened
      exact ⟨a, c, e⟩
    subst hvf
    go_wp2_with (fail)
    refine (HS.out _ _ _ R.out.v U.out).mono ?_
    rintro e w3 ⟨v3, rfl, hv3, hb⟩
    have BW := Lib.hid (BW.out.trans (hb.mono BW.out.size))
    have R := Lib.hid (R.out.on hb)
    have U := Lib.hid (U.out.below hb)
    have V := Lib.hid (Sl.below V.out hb)
    have V3 := Lib.hid hv3
    clear hv3
    clear hb
    clear x0 x1 x2
    go_wp2_with (fail)
    refine (sameInts_is _ _ ql ql _ V.out V3.out true (by simp)).mono ?_
    rintro e w4 ⟨rfl, hb⟩
    have BW := Lib.hid (BW.out.trans (hb.mono BW.out.size))
    have R := Lib.hid (R.out.on hb)
    have U := Lib.hid (U.out.below hb)
    have V := Lib.hid (Sl.below V.out hb)
    clear hb
    clear V3
    obtain ⟨x0, x1, x2⟩ := R.out.c3
    cases hk : laidOk r L
    · have hl0 : ql.length = 0 := by rw [← HQ.out]; unfold mirLR; rw [hk]; rfl
      go_wp2_with (fail)
      refine (sLaidOk_is _ _ r L _ R.out.v U.out false hk).mono ?_
      rintro e w5 ⟨rfl, hb⟩
      have BW := Lib.hid (BW.out.trans (hb.mono BW.out.size))
      clear hb
      clear x0 x1 x2
      go_wp2_with (fail)
      refine (alive_any _).mono ?_
      rintro e w7 ⟨rfl, hb⟩
      have BW := Lib.hid (BW.out.trans (hb.mono BW.out.size))
      clear hb
      go_wp2
      go_ret
      exact ⟨rfl, BW.out⟩
    · have HQL : Hid (ql = mirL r L) := Lib.hid (by rw [← HQ.out]; unfold mirLR; rw [if_pos hk])
      have hv := (laidOk_iff.1 hk).1
      go_wp2_with (fail)
      refine (sLaidOk_is _ _ r L _ R.out.v U.out true hk).mono ?_
      rintro e w5 ⟨rfl, hb⟩
      have BW := Lib.hid (BW.out.trans (hb.mono BW.out.size))
      have R := Lib.hid (R.out.on hb)
      have U := Lib.hid (U.out.below hb)
      have V := Lib.hid (Sl.below V.out hb)
      clear hb
      clear x0 x1 x2
      obtain ⟨x0, x1, x2⟩ := R.out.c3
      have HK := Lib.hid hk
      clear hk
      have H1 := mirL_ok HK.out
      have T2 := Lib.hid (mirL_two HK.out)
      have FM := Lib.hid (mirL_flat HK.out)
      rw [← HQL.out] at H1 T2 FM
      have HA := Lib.hid H1
      have E1 := Lib.hid (show mirLR r.mir ql = L by unfold mirLR; rw [if_pos H1]; exact T2.out)
      obtain ⟨ra, hra⟩ : ∃ q, r.mir = q := ⟨_, rfl⟩
      rw [hra] at HA E1 FM
      obtain ⟨m, hm⟩ : ∃ m, flatMany r L = m := ⟨_, rfl⟩
      have F1 := fun (v u : Value) (w : World) (h : RegV w v ra) (hu : Il w u ql) => FlatMany_any v u ra ql w h hu
      have F2 := fun (v u : Value) (w : World) (h : RegV w v r) (hu : Il w u L) => FlatMany_any v u r L w h hu
      rw [FM.out, hm] at F1
      rw [hm] at F2
      have F1 := Lib.hid F1
      have F2 := Lib.hid F2
      have HRA := Lib.hid hra
      have C1 := fun (v u : Value) (w : World) (h : RegV w v ra) (hu : Il w u ql) => TilingFlip_any v u ra ql w h hu
      rw [E1.out] at C1
      have C1 := Lib.hid C1
      clear H1 T2 FM hra hm 
      have TT := fun (v : Value) (w : World) (h : RegV w v r) => RegionFlip_yes v r w h hv
      rw [HRA.out] at TT
      have TT := Lib.hid TT
      go_wp2_with (fail)
      refine (TT.out _ _ R.out.v).mono ?_
      rintro e w6 ⟨vv, rfl, hvv, hb⟩
      obtain ⟨aA, cA, rfl, hsA, _, _⟩ := hvv.opened
      have hnA : (ra).wide = ra.wide ∧ (ra).tall = ra.tall := ⟨rfl, rfl⟩
      obtain ⟨A, hXA⟩ : ∃ X, X = w6.heap.size := ⟨_, rfl⟩
      obtain ⟨W6, hW⟩ : ∃ W, W = w6.alloc (.cells #[.int .i64 (ra).wide, .int .i64 (ra).tall, .slice aA (ra).cells.length cA] 25) := ⟨_, rfl⟩
      have RA := RB.new hsA
      have hbW := hb.trans ((below_alloc w6 (.cells #[.int .i64 (ra).wide, .int .i64 (ra).tall, .slice aA (ra).cells.length cA] 25)).mono hb.size)
      rw [← hW, ← hXA] at RA
      rw [← hW] at hbW
      have RA := Lib.hid RA
      have R := Lib.hid (R.out.on hbW)
      have U := Lib.hid (Sl.below U.out hbW)
      have V := Lib.hid (Sl.below V.out hbW)
      have BW := Lib.hid (BW.out.trans (hbW.mono BW.out.size))
      have hWl := Lib.hid hW
      have hXl := Lib.hid hXA
      clear hvv hsA hb hbW x0 x1 x2 hW hXA hnA TT
      obtain ⟨p0, p1, p2⟩ := RA.out.c3
      obtain ⟨x0, x1, x2⟩ := R.out.c3
      have sA := RA.out.lt
      have sX := R.out.lt
      have HB0 := Lib.hid (show Below W6.heap.size W6 W6.drew from (Below.refl _ _).drew)
      have KK := Lib.hid (fun w' (hb : Below W6.heap.size W6 w') => And.intro (RA.out.on hb).c3.1 (And.intro (RA.out.on hb).c3.2.1 (And.intro (RA.out.on hb).c3.2.2 (R.out.on hb).c3)))
      go_wp2_with (fail)
      rw [← hWl.out, ← hXl.out]
      clear hWl hXl
      go_region_held3 (fun w' => w'.cell? ⟨A, 0, none⟩ = some (.int .i64 ra.wide) ∧ w'.cell? ⟨A, 1, none⟩ = some (.int .i64 ra.tall) ∧ w'.cell? ⟨A, 2, none⟩ = some (.slice aA ra.cells.length cA) ∧ w'.cell? ⟨X, 0, none⟩ = some (.int .i64 r.wide) ∧ w'.cell? ⟨X, 1, none⟩ = some (.int .i64 r.tall) ∧ w'.cell? ⟨X, 2, none⟩ = some (.slice a1 r.cells.length cap1))
        (first | with_reducible exact K5.out | with_reducible exact K4.out | with_reducible exact K3.out | with_reducible exact K2.out | with_reducible exact K1.out | (go_keep; done) | assumption)
        ((first
          | (go_at_call 30; refine (F2.out _ _ _ (R.out.on G4.out).v (Sl.below U.out G4.out)).mono ?_; rintro e y5 ⟨rfl, hb⟩; (have G5 := Lib.hid (G4.out.trans (hb.mono G4.out.size))); (have K5 := Lib.hid (KK.out _ G5.out)); clear hb)
          | (go_at_call 30; refine (F1.out _ _ _ (RA.out.on G3.out).v (Sl.below V.out G3.out)).mono ?_; rintro e y4 ⟨rfl, hb⟩; (have G4 := Lib.hid (G3.out.trans (hb.mono G3.out.size))); (have K4 := Lib.hid (KK.out _ G4.out)); clear hb)
          | (go_at_call 25; refine (sameInts_is _ _ L L _ M2.out (Sl.below U.out G2.out) true (by simp)).mono ?_; rintro e y3 ⟨rfl, hb⟩; (have G3 := Lib.hid (G2.out.trans (hb.mono G2.out.size))); (have K3 := Lib.hid (KK.out _ G3.out)); clear hb)
          | (go_at_call 39; refine (C1.out _ _ _ (RA.out.on G1.out).v (Sl.below V.out G1.out)).mono ?_; rintro e y2 ⟨m2, rfl, hm, hb⟩; (have M2 := Lib.hid hm); (have G2 := Lib.hid (G1.out.trans (hb.mono G1.out.size))); (have K2 := Lib.hid (KK.out _ G2.out)); clear hb hm)
          | (go_at_call 16; refine (LaidOk_is _ _ ra ql _ (RA.out.on HB0.out).v (Sl.below V.out HB0.out) true HA.out).mono ?_; rintro e y1 ⟨rfl, hb⟩; (have G1 := Lib.hid (HB0.out.trans (hb.mono HB0.out.size))); (have K1 := Lib.hid (KK.out _ G1.out)); clear hb)))
      go_wp2
      go_ret
      exact ⟨rfl, BW.out.trans (G5.out.mono BW.out.size)⟩

end Go.Proofs.Ytnmoaecihmjnnaa
