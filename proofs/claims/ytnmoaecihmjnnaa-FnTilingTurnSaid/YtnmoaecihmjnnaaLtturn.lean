/- The law FnTilingTurn: its walk. -/
import Derived.Test.YtnmoaecihmjnnaaDrawL
import Derived.Test.YtnmoaecihmjnnaaWcarry
import Derived.Test.YtnmoaecihmjnnaaWcarryS
import Derived.Test.YtnmoaecihmjnnaaWmany
import Derived.Test.YtnmoaecihmjnnaaSame
import Derived.Test.YtnmoaecihmjnnaaLaw
namespace Go.Proofs.Ytnmoaecihmjnnaa
open Go.RowKit Domi

set_option maxRecDepth 100000 in
set_option maxHeartbeats 4000000 in
theorem FnTilingTurn_walk (v : Value) (ys : List Int) (w : World) (h : Yl w v ys) (hr : ∀ i, i < ys.length → 0 ≤ ys.getD i 0 ∧ ys.getD i 0 ≤ 255) :
    Calls Try.prog 6 #[v] w (Ret (.bool true) w) := by
  have H := Lib.hid h
  have Hr := Lib.hid hr
  obtain ⟨a0, cap0, rfl, hlc0, hcm0, _⟩ := h.opened
  clear h hr
  by_cases hlen : (1048576 : Int) < (ys.length : Int)
  · go_enter Try.func6, Try.ntmps6
    go_wp2
    go_ret
    exact ⟨rfl, Below.refl _ _⟩
  · go_enter Try.func6, Try.ntmps6
    go_wp2_with (fail)
    refine (DrawTilingTurn_any _ ys w H.out Hr.out).mono ?_
    rintro e w1 ⟨v1, u1, r, L, rfl, hv1, hu1, hsm, hl37, hb1⟩
    obtain ⟨a1, cap1, rfl, hs1, _, _⟩ := hv1.opened
    obtain ⟨ua, uc, rfl, hul, hum, _⟩ := hu1.opened
    have R := RB.new hs1
    have U := hu1.below (below_alloc w1 (.cells #[.int .i64 r.wide, .int .i64 r.tall, .slice a1 r.cells.length cap1] 25))
    obtain ⟨W, hW⟩ : ∃ W, W = w1.alloc (.cells #[.int .i64 r.wide, .int .i64 r.tall, .slice a1 r.cells.length cap1] 25) := ⟨_, rfl⟩
    rw [← hW] at R U
    have R := Lib.hid R
    have U := Lib.hid U
    have BW := Lib.hid (show Below w.heap.size w W by rw [hW]; exact hb1.alloc hb1.size _)
    have hX : w1.heap.size < W.heap.size := by rw [hW]; simp
    clear hs1 hb1 hv1 hu1
    go_wp2_with (fail)
    rw [← hW]
    clear hW
    generalize w1.heap.size = X at *
    obtain ⟨ql, hq⟩ : ∃ ql, turnLR r L = ql := ⟨_, rfl⟩
    have HI := fun (v u : Value) (w : World) (h : RegV w v r) (hu : Il w u L) => TilingTurn_any v u r L w h hu
    have HS := fun (v u : Value) (w : World) (h : RegV w v r) (hu : Il w u L) => sTilingTurn_any v u r L w h hu
    rw [hq] at HI HS
    have HI := Lib.hid HI
    have HS := Lib.hid HS
    have HQ := Lib.hid hq
    clear hq
    refine (HI.out _ _ _ R.out.v U.out).mono ?_
    rintro e w2 ⟨v2, rfl, hv2, hb⟩
    have BW := Lib.hid (BW.out.trans (hb.mono BW.out.size))
    have R := Lib.hid (R.out.on hb)
    have U := Lib.hid (U.out.below hb)
    have V := Lib.hid hv2
    clear hv2
    clear hb
    obtain ⟨x0, x1, x2⟩ := R.out.c3
    obtain ⟨va, vc, hvf⟩ : ∃ a c, v2 = .slice a ql.length c := by
      obtain ⟨a, c, e, _⟩ := V.out.opened
      exact ⟨a, c, e⟩
    subst hvf
    go_wp2_with (fail)
    refine (HS.out _ _ _ R.out.v U.out).mono ?_
    rintro e w3 ⟨v3, rfl, hv3, hb⟩
    have BW := Lib.hid (BW.out.trans (hb.mono BW.out.size))
    have R := Lib.hid (R.out.on hb)
    have U := Lib.hid (U.out.below hb)
    have V := Lib.hid (Sl.below V.out hb)
    have V3 := Lib.hid hv3
    clear hv3
    clear hb
    clear x0 x1 x2
    go_wp2_with (fail)
    refine (sameInts_is _ _ ql ql _ V.out V3.out true (by simp)).mono ?_
    rintro e w4 ⟨rfl, hb⟩
    have BW := Lib.hid (BW.out.trans (hb.mono BW.out.size))
    have R := Lib.hid (R.out.on hb)
    have U := Lib.hid (U.out.below hb)
    have V := Lib.hid (Sl.below V.out hb)
    clear hb
    clear V3
    obtain ⟨x0, x1, x2⟩ := R.out.c3
    cases hk : laidOk r L
    · have hl0 : ql.length = 0 := by rw [← HQ.out]; unfold turnLR; rw [hk]; rfl
      go_wp2_with (fail)
      refine (sLaidOk_is _ _ r L _ R.out.v U.out false hk).mono ?_
      rintro e w5 ⟨rfl, hb⟩
      have BW := Lib.hid (BW.out.trans (hb.mono BW.out.size))
      clear hb
      clear x0 x1 x2
      go_wp2_with (fail)
      refine (alive_any _).mono ?_
      rintro e w7 ⟨rfl, hb⟩
      have BW := Lib.hid (BW.out.trans (hb.mono BW.out.size))
      clear hb
      go_wp2
      go_ret
      exact ⟨rfl, BW.out⟩
    · have HQL : Hid (ql = turnL r L) := Lib.hid (by rw [← HQ.out]; unfold turnLR; rw [if_pos hk])
      have hv := (laidOk_iff.1 hk).1
      go_wp2_with (fail)
      refine (sLaidOk_is _ _ r L _ R.out.v U.out true hk).mono ?_
      rintro e w5 ⟨rfl, hb⟩
      have BW := Lib.hid (BW.out.trans (hb.mono BW.out.size))
      have R := Lib.hid (R.out.on hb)
      have U := Lib.hid (U.out.below hb)
      have V := Lib.hid (Sl.below V.out hb)
      clear hb
      clear x0 x1 x2
      obtain ⟨x0, x1, x2⟩ := R.out.c3
      have HK := Lib.hid hk
      clear hk
      have H1 := turnL_ok HK.out
      have H2 := turnL_ok H1
      have H3 := turnL_ok H2
      have T4 := Lib.hid (turnL_four HK.out)
      have va1 := turn_valid hv
      have va2 := turn_valid va1
      rw [← HQL.out] at H1 H2 H3 T4
      have HA := Lib.hid H1
      have E1 := Lib.hid (show turnLR r.turn ql = turnL r.turn ql by unfold turnLR; rw [if_pos H1])
      have E2 := Lib.hid (show turnLR r.turn.turn (turnL r.turn ql) = turnL r.turn.turn (turnL r.turn ql) by unfold turnLR; rw [if_pos H2])
      have E3 := Lib.hid (show turnLR r.turn.turn.turn (turnL r.turn.turn (turnL r.turn ql)) = L by unfold turnLR; rw [if_pos H3]; exact T4.out)
      obtain ⟨ra, hra⟩ : ∃ q, r.turn = q := ⟨_, rfl⟩
      obtain ⟨rb, hrb⟩ : ∃ q, ra.turn = q := ⟨_, rfl⟩
      obtain ⟨rc, hrc⟩ : ∃ q, rb.turn = q := ⟨_, rfl⟩
      rw [hra, hrb] at va2
      rw [hra] at va1 HA
      rw [hra] at E1
      rw [hra, hrb] at E2
      rw [hra, hrb, hrc] at E3
      obtain ⟨l1, hl1⟩ : ∃ q, turnL ra ql = q := ⟨_, rfl⟩
      rw [hl1] at E1 E2 E3
      obtain ⟨l2, hl2⟩ : ∃ q, turnL rb l1 = q := ⟨_, rfl⟩
      rw [hl2] at E2 E3
      have C1 := fun (v u : Value) (w : World) (h : RegV w v ra) (hu : Il w u ql) => TilingTurn_any v u ra ql w h hu
      rw [E1.out] at C1
      have C1 := Lib.hid C1
      have C2 := fun (v u : Value) (w : World) (h : RegV w v rb) (hu : Il w u l1) => TilingTurn_any v u rb l1 w h hu
      rw [E2.out] at C2
      have C2 := Lib.hid C2
      have C3 := fun (v u : Value) (w : World) (h : RegV w v rc) (hu : Il w u l2) => TilingTurn_any v u rc l2 w h hu
      rw [E3.out] at C3
      have C3 := Lib.hid C3
      have HRA := Lib.hid hra
      have HRB := Lib.hid hrb
      have HRC := Lib.hid hrc
      clear H1 H2 H3 T4 hra hrb hrc hl1 hl2 
      have TT := fun (v : Value) (w : World) (h : RegV w v r) => RegionTurn_yes v r w h hv
      rw [HRA.out] at TT
      have TT := Lib.hid TT
      go_wp2_with (fail)
      refine (TT.out _ _ R.out.v).mono ?_
      rintro e w6 ⟨vv, rfl, hvv, hb⟩
      obtain ⟨aA, cA, rfl, hsA, _, _⟩ := hvv.opened
      have hnA : (ra).wide = ra.wide ∧ (ra).tall = ra.tall := ⟨rfl, rfl⟩
      obtain ⟨A, hXA⟩ : ∃ X, X = w6.heap.size := ⟨_, rfl⟩
      obtain ⟨W6, hW⟩ : ∃ W, W = w6.alloc (.cells #[.int .i64 (ra).wide, .int .i64 (ra).tall, .slice aA (ra).cells.length cA] 25) := ⟨_, rfl⟩
      have RA := RB.new hsA
      have hbW := hb.trans ((below_alloc w6 (.cells #[.int .i64 (ra).wide, .int .i64 (ra).tall, .slice aA (ra).cells.length cA] 25)).mono hb.size)
      rw [← hW, ← hXA] at RA
      rw [← hW] at hbW
      have RA := Lib.hid RA
      have R := Lib.hid (R.out.on hbW)
      have U := Lib.hid (Sl.below U.out hbW)
      have V := Lib.hid (Sl.below V.out hbW)
      have BW := Lib.hid (BW.out.trans (hbW.mono BW.out.size))
      have hWl := Lib.hid hW
      have hXl := Lib.hid hXA
      clear hvv hsA hb hbW x0 x1 x2 hW hXA hnA TT
      obtain ⟨x0, x1, x2⟩ := RA.out.c3
      go_wp2_with (fail)
      rw [← hWl.out, ← hXl.out]
      clear hWl hXl
      have TT := fun (v : Value) (w : World) (h : RegV w v ra) => RegionTurn_yes v ra w h va1
      rw [HRB.out] at TT
      have TT := Lib.hid TT
      refine (TT.out _ _ RA.out.v).mono ?_
      rintro e w7 ⟨vv, rfl, hvv, hb⟩
      obtain ⟨aB, cB, rfl, hsB, _, _⟩ := hvv.opened
      have hnB : (rb).wide = rb.wide ∧ (rb).tall = rb.tall := ⟨rfl, rfl⟩
      obtain ⟨B, hXB⟩ : ∃ X, X = w7.heap.size := ⟨_, rfl⟩
      obtain ⟨W7, hW⟩ : ∃ W, W = w7.alloc (.cells #[.int .i64 (rb).wide, .int .i64 (rb).tall, .slice aB (rb).cells.length cB] 25) := ⟨_, rfl⟩
      have RB_ := RB.new hsB
      have hbW := hb.trans ((below_alloc w7 (.cells #[.int .i64 (rb).wide, .int .i64 (rb).tall, .slice aB (rb).cells.length cB] 25)).mono hb.size)
      rw [← hW, ← hXB] at RB_
      rw [← hW] at hbW
      have RB_ := Lib.hid RB_
      have R := Lib.hid (R.out.on hbW)
      have RA := Lib.hid (RA.out.on hbW)
      have U := Lib.hid (Sl.below U.out hbW)
      have V := Lib.hid (Sl.below V.out hbW)
      have BW := Lib.hid (BW.out.trans (hbW.mono BW.out.size))
      have hWl := Lib.hid hW
      have hXl := Lib.hid hXB
      clear hvv hsB hb hbW x0 x1 x2 hW hXB hnB TT
      obtain ⟨x0, x1, x2⟩ := RB_.out.c3
      go_wp2_with (fail)
      rw [← hWl.out, ← hXl.out]
      clear hWl hXl
      have TT := fun (v : Value) (w : World) (h : RegV w v rb) => RegionTurn_yes v rb w h va2
      rw [HRC.out] at TT
      have TT := Lib.hid TT
      refine (TT.out _ _ RB_.out.v).mono ?_
      rintro e w8 ⟨vv, rfl, hvv, hb⟩
      obtain ⟨aC, cC, rfl, hsC, _, _⟩ := hvv.opened
      have hnC : (rc).wide = rc.wide ∧ (rc).tall = rc.tall := ⟨rfl, rfl⟩
      obtain ⟨C, hXC⟩ : ∃ X, X = w8.heap.size := ⟨_, rfl⟩
      obtain ⟨W8, hW⟩ : ∃ W, W = w8.alloc (.cells #[.int .i64 (rc).wide, .int .i64 (rc).tall, .slice aC (rc).cells.length cC] 25) := ⟨_, rfl⟩
      have RC := RB.new hsC
      have hbW := hb.trans ((below_alloc w8 (.cells #[.int .i64 (rc).wide, .int .i64 (rc).tall, .slice aC (rc).cells.length cC] 25)).mono hb.size)
      rw [← hW, ← hXC] at RC
      rw [← hW] at hbW
      have RC := Lib.hid RC
      have R := Lib.hid (R.out.on hbW)
      have RA := Lib.hid (RA.out.on hbW)
      have RB_ := Lib.hid (RB_.out.on hbW)
      have U := Lib.hid (Sl.below U.out hbW)
      have V := Lib.hid (Sl.below V.out hbW)
      have BW := Lib.hid (BW.out.trans (hbW.mono BW.out.size))
      have hWl := Lib.hid hW
      have hXl := Lib.hid hXC
      clear hvv hsC hb hbW x0 x1 x2 hW hXC hnC TT
      obtain ⟨p0, p1, p2⟩ := RA.out.c3
      obtain ⟨q0, q1, q2⟩ := RB_.out.c3
      obtain ⟨x0, x1, x2⟩ := RC.out.c3
      have sA := RA.out.lt
      have sB := RB_.out.lt
      have sC := RC.out.lt
      have HB0 := Lib.hid (show Below W8.heap.size W8 W8.drew from (Below.refl _ _).drew)
      have KK := Lib.hid (fun w' (hb : Below W8.heap.size W8 w') => And.intro (RA.out.on hb).c3.1 (And.intro (RA.out.on hb).c3.2.1 (And.intro (RA.out.on hb).c3.2.2 (And.intro (RB_.out.on hb).c3.1 (And.intro (RB_.out.on hb).c3.2.1 (And.intro (RB_.out.on hb).c3.2.2 (RC.out.on hb).c3))))))
      go_wp2_with (fail)
      rw [← hWl.out, ← hXl.out]
      clear hWl hXl
      go_region_held3 (fun w' => w'.cell? ⟨A, 0, none⟩ = some (.int .i64 ra.wide) ∧ w'.cell? ⟨A, 1, none⟩ = some (.int .i64 ra.tall) ∧ w'.cell? ⟨A, 2, none⟩ = some (.slice aA ra.cells.length cA) ∧ w'.cell? ⟨B, 0, none⟩ = some (.int .i64 rb.wide) ∧ w'.cell? ⟨B, 1, none⟩ = some (.int .i64 rb.tall) ∧ w'.cell? ⟨B, 2, none⟩ = some (.slice aB rb.cells.length cB) ∧ w'.cell? ⟨C, 0, none⟩ = some (.int .i64 rc.wide) ∧ w'.cell? ⟨C, 1, none⟩ = some (.int .i64 rc.tall) ∧ w'.cell? ⟨C, 2, none⟩ = some (.slice aC rc.cells.length cC))
        (first | with_reducible exact K5.out | with_reducible exact K4.out | with_reducible exact K3.out | with_reducible exact K2.out | with_reducible exact K1.out | (go_keep; done) | assumption)
        ((first
          | (go_at_call 25; refine (sameInts_is _ _ L L _ M4.out (Sl.below U.out G4.out) true (by simp)).mono ?_; rintro e y5 ⟨rfl, hb⟩; (have G5 := Lib.hid (G4.out.trans (hb.mono G4.out.size))); (have K5 := Lib.hid (KK.out _ G5.out)); clear hb)
          | (go_at_call 32; refine (C3.out _ _ _ (RC.out.on G3.out).v M3.out).mono ?_; rintro e y4 ⟨m4, rfl, hm, hb⟩; (have M4 := Lib.hid hm); (have G4 := Lib.hid (G3.out.trans (hb.mono G3.out.size))); (have K4 := Lib.hid (KK.out _ G4.out)); clear hb hm)
          | (go_at_call 32; refine (C2.out _ _ _ (RB_.out.on G2.out).v M2.out).mono ?_; rintro e y3 ⟨m3, rfl, hm, hb⟩; (have M3 := Lib.hid hm); (have G3 := Lib.hid (G2.out.trans (hb.mono G2.out.size))); (have K3 := Lib.hid (KK.out _ G3.out)); clear hb hm)
          | (go_at_call 32; refine (C1.out _ _ _ (RA.out.on G1.out).v (Sl.below V.out G1.out)).mono ?_; rintro e y2 ⟨m2, rfl, hm, hb⟩; (have M2 := Lib.hid hm); (have G2 := Lib.hid (G1.out.trans (hb.mono G1.out.size))); (have K2 := Lib.hid (KK.out _ G2.out)); clear hb hm)
          | (go_at_call 16; refine (LaidOk_is _ _ ra ql _ (RA.out.on HB0.out).v (Sl.below V.out HB0.out) true HA.out).mono ?_; rintro e y1 ⟨rfl, hb⟩; (have G1 := Lib.hid (HB0.out.trans (hb.mono HB0.out.size))); (have K1 := Lib.hid (KK.out _ G1.out)); clear hb)))
      go_wp2
      go_ret
      exact ⟨rfl, BW.out.trans (G5.out.mono BW.out.size)⟩

end Go.Proofs.Ytnmoaecihmjnnaa
