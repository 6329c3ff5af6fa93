/- The law FnTilingsAll: its walk. -/
import Derived.Test.YtnmoaecihmjnnaaVDrawE
import Derived.Test.YtnmoaecihmjnnaaVWtilsC
import Derived.Test.YtnmoaecihmjnnaaVWtilsS
import Derived.Test.YtnmoaecihmjnnaaZb
import Derived.Test.YtnmoaecihmjnnaaVWbef
import Derived.Test.YtnmoaecihmjnnaaVWd
import Derived.Test.YtnmoaecihmjnnaaVLaw
set_option linter.unusedVariables false
namespace Go.Proofs.Ytnmoaecihmjnnaa
open Go.RowKit Domi

theorem tall_len (v : Value) (q : Reg) (w : World) (h : RegV w v q) (n : Nat) (hn : (tilsR q).length = n) : Calls Try.prog 26 #[v] w fun e w' => ∃ a c, e = .returned (.slice a n c) ∧ (n ≤ c ∧ c ≤ 9223372036854775807) ∧ Below w.heap.size w w' :=
  (TilingsAll_any v q w h).mono fun e w' ⟨u, he, hu, hb⟩ => by
    obtain ⟨a, c, rfl, h1, h2, _⟩ := hu.opened
    rw [hn] at he h1
    exact ⟨a, c, he, ⟨h1, h2⟩, hb⟩
theorem sTilingsAll_ll (v : Value) (r : Reg) (w : World) (h : RegV w v r) : Calls Try.prog 55 #[v] w (RetLl (tilsR r) w) :=
  (sTilingsAll_any v r w h).mono fun e w' ⟨u, he, hu, hb⟩ => ⟨u, he, hu.ll, hb⟩
theorem tilingOk_is (v u : Value) (r : Reg) (L : List Int) (w : World) (h : RegV w v r) (hu : Il w u L) (b : Bool) (hb : tilingOk r L = b) : Calls Try.prog 47 #[v, u] w (Ret (.bool b) w) := by rw [← hb]; exact TilingOk_any v u r L w h hu
set_option maxRecDepth 100000 in
set_option maxHeartbeats 4000000 in
theorem FnTilingsAll_walk (v : Value) (ys : List Int) (w : World) (h : Yl w v ys) (hr : ∀ i, i < ys.length → 0 ≤ ys.getD i 0 ∧ ys.getD i 0 ≤ 255) :
    Calls Try.prog 12 #[v] w (Ret (.bool true) w) := by
  have H := Lib.hid h
  have Hr := Lib.hid hr
  obtain ⟨a0, cap0, rfl, hlc0, hcm0, _⟩ := h.opened
  clear h hr
  by_cases hlen : (1048576 : Int) < (ys.length : Int)
  · go_enter Try.func12, Try.ntmps12
    go_wp2
    go_ret
    exact ⟨rfl, Below.refl _ _⟩
  go_enter Try.func12, Try.ntmps12
  go_wp2_with (fail)
  refine (DrawTilingsAll_any _ ys w H.out Hr.out).mono ?_
  rintro e w1 ⟨v1, r, rfl, hv1, hsm, hb1⟩
  obtain ⟨a1, cap1, rfl, hs1, _, _⟩ := hv1.opened
  have R := RB.new hs1
  obtain ⟨W, hW⟩ : ∃ W, W = w1.alloc (.cells #[.int .i64 r.wide, .int .i64 r.tall, .slice a1 r.cells.length cap1] 25) := ⟨_, rfl⟩
  rw [← hW] at R
  have R := Lib.hid R
  have BW := Lib.hid (show Below w.heap.size w W by rw [hW]; exact hb1.alloc hb1.size _)
  have hX : w1.heap.size < W.heap.size := by rw [hW]; simp
  clear hs1 hb1 hv1
  go_wp2_with (fail)
  rw [← hW]
  clear hW
  generalize w1.heap.size = X at *
  clear hX
  obtain ⟨T, hT⟩ : ∃ T, tilsR r = T := ⟨_, rfl⟩
  have HI := fun (v : Value) (w : World) (h : RegV w v r) => TilingsAll_any v r w h
  have HS := fun (v : Value) (w : World) (h : RegV w v r) => sTilingsAll_ll v r w h
  rw [hT] at HI HS
  have HI := Lib.hid HI
  have HS := Lib.hid HS
  have HT := Lib.hid hT
  clear hT
  obtain ⟨x0, x1, x2⟩ := R.out.c3
  have sX := R.out.lt
  go_wp2_with (fail)
  refine (HI.out _ _ R.out.v).mono ?_
  rintro e w2 ⟨v2, rfl, hv2, hb⟩
  have BW := Lib.hid (BW.out.trans (hb.mono BW.out.size))
  have R := Lib.hid (R.out.on hb)
  have A := Lib.hid hv2
  clear hv2
  clear hb
  obtain ⟨za, zc, rfl, hz1, hz2, _⟩ := A.out.opened
  clear x0 x1 x2 sX
  obtain ⟨x0, x1, x2⟩ := R.out.c3
  have sX := R.out.lt
  go_wp2_with (fail)
  refine (HS.out _ _ R.out.v).mono ?_
  rintro e w3 ⟨v3, rfl, hv3, hb⟩
  have BW := Lib.hid (BW.out.trans (hb.mono BW.out.size))
  have R := Lib.hid (R.out.on hb)
  have A := Lib.hid (Ll.below A.out hb)
  have A3 := Lib.hid hv3
  clear hv3
  clear hb
  clear x0 x1 x2 sX
  go_wp2_with (fail)
  refine (sameLists_same _ _ T _ A.out A3.out).mono ?_
  rintro e w4 ⟨rfl, hb⟩
  have BW := Lib.hid (BW.out.trans (hb.mono BW.out.size))
  have R := Lib.hid (R.out.on hb)
  have A := Lib.hid (Ll.below A.out hb)
  clear hb
  clear A3
  obtain ⟨x0, x1, x2⟩ := R.out.c3
  have sX := R.out.lt
  go_wp2_with (fail)
  cases hv : r.valid
  · refine (sRegionValid_any _ r _ R.out.v).mono ?_
    rw [hv]
    rintro e w5 ⟨rfl, hb⟩
    have BW := Lib.hid (BW.out.trans (hb.mono BW.out.size))
    have hl0 : T.length = 0 := by rw [← HT.out, tilsR_no hv]; rfl
    clear hb x0 x1 x2 sX A
    generalize T.length = n at *
    obtain rfl := hl0
    go_wp2_with (fail)
    refine (alive_any _).mono ?_
    rintro e w6 ⟨rfl, hb⟩
    have BW := Lib.hid (BW.out.trans (hb.mono BW.out.size))
    clear hb
    go_wp2
    go_ret
    exact ⟨rfl, BW.out⟩
  · refine (sRegionValid_any _ r _ R.out.v).mono ?_
    rw [hv]
    rintro e w5 ⟨rfl, hb⟩
    have BW := Lib.hid (BW.out.trans (hb.mono BW.out.size))
    have R := Lib.hid (R.out.on hb)
    have A := Lib.hid (Ll.below A.out hb)
    clear hb x0 x1 x2 sX
    go_wp2_with (fail)
    go_loopw [5] (fun i wr => ∃ k : Nat, k ≤ T.length ∧ i = .int .i64 k ∧ Below w5.heap.size w5 wr) (fun i _ => T.length - (intOf i).toNat)
    case atStart => exact ⟨0, Nat.zero_le _, rfl, Below.refl _ _⟩
    case round =>
      obtain ⟨k, hk, rfl, hbw⟩ := hrel
      have HBW := Lib.hid hbw
      have R := Lib.hid (R.out.on hbw)
      have A := Lib.hid (Ll.below A.out hbw)
      have BW := Lib.hid (BW.out.trans (hbw.mono BW.out.size))
      clear hbw
      obtain ⟨x0, x1, x2⟩ := R.out.c3
      have sX := R.out.lt
      by_cases hlt : k < T.length
      · have hlt' : (k : Int) < (T.length : Int) := by omega
        obtain ⟨zb, zo, hza, hzb, hzcell⟩ : ∃ b off, za = some ⟨b, off, none⟩ ∧ b < wr.heap.size ∧ ∀ i, i < T.length → ∃ u, wr.cell? ⟨b, off + i, none⟩ = some u ∧ Il wr u (T.getD i []) := by
          obtain ⟨_, _, e, _, _, h3⟩ := A.out.opened
          simp only [Value.slice.injEq] at e
          obtain ⟨rfl, _, rfl⟩ := e
          rcases h3 with e | h3
          · rw [e] at hlt; simp at hlt
          · exact h3
        subst hza
        obtain ⟨u, hcu, hiu⟩ := hzcell k hlt
        have IU := Lib.hid hiu
        have HOK := Lib.hid (show tilingOk r (T.getD k []) = true by have h := HT.out; subst h; exact tils_at hlt)
        have hLc : ∀ (T' : Later wr) (b o : Nat), b < wr.heap.size → T'.x.cell? ⟨b, o, none⟩ = wr.cell? ⟨b, o, none⟩ := Later.cell
        by_cases hk0 : 0 < k
        · obtain ⟨u0, hcu0, hiu0⟩ := hzcell (k - 1) (by omega)
          have IU0 := Lib.hid hiu0
          have HBEF := Lib.hid (show befB (T.getD (k - 1) []) (T.getD k []) = true by have h := HT.out; subst h; exact befB_yes (tils_pair hk0 hlt))
          have HLEN := Lib.hid (show (T.getD (k - 1) []).length = (T.getD k []).length by have h := HT.out; subst h; rw [tiling_len (tils_at hlt), tiling_len (tils_at (k := k - 1) (by omega))])
          have hd : decide ((0 : Int) < (k : Int)) = true := decide_eq_true (by omega)
          have hk1 : 0 ≤ (k : Int) - 1 ∧ (k : Int) - 1 < (T.length : Int) := by omega
          clear hzcell hiu hiu0
          go_wp2_with (fail)
          refine wp_region_later_all (by kernel_rfl) (by kernel_rfl) ?_
          repeat (first | (go_big_quiet_step (fail)) | rw [hd])
          go_big_quiet_step (with_reducible exact calls_later _ (tilingOk_is _ _ r (T.getD k []) _ (R.out.on (Later.h _)).v (Il.below IU.out (Later.h _)) true HOK.out))
          repeat (first | (go_big_quiet_step (fail)) | rw [hd])
          go_big_quiet_step (with_reducible exact calls_later _ (before_is _ _ (T.getD (k - 1) []) (T.getD k []) _ (Il.below IU0.out (Later.h _)) (Il.below IU.out (Later.h _)) HLEN.out true HBEF.out))
          repeat (first | (go_big_quiet_step (fail)) | rw [hd])
          refine wpQuiet_nil ?_
          intro T'
          have B2 := Lib.hid (HBW.out.trans (T'.h.mono HBW.out.size))
          clear hLc hcu hcu0 x0 x1 x2 sX hd hk1
          go_wp2
          go_roundw
          case rel => exact ⟨k + 1, by omega, by go_num, B2.out⟩
          case measure => simp [intOf]; omega
        · have hk00 : k = 0 := by omega
          subst hk00
          clear hzcell hiu
          rw [Nat.add_zero] at hcu
          go_wp2_with (fail)
          refine wp_region_later_all (by kernel_rfl) (by kernel_rfl) ?_
          repeat (go_big_quiet_step (fail))
          go_big_quiet_step (with_reducible exact calls_later _ (tilingOk_is _ _ r (T.getD 0 []) _ (R.out.on (Later.h _)).v (Il.below IU.out (Later.h _)) true HOK.out))
          repeat (go_big_quiet_step (fail))
          refine wpQuiet_nil ?_
          intro T'
          have B2 := Lib.hid (HBW.out.trans (T'.h.mono HBW.out.size))
          clear hLc hcu x0 x1 x2 sX
          go_wp2
          go_roundw
          case rel => exact ⟨1, by omega, rfl, B2.out⟩
          case measure => simp [intOf]; omega
      · have e : k = T.length := by omega
        have HLT := Lib.hid (show (tilsR r.turn).length = T.length by rw [tils_turn hv, HT.out])
        have HLF := Lib.hid (show (tilsR r.mir).length = T.length by rw [tils_mir hv, HT.out])
        clear e
        generalize T.length = n at *
        go_wp2_with (fail)
        refine (RegionTurn_yes _ r _ R.out.v hv).mono ?_
        rintro e w6 ⟨vv, rfl, hvv, hb⟩
        have BW := Lib.hid (BW.out.trans (hb.mono BW.out.size))
        have R := Lib.hid (R.out.on hb)
        have VV := Lib.hid hvv
        obtain ⟨sv, rfl, _⟩ := hvv
        clear hb
        go_wp2_with (fail)
        refine (tall_len _ _ _ VV.out n HLT.out).mono ?_
        rintro e w7 ⟨qa, qc, rfl, hqc, hb⟩
        have BW := Lib.hid (BW.out.trans (hb.mono BW.out.size))
        have R := Lib.hid (R.out.on hb)
        clear hb
        clear x0 x1 x2 sX VV
        obtain ⟨x0, x1, x2⟩ := R.out.c3
        have sX := R.out.lt
        go_wp2_with (fail)
        refine (RegionFlip_yes _ r _ R.out.v hv).mono ?_
        rintro e w8 ⟨vv, rfl, hvv, hb⟩
        have BW := Lib.hid (BW.out.trans (hb.mono BW.out.size))
        have R := Lib.hid (R.out.on hb)
        have VV := Lib.hid hvv
        obtain ⟨sv, rfl, _⟩ := hvv
        clear hb
        go_wp2_with (fail)
        refine (tall_len _ _ _ VV.out n HLF.out).mono ?_
        rintro e w9 ⟨qa, qc, rfl, hqc, hb⟩
        have BW := Lib.hid (BW.out.trans (hb.mono BW.out.size))
        have R := Lib.hid (R.out.on hb)
        clear hb
        clear x0 x1 x2 sX
        go_wp2
        go_ret
        exact ⟨rfl, BW.out⟩

end Go.Proofs.Ytnmoaecihmjnnaa
