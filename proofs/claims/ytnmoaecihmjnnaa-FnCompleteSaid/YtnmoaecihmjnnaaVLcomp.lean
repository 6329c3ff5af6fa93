/- The law FnComplete: its walk. -/
import Derived.Test.YtnmoaecihmjnnaaVDrawL
import Derived.Test.YtnmoaecihmjnnaaVWtilsC
import Derived.Test.YtnmoaecihmjnnaaVWtilsB
import Derived.Test.YtnmoaecihmjnnaaVWcompB
import Derived.Test.YtnmoaecihmjnnaaVWmany
import Derived.Test.YtnmoaecihmjnnaaZb
import Derived.Test.YtnmoaecihmjnnaaVWbef
import Derived.Test.YtnmoaecihmjnnaaVLaw
set_option linter.unusedVariables false
namespace Go.Proofs.Ytnmoaecihmjnnaa
open Go.RowKit Domi

theorem il_at {w : World} {a : Option Addr} {n c : Nat} {L : List Int} (h : Il w (.slice a n c) L) {j : Nat} (hj : j < L.length) : ∃ b o, a = some ⟨b, o, none⟩ ∧ b < w.heap.size ∧ w.cell? ⟨b, o + j, none⟩ = some (.int .i64 (L.getD j 0)) := by
  obtain ⟨_, _, e, _, _, h3⟩ := h.opened
  simp only [Value.slice.injEq] at e
  obtain ⟨rfl, _, rfl⟩ := e
  rcases h3 with e | ⟨b, o, rfl, hb, hc⟩
  · rw [e] at hj; simp at hj
  · exact ⟨b, o, rfl, hb, hc j hj⟩
theorem ll_at {w : World} {a : Option Addr} {n c : Nat} {T : List (List Int)} (h : Ll w (.slice a n c) T) {k : Nat} (hk : k < T.length) {X : List Int} {m : Nat} (hX : T.getD k [] = X) (hm : X.length = m) :
    ∃ b o u q, a = some ⟨b, o, none⟩ ∧ b < w.heap.size ∧ w.cell? ⟨b, o + k, none⟩ = some (.slice u m q) ∧ (m ≤ q ∧ q ≤ 9223372036854775807) ∧ Il w (.slice u m q) X := by
  obtain ⟨_, _, e, _, _, h3⟩ := h.opened
  simp only [Value.slice.injEq] at e
  obtain ⟨rfl, _, rfl⟩ := e
  rcases h3 with e | ⟨b, o, rfl, hb, hc⟩
  · rw [e] at hk; simp at hk
  · obtain ⟨v, h1, h2⟩ := hc k hk
    rw [hX] at h2
    obtain ⟨u, q, rfl, hq1, hq2, _⟩ := h2.opened
    rw [hm] at h1 h2 hq1
    exact ⟨b, o, u, q, rfl, hb, h1, ⟨hq1, hq2⟩, h2⟩
theorem ext_upto {L X : List Int} (h : ∀ m, m < L.length → L.getD m 0 = 0 ∨ X.getD m 0 = L.getD m 0) : Ext L X := fun k hk => by
  by_cases hl : k < L.length
  · exact (h k hl).resolve_left hk
  · exact absurd (getD_far (by omega)) hk
theorem tilingOk_is' (v u : Value) (r : Reg) (L : List Int) (w : World) (h : RegV w v r) (hu : Il w u L) (b : Bool) (hb : tilingOk r L = b) : Calls Try.prog 47 #[v, u] w (Ret (.bool b) w) := by rw [← hb]; exact TilingOk_any v u r L w h hu
set_option maxRecDepth 100000 in
set_option maxHeartbeats 4000000 in
theorem FnComplete_walk (v : Value) (ys : List Int) (w : World) (h : Yl w v ys) (hr : ∀ i, i < ys.length → 0 ≤ ys.getD i 0 ∧ ys.getD i 0 ≤ 255) :
    Calls Try.prog 11 #[v] w (Ret (.bool true) w) := by
  have H := Lib.hid h
  have Hr := Lib.hid hr
  obtain ⟨a0, cap0, rfl, hlc0, hcm0, _⟩ := h.opened
  clear h hr
  by_cases hlen : (1048576 : Int) < (ys.length : Int)
  · go_enter Try.func11, Try.ntmps11
    go_wp2
    go_ret
    exact ⟨rfl, Below.refl _ _⟩
  go_enter Try.func11, Try.ntmps11
  go_wp2_with (fail)
  refine (DrawComplete_any _ ys w H.out Hr.out).mono ?_
  rintro e w1 ⟨v1, u1, r, L, rfl, hv1, hu1, hsm, hl37, hb1⟩
  obtain ⟨a1, cap1, rfl, hs1, _, _⟩ := hv1.opened
  obtain ⟨ua, uc, rfl, hul, hum, _⟩ := hu1.opened
  have R := RB.new hs1
  have U := hu1.below (below_alloc w1 (.cells #[.int .i64 r.wide, .int .i64 r.tall, .slice a1 r.cells.length cap1] 25))
  obtain ⟨W, hW⟩ : ∃ W, W = w1.alloc (.cells #[.int .i64 r.wide, .int .i64 r.tall, .slice a1 r.cells.length cap1] 25) := ⟨_, rfl⟩
  rw [← hW] at R U
  have R := Lib.hid R
  have U := Lib.hid U
  have BW := Lib.hid (show Below w.heap.size w W by rw [hW]; exact hb1.alloc hb1.size _)
  have hX : w1.heap.size < W.heap.size := by rw [hW]; simp
  clear hs1 hb1 hv1 hu1
  go_wp2_with (fail)
  rw [← hW]
  clear hW
  generalize w1.heap.size = X at *
  clear hX
  obtain ⟨l, b, hq⟩ : ∃ l b, completeR r L = (l, b) := ⟨_, _, rfl⟩
  have HI : Hid (∀ (v u : Value) (w : World), RegV w v r → Il w u L → Calls Try.prog 50 #[v, u] w fun e w' => ∃ x, e = .returned (.tuple #[x, .bool b]) ∧ Il w' x l ∧ Below w.heap.size w w') := Lib.hid fun v u w h hu => by have := Complete_any v u r L w h hu; rw [hq] at this; exact this
  have HS : Hid (∀ (v u : Value) (w : World), RegV w v r → Il w u L → Calls Try.prog 51 #[v, u] w fun e w' => ∃ x, e = .returned (.tuple #[x, .bool b]) ∧ Il w' x l ∧ Below w.heap.size w w') := Lib.hid fun v u w h hu => (sComplete_any v u r L w h hu).mono fun e w' => by rw [hq]; rintro ⟨u, he, ho, hb⟩; exact ⟨u, he, own_il ho, hb⟩
  have HT := Lib.hid (fun (v : Value) (w : World) (h : RegV w v r) => TilingsAll_any v r w h)
  have HQ := Lib.hid hq
  clear hq
  obtain ⟨x0, x1, x2⟩ := R.out.c3
  have sX := R.out.lt
  go_wp2_with (fail)
  refine (HI.out _ _ _ R.out.v U.out).mono ?_
  rintro e w2 ⟨x, rfl, hx, hb⟩
  have BW := Lib.hid (BW.out.trans (hb.mono BW.out.size))
  have R := Lib.hid (R.out.on hb)
  have U := Lib.hid (Sl.below U.out hb)
  have V := Lib.hid hx
  clear hx
  clear hb
  obtain ⟨va, vc, hvf⟩ : ∃ a c, x = .slice a l.length c := by obtain ⟨a, c, e, _⟩ := V.out.opened; exact ⟨a, c, e⟩
  subst hvf
  obtain ⟨hvc1, hvc2⟩ : l.length ≤ vc ∧ vc ≤ 9223372036854775807 := by obtain ⟨_, _, e, h1, h2, _⟩ := V.out.opened; simp only [Value.slice.injEq] at e; obtain ⟨_, _, rfl⟩ := e; exact ⟨h1, h2⟩
  clear x0 x1 x2 sX
  obtain ⟨x0, x1, x2⟩ := R.out.c3
  have sX := R.out.lt
  go_wp2_with (fail)
  refine (HS.out _ _ _ R.out.v U.out).mono ?_
  rintro e w3 ⟨y, rfl, hy, hb⟩
  have BW := Lib.hid (BW.out.trans (hb.mono BW.out.size))
  have R := Lib.hid (R.out.on hb)
  have U := Lib.hid (Sl.below U.out hb)
  have V := Lib.hid (Sl.below V.out hb)
  have V3 := Lib.hid hy
  clear hy
  clear hb
  clear x0 x1 x2 sX
  cases hok : laidOk r L
  · have HL := Lib.hid hok
    clear hok
    obtain ⟨hl, hbf⟩ : l = [] ∧ b = false := by have h := HQ.out; rw [completeR_no HL.out] at h; cases h; exact ⟨rfl, rfl⟩
    subst hbf
    have HL0 : Hid (l.length = 0) := Lib.hid (by rw [hl]; rfl)
    clear hl
    go_wp2_with (fail)
    refine (sameInts_is _ _ l l _ V.out V3.out true (by simp)).mono ?_
    rintro e w4 ⟨rfl, hb⟩
    have BW := Lib.hid (BW.out.trans (hb.mono BW.out.size))
    have R := Lib.hid (R.out.on hb)
    have U := Lib.hid (Sl.below U.out hb)
    have V := Lib.hid (Sl.below V.out hb)
    clear hb
    clear V3
    obtain ⟨x0, x1, x2⟩ := R.out.c3
    have sX := R.out.lt
    go_wp2_with (fail)
    refine (sLaidOk_is _ _ r L _ R.out.v U.out false HL.out).mono ?_
    rintro e w5 ⟨rfl, hb⟩
    have BW := Lib.hid (BW.out.trans (hb.mono BW.out.size))
    have R := Lib.hid (R.out.on hb)
    have U := Lib.hid (Sl.below U.out hb)
    have V := Lib.hid (Sl.below V.out hb)
    clear hb
    clear x0 x1 x2 sX
    have hl0 := HL0.out
    clear V
    generalize l.length = q at *
    obtain rfl := hl0
    go_wp2_with (fail)
    refine (alive_any _).mono ?_
    rintro e w6 ⟨rfl, hb⟩
    have BW := Lib.hid (BW.out.trans (hb.mono BW.out.size))
    clear hb
    go_wp2
    go_ret
    exact ⟨rfl, BW.out⟩
  · have HL := Lib.hid hok
    clear hok
    cases b
    · go_wp2_with (fail)
      refine (sameInts_is _ _ l l _ V.out V3.out true (by simp)).mono ?_
      rintro e w4 ⟨rfl, hb⟩
      have BW := Lib.hid (BW.out.trans (hb.mono BW.out.size))
      have R := Lib.hid (R.out.on hb)
      have U := Lib.hid (Sl.below U.out hb)
      have V := Lib.hid (Sl.below V.out hb)
      clear hb
      clear V3
      obtain ⟨x0, x1, x2⟩ := R.out.c3
      have sX := R.out.lt
      go_wp2_with (fail)
      refine (sLaidOk_is _ _ r L _ R.out.v U.out true HL.out).mono ?_
      rintro e w5 ⟨rfl, hb⟩
      have BW := Lib.hid (BW.out.trans (hb.mono BW.out.size))
      have R := Lib.hid (R.out.on hb)
      have U := Lib.hid (Sl.below U.out hb)
      have V := Lib.hid (Sl.below V.out hb)
      clear hb
      clear x0 x1 x2 sX
      have HLen := Lib.hid (laidOk_iff.1 HL.out).2.1
      obtain ⟨x0, x1, x2⟩ := R.out.c3
      have sX := R.out.lt
      go_wp2_with (fail)
      refine (HT.out _ _ R.out.v).mono ?_
      rintro e w6 ⟨z, rfl, hz, hb⟩
      have BW := Lib.hid (BW.out.trans (hb.mono BW.out.size))
      have R := Lib.hid (R.out.on hb)
      have U := Lib.hid (Sl.below U.out hb)
      have V := Lib.hid (Sl.below V.out hb)
      have A := Lib.hid hz
      clear hz
      clear hb
      clear x0 x1 x2 sX
      obtain ⟨za, zc, rfl, hz1, hz2, _⟩ := A.out.opened
      have HTA : Hid (∀ k, k < (tilsR r).length → tilingOk r ((tilsR r).getD k []) = true) := Lib.hid fun k hk => tils_at hk
      have HE : Hid (l = [] ∧ ∀ X, tilingOk r X = true → ¬ Ext L X) := Lib.hid (by have h := complete_none HL.out (by rw [HQ.out]); rw [HQ.out] at h; exact h)
      obtain ⟨T, hT⟩ : ∃ T, tilsR r = T := ⟨_, rfl⟩
      rw [hT] at A HTA hz1 ⊢
      clear hT
      clear HI HS HT HQ
      obtain ⟨wo, hwo⟩ : ∃ wo : World, wo = w6 := ⟨_, rfl⟩
      go_wp2_with (fail)
      go_loopw [10] (fun i wr => ∃ k : Nat, k ≤ T.length ∧ i = .int .i64 k ∧ Below wo.heap.size wo wr) (fun i _ => T.length - (intOf i).toNat)
      case atStart => exact ⟨0, Nat.zero_le _, rfl, by rw [hwo]; exact Below.refl _ _⟩
      case round =>
        subst hwo
        obtain ⟨k, hk, rfl, hbw⟩ := hrel
        have HBW := Lib.hid hbw
        clear hbw
        by_cases hlt : k < T.length
        · have hlt' : (k : Int) < (T.length : Int) := by omega
          obtain ⟨X, hX⟩ : ∃ X, T.getD k [] = X := ⟨_, rfl⟩
          have HX := Lib.hid hX
          have HXok : Hid (tilingOk r X = true) := Lib.hid (by rw [← hX]; exact HTA.out k hlt)
          have HXl : Hid (X.length = L.length) := Lib.hid (by rw [tiling_len HXok.out, HLen.out])
          clear hX
          obtain ⟨zb, zo, ka, kc, hza, hzb, hzk, hkc, hkx⟩ := ll_at (Ll.below A.out HBW.out) hlt HX.out HXl.out
          subst hza
          clear hkx
          have hll : ((L.length : Int) == (L.length : Int)) = true := by simp
          go_wp2_with (fail)
          clear hzk
          go_loopw [11, 12] (fun h i wr => ∃ j : Nat, j ≤ L.length ∧ i = .int .i64 j ∧ Hid ((h = .bool true ∧ ∀ m, m < j → L.getD m 0 = 0 ∨ X.getD m 0 = L.getD m 0) ∨ (h = .bool false ∧ ¬ Ext L X)) ∧ Below wo.heap.size wo wr) (fun _ i _ => L.length - (intOf i).toNat)
          case atStart => exact ⟨0, Nat.zero_le _, rfl, Lib.hid (.inl ⟨rfl, fun m hm => by omega⟩), HBW.out⟩
          case round =>
            obtain ⟨j, hj, rfl, hh, hbw⟩ := hrel
            have HBW := Lib.hid hbw
            clear hbw
            obtain ⟨zb2, zo2, ka, kc, hza, hzb, hzk, hkc, hkx⟩ := ll_at (Ll.below A.out HBW.out) hlt HX.out HXl.out
            obtain ⟨rfl, rfl⟩ : zb = zb2 ∧ zo = zo2 := by simpa using hza
            clear hza
            have HKX := Lib.hid hkx
            clear hkx
            by_cases hjl : j < L.length
            · have hjl' : (j : Int) < (L.length : Int) := by omega
              obtain ⟨ub, uo, hua, hub, huc⟩ := il_at (Sl.below U.out HBW.out) (j := j) hjl
              obtain ⟨kb, ko, hka, hkb, hkv⟩ := il_at HKX.out (j := j) (by rw [HXl.out]; exact hjl)
              subst hua hka
              have hd := hh.out
              clear hh
              rcases hd with ⟨rfl, hh⟩ | ⟨rfl, hh⟩
              · have HH := Lib.hid hh
                clear hh
                by_cases h0 : L.getD j 0 = 0
                · have HN : Hid (∀ m, m < j + 1 → L.getD m 0 = 0 ∨ X.getD m 0 = L.getD m 0) := Lib.hid fun m hm => by
                    by_cases e : m = j
                    · subst e; exact .inl h0
                    · exact HH.out m (by omega)
                  rw [h0] at huc
                  generalize X.getD j 0 = c at *
                  clear h0
                  go_wp2
                  go_quiet (fail)
                  go_wp2
                  go_roundw
                  case rel => exact ⟨j + 1, by omega, by go_num, Lib.hid (.inl ⟨rfl, HN.out⟩), bel_dn HBW.out _⟩
                  case measure => simp [intOf]; omega
                · by_cases h1 : X.getD j 0 = L.getD j 0
                  · have HN : Hid (∀ m, m < j + 1 → L.getD m 0 = 0 ∨ X.getD m 0 = L.getD m 0) := Lib.hid fun m hm => by
                      by_cases e : m = j
                      · subst e; exact .inr h1
                      · exact HH.out m (by omega)
                    rw [h1] at hkv
                    have hc0 : ((L.getD j 0) == 0) = false := by simpa using h0
                    generalize L.getD j 0 = c at *
                    have hcc : (c == c) = true := by simp
                    clear h0 h1
                    go_wp2
                    go_quiet (fail)
                    go_wp2
                    go_roundw
                    case rel => exact ⟨j + 1, by omega, by go_num, Lib.hid (.inl ⟨rfl, HN.out⟩), bel_dn HBW.out _⟩
                    case measure => simp [intOf]; omega
                  · have HN : Hid (¬ Ext L X) := Lib.hid fun h => h1 (h j h0)
                    have hc0 : ((L.getD j 0) == 0) = false := by simpa using h0
                    have hcd : ((X.getD j 0) == (L.getD j 0)) = false := by simpa using h1
                    generalize L.getD j 0 = c at *
                    generalize X.getD j 0 = d at *
                    clear h0 h1
                    go_wp2
                    go_quiet (fail)
                    go_wp2
                    go_roundw
                    case rel => exact ⟨j + 1, by omega, by go_num, Lib.hid (.inr ⟨rfl, HN.out⟩), bel_dn HBW.out _⟩
                    case measure => simp [intOf]; omega
              · clear hh
                go_wp2_with (fail)
                go_roundw
                case rel => exact ⟨k + 1, by omega, by go_num, HBW.out⟩
                case measure => simp [intOf]; omega
            · have hd := hh.out
              clear hh
              rcases hd with ⟨rfl, hh⟩ | ⟨rfl, hh⟩
              · have HX2 : Hid (Ext L X) := Lib.hid (ext_upto fun m hm => hh m (by omega))
                clear hh
                exact absurd HX2.out (HE.out.2 X HXok.out)
              · clear hh
                go_wp2_with (fail)
                go_roundw
                case rel => exact ⟨k + 1, by omega, by go_num, HBW.out⟩
                case measure => simp [intOf]; omega
        · have hl0 : l.length = 0 := by rw [HE.out.1]; rfl
          have BW := Lib.hid (BW.out.trans (HBW.out.mono BW.out.size))
          clear HBW V HE
          generalize l.length = q at *
          obtain rfl := hl0
          go_wp2
          go_ret
          exact ⟨rfl, BW.out⟩
    · go_wp2_with (fail)
      refine (sameInts_is _ _ l l _ V.out V3.out true (by simp)).mono ?_
      rintro e w4 ⟨rfl, hb⟩
      have BW := Lib.hid (BW.out.trans (hb.mono BW.out.size))
      have R := Lib.hid (R.out.on hb)
      have U := Lib.hid (Sl.below U.out hb)
      have V := Lib.hid (Sl.below V.out hb)
      clear hb
      clear V3
      obtain ⟨x0, x1, x2⟩ := R.out.c3
      have sX := R.out.lt
      go_wp2_with (fail)
      refine (sLaidOk_is _ _ r L _ R.out.v U.out true HL.out).mono ?_
      rintro e w5 ⟨rfl, hb⟩
      have BW := Lib.hid (BW.out.trans (hb.mono BW.out.size))
      have R := Lib.hid (R.out.on hb)
      have U := Lib.hid (Sl.below U.out hb)
      have V := Lib.hid (Sl.below V.out hb)
      clear hb
      clear x0 x1 x2 sX
      have HLen := Lib.hid (laidOk_iff.1 HL.out).2.1
      obtain ⟨x0, x1, x2⟩ := R.out.c3
      have sX := R.out.lt
      go_wp2_with (fail)
      refine (HT.out _ _ R.out.v).mono ?_
      rintro e w6 ⟨z, rfl, hz, hb⟩
      have BW := Lib.hid (BW.out.trans (hb.mono BW.out.size))
      have R := Lib.hid (R.out.on hb)
      have U := Lib.hid (Sl.below U.out hb)
      have V := Lib.hid (Sl.below V.out hb)
      have A := Lib.hid hz
      clear hz
      clear hb
      clear x0 x1 x2 sX
      obtain ⟨za, zc, rfl, hz1, hz2, _⟩ := A.out.opened
      have HTA : Hid (∀ k, k < (tilsR r).length → tilingOk r ((tilsR r).getD k []) = true) := Lib.hid fun k hk => tils_at hk
      have HE : Hid ((tilingOk r l = true ∧ Ext L l) ∧ ∀ X, tilingOk r X = true → Ext L X → ¬ Bef X l) := Lib.hid (by have h := complete_first HL.out (by rw [HQ.out]); rw [HQ.out] at h; exact h)
      obtain ⟨T, hT⟩ : ∃ T, tilsR r = T := ⟨_, rfl⟩
      rw [hT] at A HTA hz1 ⊢
      clear hT
      clear HI HS HT HQ
      obtain ⟨wo, hwo⟩ : ∃ wo : World, wo = w6 := ⟨_, rfl⟩
      go_wp2_with (fail)
      go_loopw [10] (fun i wr => ∃ k : Nat, k ≤ T.length ∧ i = .int .i64 k ∧ Below wo.heap.size wo wr) (fun i _ => T.length - (intOf i).toNat)
      case atStart => exact ⟨0, Nat.zero_le _, rfl, by rw [hwo]; exact Below.refl _ _⟩
      case round =>
        subst hwo
        obtain ⟨k, hk, rfl, hbw⟩ := hrel
        have HBW := Lib.hid hbw
        clear hbw
        by_cases hlt : k < T.length
        · have hlt' : (k : Int) < (T.length : Int) := by omega
          obtain ⟨X, hX⟩ : ∃ X, T.getD k [] = X := ⟨_, rfl⟩
          have HX := Lib.hid hX
          have HXok : Hid (tilingOk r X = true) := Lib.hid (by rw [← hX]; exact HTA.out k hlt)
          have HXl : Hid (X.length = L.length) := Lib.hid (by rw [tiling_len HXok.out, HLen.out])
          clear hX
          obtain ⟨zb, zo, ka, kc, hza, hzb, hzk, hkc, hkx⟩ := ll_at (Ll.below A.out HBW.out) hlt HX.out HXl.out
          subst hza
          clear hkx
          have hll : ((L.length : Int) == (L.length : Int)) = true := by simp
          go_wp2_with (fail)
          clear hzk
          go_loopw [11, 12] (fun h i wr => ∃ j : Nat, j ≤ L.length ∧ i = .int .i64 j ∧ Hid ((h = .bool true ∧ ∀ m, m < j → L.getD m 0 = 0 ∨ X.getD m 0 = L.getD m 0) ∨ (h = .bool false ∧ ¬ Ext L X)) ∧ Below wo.heap.size wo wr) (fun _ i _ => L.length - (intOf i).toNat)
          case atStart => exact ⟨0, Nat.zero_le _, rfl, Lib.hid (.inl ⟨rfl, fun m hm => by omega⟩), HBW.out⟩
          case round =>
            obtain ⟨j, hj, rfl, hh, hbw⟩ := hrel
            have HBW := Lib.hid hbw
            clear hbw
            obtain ⟨zb2, zo2, ka, kc, hza, hzb, hzk, hkc, hkx⟩ := ll_at (Ll.below A.out HBW.out) hlt HX.out HXl.out
            obtain ⟨rfl, rfl⟩ : zb = zb2 ∧ zo = zo2 := by simpa using hza
            clear hza
            have HKX := Lib.hid hkx
            clear hkx
            by_cases hjl : j < L.length
            · have hjl' : (j : Int) < (L.length : Int) := by omega
              obtain ⟨ub, uo, hua, hub, huc⟩ := il_at (Sl.below U.out HBW.out) (j := j) hjl
              obtain ⟨kb, ko, hka, hkb, hkv⟩ := il_at HKX.out (j := j) (by rw [HXl.out]; exact hjl)
              subst hua hka
              have hd := hh.out
              clear hh
              rcases hd with ⟨rfl, hh⟩ | ⟨rfl, hh⟩
              · have HH := Lib.hid hh
                clear hh
                by_cases h0 : L.getD j 0 = 0
                · have HN : Hid (∀ m, m < j + 1 → L.getD m 0 = 0 ∨ X.getD m 0 = L.getD m 0) := Lib.hid fun m hm => by
                    by_cases e : m = j
                    · subst e; exact .inl h0
                    · exact HH.out m (by omega)
                  rw [h0] at huc
                  generalize X.getD j 0 = c at *
                  clear h0
                  go_wp2
                  go_quiet (fail)
                  go_wp2
                  go_roundw
                  case rel => exact ⟨j + 1, by omega, by go_num, Lib.hid (.inl ⟨rfl, HN.out⟩), bel_dn HBW.out _⟩
                  case measure => simp [intOf]; omega
                · by_cases h1 : X.getD j 0 = L.getD j 0
                  · have HN : Hid (∀ m, m < j + 1 → L.getD m 0 = 0 ∨ X.getD m 0 = L.getD m 0) := Lib.hid fun m hm => by
                      by_cases e : m = j
                      · subst e; exact .inr h1
                      · exact HH.out m (by omega)
                    rw [h1] at hkv
                    have hc0 : ((L.getD j 0) == 0) = false := by simpa using h0
                    generalize L.getD j 0 = c at *
                    have hcc : (c == c) = true := by simp
                    clear h0 h1
                    go_wp2
                    go_quiet (fail)
                    go_wp2
                    go_roundw
                    case rel => exact ⟨j + 1, by omega, by go_num, Lib.hid (.inl ⟨rfl, HN.out⟩), bel_dn HBW.out _⟩
                    case measure => simp [intOf]; omega
                  · have HN : Hid (¬ Ext L X) := Lib.hid fun h => h1 (h j h0)
                    have hc0 : ((L.getD j 0) == 0) = false := by simpa using h0
                    have hcd : ((X.getD j 0) == (L.getD j 0)) = false := by simpa using h1
                    generalize L.getD j 0 = c at *
                    generalize X.getD j 0 = d at *
                    clear h0 h1
                    go_wp2
                    go_quiet (fail)
                    go_wp2
                    go_roundw
                    case rel => exact ⟨j + 1, by omega, by go_num, Lib.hid (.inr ⟨rfl, HN.out⟩), bel_dn HBW.out _⟩
                    case measure => simp [intOf]; omega
              · clear hh
                go_wp2_with (fail)
                go_roundw
                case rel => exact ⟨k + 1, by omega, by go_num, HBW.out⟩
                case measure => simp [intOf]; omega
            · have hd := hh.out
              clear hh
              rcases hd with ⟨rfl, hh⟩ | ⟨rfl, hh⟩
              · have HX2 : Hid (Ext L X) := Lib.hid (ext_upto fun m hm => hh m (by omega))
                clear hh
                have HBF : Hid (befB X l = false) := Lib.hid (befB_no (HE.out.2 X HXok.out HX2.out))
                have HVl : Hid (X.length = l.length) := Lib.hid (by rw [tiling_len HXok.out, tiling_len HE.out.1.1])
                have V2 := Lib.hid (Sl.below V.out HBW.out)
                go_wp2_with (fail)
                refine (before_is _ _ X l _ HKX.out V2.out HVl.out false HBF.out).mono ?_
                rintro e w8 ⟨rfl, hb⟩
                have B2 := Lib.hid (HBW.out.trans (hb.mono HBW.out.size))
                clear hb hzk
                go_wp2_with (fail)
                go_roundw
                case rel => exact ⟨k + 1, by omega, by go_num, B2.out⟩
                case measure => simp [intOf]; omega
              · clear hh
                go_wp2_with (fail)
                go_roundw
                case rel => exact ⟨k + 1, by omega, by go_num, HBW.out⟩
                case measure => simp [intOf]; omega
        · have BW := Lib.hid (BW.out.trans (HBW.out.mono BW.out.size))
          have R := Lib.hid (R.out.on HBW.out)
          have U := Lib.hid (Sl.below U.out HBW.out)
          have V := Lib.hid (Sl.below V.out HBW.out)
          have HVl : Hid (l.length = L.length) := Lib.hid (by rw [tiling_len HE.out.1.1, HLen.out])
          clear HBW A
          obtain ⟨wp, hwp⟩ : ∃ wp : World, wp = wr := ⟨_, rfl⟩
          go_wp2_with (fail)
          go_loopw [13] (fun i wr => ∃ j : Nat, j ≤ L.length ∧ i = .int .i64 j ∧ Below wp.heap.size wp wr) (fun i _ => L.length - (intOf i).toNat)
          case atStart => exact ⟨0, Nat.zero_le _, rfl, by rw [hwp]; exact Below.refl _ _⟩
          case round =>
            subst hwp
            obtain ⟨j, hj, rfl, hbw⟩ := hrel
            have HBW := Lib.hid hbw
            clear hbw
            by_cases hjl : j < L.length
            · have hjl' : (j : Int) < (L.length : Int) := by omega
              have hjv' : (j : Int) < (l.length : Int) := by rw [HVl.out]; omega
              obtain ⟨ub, uo, hua, hub, huc⟩ := il_at (Sl.below U.out HBW.out) (j := j) hjl
              obtain ⟨vb, vo, hva, hvb, hvc⟩ := il_at (Sl.below V.out HBW.out) (j := j) (by rw [HVl.out]; exact hjl)
              subst hua hva
              by_cases h0 : L.getD j 0 = 0
              · rw [h0] at huc
                generalize l.getD j 0 = c at *
                clear h0
                go_wp2
                go_quiet (fail)
                go_wp2
                go_roundw
                case rel => exact ⟨j + 1, by omega, by go_num, bel_dn HBW.out _⟩
                case measure => simp [intOf]; omega
              · rw [HE.out.1.2 j h0] at hvc
                have hc0 : ((L.getD j 0) != 0) = true := by simpa using h0
                generalize L.getD j 0 = c at *
                have hcc : (c != c) = false := by simp
                clear h0
                go_wp2
                go_quiet (fail)
                go_wp2
                go_roundw
                case rel => exact ⟨j + 1, by omega, by go_num, bel_dn HBW.out _⟩
                case measure => simp [intOf]; omega
            · have BW := Lib.hid (BW.out.trans (HBW.out.mono BW.out.size))
              have R := Lib.hid (R.out.on HBW.out)
              have V := Lib.hid (Sl.below V.out HBW.out)
              clear HBW
              obtain ⟨x0, x1, x2⟩ := R.out.c3
              have sX := R.out.lt
              go_wp2_with (fail)
              refine (tilingOk_is' _ _ r l _ R.out.v V.out true HE.out.1.1).mono ?_
              rintro e w9 ⟨rfl, hb⟩
              have BW := Lib.hid (BW.out.trans (hb.mono BW.out.size))
              clear hb
              go_wp2
              go_ret
              exact ⟨rfl, BW.out⟩

end Go.Proofs.Ytnmoaecihmjnnaa
