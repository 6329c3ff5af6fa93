/- The law FnLaidMany: its walk. -/
import Derived.Test.YtnmoaecihmjnnaaDrawL
import Derived.Test.YtnmoaecihmjnnaaWmanyS
import Derived.Test.YtnmoaecihmjnnaaLaidQ
import Derived.Test.YtnmoaecihmjnnaaLaw
namespace Go.Proofs.Ytnmoaecihmjnnaa
open Go.RowKit Domi

set_option maxRecDepth 100000 in
set_option maxHeartbeats 2000000 in
theorem FnLaidMany_walk (v : Value) (ys : List Int) (w : World) (h : Yl w v ys) (hr : ∀ i, i < ys.length → 0 ≤ ys.getD i 0 ∧ ys.getD i 0 ≤ 255) :
    Calls Try.prog 5 #[v] w (Ret (.bool true) w) := by
  have H := Lib.hid h
  have Hr := Lib.hid hr
  obtain ⟨a0, cap0, rfl, hlc0, hcm0, _⟩ := h.opened
  clear h hr
  by_cases hlen : (1048576 : Int) < (ys.length : Int)
  · go_enter Try.func5, Try.ntmps5
    go_wp2
    go_ret
    exact ⟨rfl, Below.refl _ _⟩
  · go_enter Try.func5, Try.ntmps5
    go_wp2_with (fail)
    refine (DrawLaidMany_any _ ys w H.out Hr.out).mono ?_
    rintro e w1 ⟨v1, u1, r, L, rfl, hv1, hu1, hsm, hl37, hb1⟩
    obtain ⟨a1, cap1, rfl, hs1, _, _⟩ := hv1.opened
    obtain ⟨ua, uc, rfl, hul, hum, _⟩ := hu1.opened
    have R := RB.new hs1
    have U := hu1.below (below_alloc w1 (.cells #[.int .i64 r.wide, .int .i64 r.tall, .slice a1 r.cells.length cap1] 25))
    obtain ⟨W, hW⟩ : ∃ W, W = w1.alloc (.cells #[.int .i64 r.wide, .int .i64 r.tall, .slice a1 r.cells.length cap1] 25) := ⟨_, rfl⟩
    rw [← hW] at R U
    have R := Lib.hid R
    have U := Lib.hid U
    have BW := Lib.hid (show Below w.heap.size w W by rw [hW]; exact hb1.alloc hb1.size _)
    have hX : w1.heap.size < W.heap.size := by rw [hW]; simp
    clear hs1 hb1 hv1 hu1
    go_wp2_with (fail)
    rw [← hW]
    clear hW
    generalize w1.heap.size = X at *
    obtain ⟨n, hn⟩ : ∃ n, laidMany r L = n := ⟨_, rfl⟩
    have HLM := fun (v u : Value) (w : World) (h : RegV w v r) (hu : Il w u L) => LaidMany_any v u r L w h hu
    have HSM := fun (v u : Value) (w : World) (h : RegV w v r) (hu : Il w u L) => sLaidMany_any v u r L w h hu
    rw [hn] at HLM HSM
    have HLM := Lib.hid HLM
    have HSM := Lib.hid HSM
    refine (HLM.out _ _ _ R.out.v U.out).mono ?_
    rintro e w2 ⟨rfl, hb⟩
    have BW := Lib.hid (BW.out.trans (hb.mono BW.out.size))
    have R := Lib.hid (R.out.on hb)
    have U := Lib.hid (U.out.below hb)
    clear hb
    obtain ⟨x0, x1, x2⟩ := R.out.c3
    go_wp2_with (fail)
    refine (HSM.out _ _ _ R.out.v U.out).mono ?_
    rintro e w3 ⟨rfl, hb⟩
    have BW := Lib.hid (BW.out.trans (hb.mono BW.out.size))
    have R := Lib.hid (R.out.on hb)
    have U := Lib.hid (U.out.below hb)
    clear hb
    clear x0 x1 x2
    cases hk : laidOk r L
    · have hneg : n = -1 := by rw [← hn, laidMany_no hk]
      subst hneg
      go_wp2_with (fail)
      refine (alive_any _).mono ?_
      rintro e w4 ⟨rfl, hb⟩
      have BW := Lib.hid (BW.out.trans (hb.mono BW.out.size))
      clear hb
      go_wp2
      go_ret
      exact ⟨rfl, BW.out⟩
    · have hny : n = wayN isLow L := by rw [← hn, laidMany_yes hk]
      have hbd := wayN_le isLow L
      have HTW := Lib.hid (show wayN isSome L = 2 * n by rw [hny]; exact laid_twice hk)
      have hn0 : 0 ≤ n := by omega
      have hn37 : n ≤ 37 := by omega
      clear hny hbd hn
      have hneg : ¬ n < 0 := by omega
      obtain ⟨m, hm⟩ : ∃ m, flatMany r L = m := ⟨_, rfl⟩
      have hm2 : 0 ≤ m ∧ m ≤ n := by
        have h1 := flatMany_yes hk
        rw [hm] at h1
        have h2 := laid_flat hk
        have h3 := HTW.out
        have h4 := laid_twice hk
        have h5 := wayN_le isEast L
        omega
      have HFM := fun (v u : Value) (w : World) (h : RegV w v r) (hu : Il w u L) => FlatMany_any v u r L w h hu
      rw [hm] at HFM
      have HFM := Lib.hid HFM
      clear hm hk
      go_wp2_with (fail)
      go_loop [6, 7] (fun c i => ∃ k : Nat, k ≤ L.length ∧ i = .int .i64 k ∧ c = .int .i64 (wayN isSome (L.take k))) (fun _ i => L.length - (intOf i).toNat)
      case atStart => exact ⟨0, Nat.zero_le _, rfl, rfl⟩
      case round =>
        obtain ⟨k, hk, rfl, rfl⟩ := hrel
        have hd := wayN_le isSome (L.take k)
        have hl : (L.take k).length ≤ k := List.length_take_le _ _
        by_cases hlt : k < L.length
        · obtain ⟨ub, uo, uc', hue, hub, huc, -, -⟩ := Il.pos U.out (by omega)
          obtain ⟨rfl, rfl⟩ : ua = some ⟨ub, uo, none⟩ ∧ uc = uc' := by simpa using hue
          have huk := huc w3 (Below.refl _ _) k hlt
          have HT := Lib.hid (wayN_take (p := isSome) hlt)
          clear hue huc
          obtain ⟨x, hx⟩ : ∃ x, L.getD k 0 = x := ⟨_, rfl⟩
          rw [hx] at huk HT
          clear hx
          by_cases hx0 : x = 0
          · subst hx0
            go_wp2
            go_round
            case rel => exact ⟨k + 1, by omega, by go_num, by rw [HT.out]; simp [isSome]⟩
            case measure => simp [intOf]; omega
          · have hxe : (x != 0) = true := by simpa using hx0
            have hxs : isSome x = true := hxe
            rw [hxs] at HT
            go_wp2
            go_round
            case rel => exact ⟨k + 1, by omega, by go_num, by rw [HT.out]; go_num⟩
            case measure => simp [intOf]; omega
        · have e : k = L.length := by omega
          subst e
          rw [List.take_length] at hd ⊢
          rw [HTW.out]
          obtain ⟨x0, x1, x2⟩ := R.out.c3
          go_wp2_with (fail)
          refine (HFM.out _ _ _ R.out.v U.out).mono ?_
          rintro e w5 ⟨rfl, hb⟩
          have BW := Lib.hid (BW.out.trans (hb.mono BW.out.size))
          have R := Lib.hid (R.out.on hb)
          have U := Lib.hid (U.out.below hb)
          clear hb
          clear x0 x1 x2
          have h1 : 0 ≤ m := hm2.1
          have h2 : m ≤ n := hm2.2
          go_wp2
          go_ret
          exact ⟨rfl, BW.out⟩

end Go.Proofs.Ytnmoaecihmjnnaa
