/- Walks: the reference's TilingOk. -/
import Derived.Test.YtbjenmfoblniaaaVWlaid
import Derived.Test.YtbjenmfoblniaaaVLil
import Derived.Test.YtbjenmfoblniaaaZb
set_option linter.unusedVariables false
namespace Go.Proofs.Ytbjenmfoblniaaa
open Go.RowKit Domi

theorem tilingOk_no {r : Reg} {L : List Int} {k : Nat} (hf : r.f k = true) (h0 : L.getD k 0 = 0) : tilingOk r L = false := by
  cases e : tilingOk r L
  · rfl
  · exact absurd h0 ((tilingOk_iff.1 e).2 k (f_lt hf) hf)
set_option maxRecDepth 100000 in
set_option maxHeartbeats 1000000 in
theorem sTilingOk_any (v u : Value) (r : Reg) (L : List Int) (w : World) (h : RegV w v r) (hu : Il w u L) : Calls Try.prog 94 #[v, u] w (Ret (.bool (tilingOk r L)) w) := by
  obtain ⟨a, cap, rfl, hs, hlc, hcm⟩ := h.opened
  obtain ⟨ua, uc, rfl, hul, hum, _⟩ := hu.opened
  have R := Lib.hid (RB.new hs)
  have BW := Lib.hid (below_alloc w (.cells #[.int .i64 r.wide, .int .i64 r.tall, .slice a r.cells.length cap] 29))
  have U := Lib.hid (hu.below BW.out)
  clear h hs hu
  obtain ⟨B, hB⟩ : ∃ B, B = tilingOk r L := ⟨_, rfl⟩
  rw [← hB]
  have HB := Lib.hid hB
  clear hB
  go_enter Try.func94, Try.ntmps94
  go_wp2_with (fail)
  cases hk : laidOk r L
  · refine (sLaidOk_is _ _ r L _ R.out.v U.out false hk).mono ?_
    rintro e w1 ⟨rfl, hb⟩
    have BW := Lib.hid (BW.out.trans (hb.mono BW.out.size))
    have hf : B = false := by rw [HB.out]; unfold tilingOk; rw [hk]; rfl
    clear hb HB
    subst hf
    go_wp2
    go_ret
    exact ⟨rfl, BW.out⟩
  · refine (sLaidOk_is _ _ r L _ R.out.v U.out true hk).mono ?_
    rintro e w1 ⟨rfl, hb⟩
    have BW1 := Lib.hid (BW.out.trans (hb.mono BW.out.size))
    have R1 := Lib.hid (R.out.on hb)
    have U1 : Hid (Il w1 _ L) := Lib.hid (Sl.below U.out hb)
    have HK := Lib.hid hk
    have hlen := (laidOk_iff.1 hk).2.1
    have hl36 : L.length ≤ 36 := by
      obtain ⟨b1, b2, b3, b4⟩ := Reg.valid_iff.1 (laidOk_iff.1 hk).1
      have := area_in b1 b2; omega
    have HLN := Lib.hid hlen
    clear hb hk R U BW
    have hle : (L.length : Int) = (r.cells.length : Int) := by omega
    have HLE := Lib.hid hle
    clear hle hlen
    go_wp2_with (fail)
    go_loopw [5] (fun i wr => ∃ k : Nat, k ≤ L.length ∧ i = .int .i64 k ∧ wr = w1 ∧ ∀ j, j < k → r.f j = true → L.getD j 0 ≠ 0) (fun i _ => L.length - (intOf i).toNat)
    case atStart => exact ⟨0, Nat.zero_le _, rfl, rfl, fun j hj => by omega⟩
    case round =>
      obtain ⟨k, hk, rfl, rfl, hall⟩ := hrel
      have HA := Lib.hid hall
      clear hall
      obtain ⟨x0, x1, x2⟩ := R1.out.c3
      have sX := R1.out.lt
      by_cases hlt : k < L.length
      · have hlt' : k < r.cells.length := by rw [← HLN.out]; exact hlt
        obtain ⟨_, _, _, b, o, rfl, hsc, hbc⟩ := bl_cell R1.out.bl (k := k) (by rw [← HLN.out]; exact hlt)
        obtain ⟨ub, uo, rfl, hub, huc⟩ := il_at U1.out hlt
        cases hfk : r.cells.getD k false
        · have HN : Hid (∀ j, j < k + 1 → r.f j = true → L.getD j 0 ≠ 0) := Lib.hid fun j hj hf => by
            by_cases e : j = k
            · subst e; rw [show r.f j = false from hfk] at hf; cases hf
            · exact HA.out j (by omega) hf
          rw [hfk] at hbc
          clear hfk
          go_wp2
          go_roundw
          case rel => exact ⟨k + 1, by omega, by go_num, by first | rfl | trivial, HN.out⟩
          case measure => simp [intOf]; omega
        · by_cases h0 : L.getD k 0 = 0
          · have hf : B = false := by rw [HB.out]; exact tilingOk_no (show r.f k = true from hfk) h0
            rw [hfk] at hbc
            rw [h0] at huc
            clear hfk h0 HB
            subst hf
            go_wp2
            go_ret
            exact ⟨rfl, BW1.out⟩
          · have HN : Hid (∀ j, j < k + 1 → r.f j = true → L.getD j 0 ≠ 0) := Lib.hid fun j hj hf => by
              by_cases e : j = k
              · subst e; exact h0
              · exact HA.out j (by omega) hf
            have hq : (L.getD k 0 == 0) = false := by simpa using h0
            rw [hfk] at hbc
            generalize L.getD k 0 = c at *
            clear hfk h0
            go_wp2
            go_roundw
            case rel => exact ⟨k + 1, by omega, by go_num, by first | rfl | trivial, HN.out⟩
            case measure => simp [intOf]; omega
      · have hf : B = true := by
          rw [HB.out]
          exact tilingOk_iff.2 ⟨HK.out, fun k hk hf => HA.out k (by rw [← HLN.out] at hk; omega) hf⟩
        clear HB
        subst hf
        go_wp2
        go_ret
        exact ⟨rfl, BW1.out⟩
end Go.Proofs.Ytbjenmfoblniaaa
