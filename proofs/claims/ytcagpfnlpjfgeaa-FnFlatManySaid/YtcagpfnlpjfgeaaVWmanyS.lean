/- Walks: LaidMany, FlatMany of the reference. -/
import Derived.Test.YtcagpfnlpjfgeaaVWmany
set_option linter.unusedVariables false
namespace Go.Proofs.Ytcagpfnlpjfgeaa
open Go.RowKit Domi

set_option maxHeartbeats 1000000 in
theorem sFlatMany_any (v u : Value) (r : Reg) (L : List Int) (w : World) (h : RegV w v r) (hu : Il w u L) : Calls Try.prog 26 #[v, u] w (Ret (.int .i64 (flatMany r L)) w) := by
  obtain ⟨a, cap, rfl, hs, hlc, hcm⟩ := h.opened
  have R0 := Lib.hid (RB.new hs)
  have B0 := Lib.hid (below_alloc w (.cells #[.int .i64 r.wide, .int .i64 r.tall, .slice a r.cells.length cap] 25))
  have HU := Lib.hid hu
  obtain ⟨ua, uc, rfl, hul, hum, _⟩ := hu.opened
  clear h hs hu
  cases hk : laidOk r L
  · go_enter Try.func26, Try.ntmps26
    go_wp2_with (fail)
    refine (sLaidOk_is _ _ r L _ R0.out.v (HU.out.below B0.out) false hk).mono ?_
    rintro e w1 ⟨rfl, hb⟩
    have HB := Lib.hid (B0.out.trans (hb.mono B0.out.size))
    clear hb
    go_wp2
    go_ret
    exact ⟨ret_int (flatMany_no hk).symm, HB.out⟩
  · have HY := Lib.hid (flatMany_yes hk)
    go_enter Try.func26, Try.ntmps26
    go_wp2_with (fail)
    refine (sLaidOk_is _ _ r L _ R0.out.v (HU.out.below B0.out) true hk).mono ?_
    rintro e w1 ⟨rfl, hb⟩
    have HB := Lib.hid (B0.out.trans (hb.mono B0.out.size))
    have HU1 := Lib.hid (HU.out.below HB.out)
    clear hb hk
    go_wp2_with (fail)
    go_loop [5, 6] (fun n i => ∃ k : Nat, k ≤ L.length ∧ i = .int .i64 k ∧ n = .int .i64 (wayN isEast (L.take k))) (fun _ i => L.length - (intOf i).toNat)
    case atStart => exact ⟨0, Nat.zero_le _, rfl, rfl⟩
    case round =>
      obtain ⟨k, hk, rfl, rfl⟩ := hrel
      have hd := wayN_le isEast (L.take k)
      have hl : (L.take k).length ≤ k := List.length_take_le _ _
      by_cases hlt : k < L.length
      · obtain ⟨ub, uo, uc', hue, hub, huc, -, -⟩ := Il.pos HU1.out (by omega)
        obtain ⟨rfl, rfl⟩ : ua = some ⟨ub, uo, none⟩ ∧ uc = uc' := by simpa using hue
        have huk := huc w1 (Below.refl _ _) k hlt
        have HT := Lib.hid (wayN_take (p := isEast) hlt)
        clear hue huc
        obtain ⟨x, hx⟩ : ∃ x, L.getD k 0 = x := ⟨_, rfl⟩
        rw [hx] at huk HT
        clear hx
        by_cases h1 : x = 1
        · subst h1
          rw [show isEast 1 = true from rfl] at HT
          go_wp2
          go_round
          case rel => exact ⟨k + 1, by omega, by go_num, by rw [HT.out]; go_num⟩
          case measure => simp [intOf]; omega
        · have h1e : (x == 1) = false := by simpa using h1
          rw [show isEast x = false by unfold isEast; simp [h1]] at HT
          go_wp2
          go_round
          case rel => exact ⟨k + 1, by omega, by go_num, by rw [HT.out]; simp⟩
          case measure => simp [intOf]; omega
      · have e : k = L.length := by omega
        subst e
        rw [List.take_length] at hd ⊢
        go_wp2
        go_ret
        exact ⟨ret_int HY.out.symm, HB.out⟩
end Go.Proofs.Ytcagpfnlpjfgeaa
