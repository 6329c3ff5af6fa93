/- Walks: PartsOf, PartsMany. -/
import Derived.Test.YtdggcfpkbmdllaaVWparts
import Derived.Test.YtdggcfpkbmdllaaVWpartsS
import Derived.Test.YtdggcfpkbmdllaaZc
set_option linter.unusedVariables false
namespace Go.Proofs.Ytdggcfpkbmdllaa
open Go.RowKit Domi

theorem partsR_yes {r : Reg} (h : r.valid = true) : r.partsR = r.parts := by unfold Reg.partsR; rw [if_pos h]
theorem partsR_no {r : Reg} (h : r.valid = false) : r.partsR = [] := by unfold Reg.partsR; rw [if_neg (by rw [h]; decide)]
theorem pmany_yes {r : Reg} (h : r.valid = true) : r.pmany = pmTo r r.cells.length := by unfold Reg.pmany; rw [if_pos h]; rfl
theorem pmany_no {r : Reg} (h : r.valid = false) : r.pmany = -1 := by unfold Reg.pmany; rw [if_neg (by rw [h]; decide)]

set_option maxHeartbeats 400000 in
theorem sPartsOf_no (v : Value) (r : Reg) (w : World) (h : RegV w v r) (hv : r.valid = false) : Calls Try.prog 106 #[v] w (RetI [] w) := by
  obtain ⟨a, cap, rfl, hs, hlc, hcm⟩ := h.opened
  have Hs := Lib.hid hs
  have S0 := Lib.hid (((Sep.start w none).box #[.int .i64 r.wide, .int .i64 r.tall, .slice a r.cells.length cap] 28).empty 3)
  clear hs h
  go_enter Try.func106, Try.ntmps106
  go_wp2_with (fail)
  refine (sRegionValid_any _ r _ ⟨_, rfl, Hs.out.below S0.out.bel⟩).mono ?_
  rintro e w1 ⟨rfl, hb⟩
  rw [hv]
  have S1 := Lib.hid (S0.out.below hb)
  clear hb S0
  go_wp2
  go_ret
  exact ⟨_, rfl, by have := (S1.out.own 1 rfl).sl; simpa [Il] using this, S1.out.bel⟩
theorem sPartsOf_any (v : Value) (r : Reg) (w : World) (h : RegV w v r) : Calls Try.prog 106 #[v] w (RetI r.partsR w) := by
  cases hv : r.valid
  · rw [partsR_no hv]; exact sPartsOf_no v r w h hv
  · rw [partsR_yes hv]; exact sPartsOf_yes v r w h hv

theorem il_get {w : World} {v : Value} {l : List Int} (h : Il w v l) : ∃ a c, v = .slice a l.length c ∧ l.length ≤ c ∧ c ≤ 9223372036854775807 ∧ ∀ k, k < l.length → ∃ b off, a = some ⟨b, off, none⟩ ∧ b < w.heap.size ∧ w.cell? ⟨b, off + k, none⟩ = some (.int .i64 (l.getD k 0)) := by
  obtain ⟨a, c, rfl, h1, h2, h3⟩ := h.opened
  refine ⟨a, c, rfl, h1, h2, fun k hk => ?_⟩
  rcases h3 with rfl | ⟨b, off, rfl, hl, hc⟩
  · simp at hk
  · exact ⟨b, off, rfl, hl, hc k hk⟩

set_option maxHeartbeats 1000000 in
theorem partsMany_any (v : Value) (r : Reg) (w : World) (h : RegV w v r) (hv : r.valid = true) : Calls Try.prog 108 #[v] w (Ret (.int .i64 (pmTo r r.cells.length)) w) := by
  obtain ⟨b1, b2, b3, b4⟩ := Reg.valid_iff.1 hv
  have hlen : r.cells.length ≤ 36 := by have := area_in b1 b2; omega
  obtain ⟨a, cap, rfl, hs, hlc, hcm⟩ := h.opened
  have Hs := Lib.hid hs
  clear hs h b3 b4
  go_enter Try.func108, Try.ntmps108
  go_wp2_with (fail)
  refine (parts_any _ r _ ⟨_, rfl, Hs.out.below (by go_grown)⟩ hv).mono ?_
  rintro e w1 ⟨u, rfl, hu, hb⟩
  have Hb := Lib.hid (show Below w.heap.size w w1 from Below.trans (by go_grown) (hb.mono (by simp)))
  obtain ⟨pa, pc, rfl, l1, l2, hg⟩ := il_get hu
  rw [parts_length] at hg l1
  rw [parts_length]
  have HG := Lib.hid hg
  clear hu hb hg
  go_wp2_with (fail)
  go_loop [3, 9] (fun n i => ∃ k : Nat, k ≤ r.cells.length ∧ i = .int .i64 k ∧ n = .int .i64 (pmTo r k)) (fun _ i => r.cells.length - (intOf i).toNat)
  case atStart => exact ⟨0, Nat.zero_le _, rfl, by simp [pmTo, num_zero]⟩
  case round =>
    obtain ⟨k, hk, rfl, rfl⟩ := hrel
    have bd := pmTo_bd r k
    by_cases hlt : k < r.cells.length
    · obtain ⟨b, off, rfl, hl, hck⟩ := HG.out k hlt
      rw [parts_get hlt] at hck
      have hs := Lib.hid (pmTo_succ r k)
      by_cases hp : partN r k = (k : Int)
      · rw [if_pos hp] at hs
        rw [hp] at hck
        clear hp
        go_wp2
        go_round
        case rel => exact ⟨k + 1, by omega, by go_num, by rw [hs.out]⟩
        case measure => simp [intOf]; omega
      · rw [if_neg hp] at hs
        have hq : ((k : Int) == partN r k) = false := by simp; exact fun e => hp e.symm
        clear hp
        generalize partN r k = p at *
        go_wp2
        go_round
        case rel => exact ⟨k + 1, by omega, by go_num, by rw [hs.out]; simp⟩
        case measure => simp [intOf]; omega
    · have e : k = r.cells.length := by omega
      subst e
      go_wp2
      go_ret
      exact ⟨rfl, Hb.out⟩

set_option maxHeartbeats 1000000 in
theorem sPartsMany_any (v : Value) (r : Reg) (w : World) (h : RegV w v r) : Calls Try.prog 96 #[v] w (Ret (.int .i64 r.pmany) w) := by
  obtain ⟨a, cap, rfl, hs, hlc, hcm⟩ := h.opened
  have Hs := Lib.hid hs
  clear hs h
  go_enter Try.func96, Try.ntmps96
  go_wp2_with (fail)
  refine (sRegionValid_any _ r _ ⟨_, rfl, Hs.out.below (by go_grown)⟩).mono ?_
  rintro e w1 ⟨rfl, hb⟩
  have R1 := Lib.hid ((RB.new Hs.out).on hb)
  have Hb := Lib.hid (show Below w.heap.size w w1 from Below.trans (by go_grown) (hb.mono (by simp)))
  clear hb
  cases hv : r.valid
  · go_wp2
    go_ret
    exact ⟨ret_int (pmany_no hv).symm, Hb.out⟩
  · obtain ⟨b1, b2, b3, b4⟩ := Reg.valid_iff.1 hv
    have hlen : r.cells.length ≤ 36 := by have := area_in b1 b2; omega
    clear b3 b4
    obtain ⟨c0, c1, c2⟩ := R1.out.c3
    go_wp2_with (fail)
    refine (sPartsOf_any _ r _ R1.out.v).mono ?_
    rw [partsR_yes hv]
    rintro e w2 ⟨u, rfl, hu, hb⟩
    have HB := Lib.hid (Hb.out.trans (hb.mono Hb.out.size))
    obtain ⟨pa, pc, rfl, l1, l2, hg⟩ := il_get hu
    rw [parts_length] at hg l1
    rw [parts_length]
    have HG := Lib.hid hg
    clear hu hb hg c0 c1 c2
    go_wp2_with (fail)
    go_loop [3, 5] (fun n i => ∃ k : Nat, k ≤ r.cells.length ∧ i = .int .i64 k ∧ n = .int .i64 (pmTo r k)) (fun _ i => r.cells.length - (intOf i).toNat)
    case atStart => exact ⟨0, Nat.zero_le _, rfl, by simp [pmTo, num_zero]⟩
    case round =>
      obtain ⟨k, hk, rfl, rfl⟩ := hrel
      have bd := pmTo_bd r k
      by_cases hlt : k < r.cells.length
      · obtain ⟨b, off, rfl, hl, hck⟩ := HG.out k hlt
        rw [parts_get hlt] at hck
        have hs := Lib.hid (pmTo_succ r k)
        by_cases hp : partN r k = (k : Int)
        · rw [if_pos hp] at hs
          rw [hp] at hck
          clear hp
          go_wp2
          go_round
          case rel => exact ⟨k + 1, by omega, by go_num, by rw [hs.out]⟩
          case measure => simp [intOf]; omega
        · rw [if_neg hp] at hs
          have hq : (partN r k == (k : Int)) = false := by simpa using hp
          clear hp
          generalize partN r k = p at *
          go_wp2
          go_round
          case rel => exact ⟨k + 1, by omega, by go_num, by rw [hs.out]; simp⟩
          case measure => simp [intOf]; omega
      · have e : k = r.cells.length := by omega
        subst e
        go_wp2
        go_ret
        exact ⟨ret_int (pmany_yes hv).symm, HB.out⟩

end Go.Proofs.Ytdggcfpkbmdllaa
