/- Walks: before, sameLists of the laws. -/
import Derived.Test.YtklifibiadiinaaVSame
import Derived.Test.YtklifibiadiinaaZc
import Derived.Test.YtklifibiadiinaaZb
set_option linter.unusedVariables false
namespace Go.Proofs.Ytklifibiadiinaa
open Go.RowKit Domi

set_option maxHeartbeats 1000000 in
theorem sameLists_same (v u : Value) (l : List (List Int)) (w : World) (h : Ll w v l) (g : Ll w u l) :
    Calls Try.prog 20 #[v, u] w fun e w' => e = .returned (.bool true) ∧ Below w.heap.size w w' := by
  obtain ⟨a, cap, rfl, hlc, hcm, hc⟩ := h.opened
  obtain ⟨a', cap', rfl, glc, gcm, gc⟩ := g.opened
  clear h g
  have hne' : ((l.length : Int) != (l.length : Int)) = false := by simp
  go_enter Try.func20, Try.ntmps20
  go_wp2_with (fail)
  go_loopw [5] (fun i wr => ∃ k : Nat, k ≤ l.length ∧ i = .int .i64 k ∧ Below w.heap.size w wr) (fun i _ => l.length - (intOf i).toNat)
  case atStart => exact ⟨0, Nat.zero_le _, rfl, Below.refl _ _⟩
  case round =>
    obtain ⟨k, hk, rfl, hbw⟩ := hrel
    have HBW := Lib.hid hbw
    by_cases hlt : k < l.length
    · rcases hc with rfl | ⟨b, off, rfl, hb, hc⟩
      · simp at hlt
      rcases gc with rfl | ⟨b', off', rfl, hb', gc⟩
      · simp at hlt
      obtain ⟨u1, c1, i1⟩ := hc k hlt
      obtain ⟨u2, c2, i2⟩ := gc k hlt
      have hck := ((bcell hbw).1 b (off + k) hb).trans c1
      have gck := ((bcell hbw).1 b' (off' + k) hb').trans c2
      have hlt' : (k : Int) < (l.length : Int) := by omega
      have hbr := Nat.lt_of_lt_of_le hb hbw.size
      have hbr' := Nat.lt_of_lt_of_le hb' hbw.size
      have I1 := Lib.hid (i1.below hbw)
      have I2 := Lib.hid (i2.below hbw)
      have hLc : ∀ (T : Later wr) (b o : Nat), b < wr.heap.size → T.x.cell? ⟨b, o, none⟩ = wr.cell? ⟨b, o, none⟩ := Later.cell
      clear hc gc c1 c2 i1 i2 hbw
      go_wp2_with (fail)
      refine wp_region_later_all (by kernel_rfl) (by kernel_rfl) ?_
      repeat (go_big_quiet_step (fail))
      go_big_quiet_step (with_reducible exact calls_later _ (sameInts_is _ _ (l.getD k []) (l.getD k []) _ (Il.below I1.out (Later.h _)) (Il.below I2.out (Later.h _)) true (by simp)))
      repeat (go_big_quiet_step (fail))
      refine wpQuiet_nil ?_
      intro T
      have B2 := Lib.hid (HBW.out.trans (T.h.mono HBW.out.size))
      clear hLc hck gck hbr hbr'
      go_wp2
      go_roundw
      case rel => exact ⟨k + 1, by omega, by go_num, B2.out⟩
      case measure => simp [intOf]; omega
    · go_wp2
      go_ret
      exact ⟨rfl, HBW.out⟩
end Go.Proofs.Ytklifibiadiinaa
