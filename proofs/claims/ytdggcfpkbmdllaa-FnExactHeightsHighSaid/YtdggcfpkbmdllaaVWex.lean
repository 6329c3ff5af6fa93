/- Walks: what the laws of exact.go do with their arguments. -/
import Derived.Test.YtdggcfpkbmdllaaVWb
import Derived.Test.YtdggcfpkbmdllaaVWj
import Derived.Test.YtdggcfpkbmdllaaVLaw
import Derived.Test.YtdggcfpkbmdllaaZa
import Derived.Test.YtdggcfpkbmdllaaZb
set_option linter.unusedVariables false
namespace Go.Proofs.Ytdggcfpkbmdllaa
open Go.RowKit Domi

/-- What is left after n entries, or -1. -/
def szL (left n : Int) : Int := if left - n < 0 then -1 else left - n
theorem szL_no {left n : Int} (h : left - n < 0) : szL left n = -1 := if_pos h
theorem szL_yes {left n : Int} (h : ¬ left - n < 0) : szL left n = left - n := if_neg h
set_option maxHeartbeats 400000 in
theorem szBoolS_any (v : Value) (l : List Bool) (left : Int) (w : World) (h : Bl w v l) (hl : 0 ≤ left ∧ left ≤ 1048576) :
    Calls Try.prog 43 #[v, .int .i64 left] w (Ret (.int .i64 (szL left l.length)) w) := by
  obtain ⟨a, cap, rfl, hlc, hcm, hc⟩ := h.opened
  clear h hc
  have hw : IntKind.i64.wrap (left - (l.length : Int)) = left - (l.length : Int) := IntWalk.i64_in _ (by omega)
  obtain ⟨s, hs⟩ : ∃ s, szL left l.length = s := ⟨_, rfl⟩
  rw [hs]
  by_cases h0 : left - (l.length : Int) < 0
  · rw [szL_no h0] at hs
    subst hs
    go_enter Try.func43, Try.ntmps43
    go_wp2
    go_ret
    exact ⟨rfl, by go_grown⟩
  · rw [szL_yes h0] at hs
    subst hs
    go_enter Try.func43, Try.ntmps43
    go_wp2
    go_ret
    exact ⟨rfl, by go_grown⟩
set_option maxHeartbeats 400000 in
theorem szRegion_any (v : Value) (r : Reg) (left : Int) (w : World) (h : RegV w v r) (hl : 0 ≤ left ∧ left ≤ 1048576) :
    Calls Try.prog 10 #[v, .int .i64 left] w (Ret (.int .i64 (szL left r.cells.length)) w) := by
  obtain ⟨a, cap, rfl, hs, hlc, hcm⟩ := h.opened
  have HS := Lib.hid hs
  clear h hs
  obtain ⟨s, hsz⟩ : ∃ s, szL left r.cells.length = s := ⟨_, rfl⟩
  rw [hsz]
  have Hs := Lib.hid hsz
  go_enter Try.func10, Try.ntmps10
  go_wp2_with (fail)
  refine (szBoolS_any _ r.cells left _ (HS.out.below (by go_grown)) hl).mono ?_
  rintro e w1 ⟨rfl, hb⟩
  have HB := Lib.hid hb
  clear hb
  by_cases h0 : left - (r.cells.length : Int) < 0
  · rw [szL_no h0] at hsz ⊢
    subst hsz
    go_wp2
    go_ret
    exact ⟨rfl, Below.trans (by go_grown) (HB.out.mono (by simp <;> omega))⟩
  · rw [szL_yes h0] at hsz ⊢
    generalize left - (r.cells.length : Int) = d at *
    subst hsz
    go_wp2
    go_ret
    exact ⟨rfl, Below.trans (by go_grown) (HB.out.mono (by simp <;> omega))⟩

theorem cpBool_set {w wr : World} {g n : Nat} {l : List Bool} {k : Nat} (h : Sep w none wr [.row 4 (.slice (some ⟨g, 0, none⟩) n n) ((fillL (fun i => l.getD i false) false n k).map Value.bool)]) {x : Bool} (hx : l.getD k false = x) :
    Sep w none (wr.setCell ⟨g, k, none⟩ (Value.bool x)) [.row 4 (.slice (some ⟨g, 0, none⟩) n n) ((fillL (fun i => l.getD i false) false n (k + 1)).map Value.bool)] := by
  have := h.set 0 rfl k (Value.bool x)
  rw [← hx, show ((fillL (fun i => l.getD i false) false n k).map Value.bool).set k (Value.bool (l.getD k false)) = (fillL (fun i => l.getD i false) false n (k + 1)).map Value.bool by rw [← List.map_set]; exact congrArg _ (fillL_set (fun i => l.getD i false) false n k)] at this
  rw [← hx]; exact this
theorem cpBool_full (l : List Bool) : fillL (fun i => l.getD i false) false l.length l.length = l := by
  rw [fillL_full]
  apply List.ext_getElem
  · simp
  · intro i h1 h2; simp [h2]
theorem cpBool_start {w : World} {cs : Array Value} {n : Nat} (hcs : Hid (cs = Array.replicate n (.bool false))) (hn : n ≤ 1048576) (l : List Bool) :
    Sep w none (w.alloc (.cells cs 4)) [.row 4 (.slice (some ⟨w.heap.size, 0, none⟩) n n) ((fillL (fun i => l.getD i false) false n 0).map Value.bool)] := by
  have := (Sep.start w none).made (e := 4) hcs (by omega)
  rw [fillL_zero, List.map_replicate]
  exact this
set_option maxRecDepth 100000 in
set_option maxHeartbeats 1000000 in
theorem toBoolS_any (v : Value) (l : List Bool) (w : World) (h : Bl w v l) (hl : l.length ≤ 1048576) :
    Calls Try.prog 45 #[v] w (RetO 4 (l.map Value.bool) w) := by
  obtain ⟨a, cap, rfl, hlc, hcm, hc⟩ := h.opened
  have HC := Lib.hid hc
  clear h hc
  go_enter Try.func45, Try.ntmps45
  go_wp2_with (at_make; refine list_make elem_bools (.bool false) zero_bool rfl l.length (.tmp 6) (.tmp 6) rfl rfl (l.length : Int) ?_ ?_ rfl ?_ ?_ ?_; rfl; rfl; omega; omega; intro cs hcs; have S0 := Lib.hid (cpBool_start (w := w) hcs hl l))
  clear hcs
  obtain ⟨W, hW⟩ : ∃ W, W = w.alloc (.cells cs 4) := ⟨_, rfl⟩
  rw [← hW] at S0 ⊢
  clear hW
  generalize hgg : w.heap.size = g at S0 ⊢
  go_loopw [4] (fun i wr => ∃ k : Nat, k ≤ l.length ∧ i = .int .i64 k ∧ Sep w none wr [.row 4 (.slice (some ⟨g, 0, none⟩) l.length l.length) ((fillL (fun i => l.getD i false) false l.length k).map Value.bool)]) (fun i _ => l.length - (intOf i).toNat)
  case atStart => exact ⟨0, Nat.zero_le _, rfl, S0.out⟩
  case round =>
    clear S0
    obtain ⟨k, hk, rfl, S⟩ := hrel
    have HD := Lib.hid S
    clear S
    by_cases hlt : k < l.length
    · have hlt' : (k : Int) < (l.length : Int) := by omega
      rcases HC.out with rfl | ⟨b, off, rfl, hb, hc⟩
      · simp at hlt
      have hck := ((bcell HD.out.bel).1 b (off + k) hb).trans (hc k hlt)
      have hb2 : b < wr.heap.size := Nat.lt_of_lt_of_le hb HD.out.bel.size
      obtain ⟨u, u1, u2, u3⟩ := (HD.out.own 0 rfl).there k hlt
      obtain ⟨x, hx⟩ : ∃ x, l.getD k false = x := ⟨_, rfl⟩
      rw [hx] at hck
      have S4 := Lib.hid (cpBool_set HD.out hx)
      clear hc hx HD
      go_wp2
      go_roundw
      case rel => exact ⟨k + 1, by omega, by go_num, S4.out⟩
      case measure => simp [intOf]; omega
    · have e : k = l.length := by omega
      subst e
      have HO := Lib.hid (HD.out.high 0 rfl)
      rw [cpBool_full] at HO
      go_wp2
      go_ret
      exact ⟨_, rfl, HO.out, HD.out.bel⟩

theorem cpInt_set {w wr : World} {g n : Nat} {l : List Int} {k : Nat} (h : Sep w none wr [.row 3 (.slice (some ⟨g, 0, none⟩) n n) ((fillL (fun i => l.getD i 0) 0 n k).map (Value.int .i64))]) {x : Int} (hx : l.getD k 0 = x) :
    Sep w none (wr.setCell ⟨g, k, none⟩ ((Value.int .i64) x)) [.row 3 (.slice (some ⟨g, 0, none⟩) n n) ((fillL (fun i => l.getD i 0) 0 n (k + 1)).map (Value.int .i64))] := by
  have := h.set 0 rfl k ((Value.int .i64) x)
  rw [← hx, show ((fillL (fun i => l.getD i 0) 0 n k).map (Value.int .i64)).set k ((Value.int .i64) (l.getD k 0)) = (fillL (fun i => l.getD i 0) 0 n (k + 1)).map (Value.int .i64) by rw [← List.map_set]; exact congrArg _ (fillL_set (fun i => l.getD i 0) 0 n k)] at this
  rw [← hx]; exact this
theorem cpInt_full (l : List Int) : fillL (fun i => l.getD i 0) 0 l.length l.length = l := by
  rw [fillL_full]
  apply List.ext_getElem
  · simp
  · intro i h1 h2; simp [h2]
theorem cpInt_start {w : World} {cs : Array Value} {n : Nat} (hcs : Hid (cs = Array.replicate n (.int .i64 0))) (hn : n ≤ 1048576) (l : List Int) :
    Sep w none (w.alloc (.cells cs 3)) [.row 3 (.slice (some ⟨w.heap.size, 0, none⟩) n n) ((fillL (fun i => l.getD i 0) 0 n 0).map (Value.int .i64))] := by
  have := (Sep.start w none).made (e := 3) hcs (by omega)
  rw [fillL_zero, List.map_replicate]
  exact this
set_option maxRecDepth 100000 in
set_option maxHeartbeats 1000000 in
theorem toIntS_any (v : Value) (l : List Int) (w : World) (h : Il w v l) (hl : l.length ≤ 1048576) :
    Calls Try.prog 36 #[v] w (RetO 3 (l.map (Value.int .i64)) w) := by
  obtain ⟨a, cap, rfl, hlc, hcm, hc⟩ := h.opened
  have HC := Lib.hid hc
  clear h hc
  go_enter Try.func36, Try.ntmps36
  go_wp2_with (at_make; refine list_make elem_ints (.int .i64 0) zero_int rfl l.length (.tmp 6) (.tmp 6) rfl rfl (l.length : Int) ?_ ?_ rfl ?_ ?_ ?_; rfl; rfl; omega; omega; intro cs hcs; have S0 := Lib.hid (cpInt_start (w := w) hcs hl l))
  clear hcs
  obtain ⟨W, hW⟩ : ∃ W, W = w.alloc (.cells cs 3) := ⟨_, rfl⟩
  rw [← hW] at S0 ⊢
  clear hW
  generalize hgg : w.heap.size = g at S0 ⊢
  go_loopw [4] (fun i wr => ∃ k : Nat, k ≤ l.length ∧ i = .int .i64 k ∧ Sep w none wr [.row 3 (.slice (some ⟨g, 0, none⟩) l.length l.length) ((fillL (fun i => l.getD i 0) 0 l.length k).map (Value.int .i64))]) (fun i _ => l.length - (intOf i).toNat)
  case atStart => exact ⟨0, Nat.zero_le _, rfl, S0.out⟩
  case round =>
    clear S0
    obtain ⟨k, hk, rfl, S⟩ := hrel
    have HD := Lib.hid S
    clear S
    by_cases hlt : k < l.length
    · have hlt' : (k : Int) < (l.length : Int) := by omega
      rcases HC.out with rfl | ⟨b, off, rfl, hb, hc⟩
      · simp at hlt
      have hck := ((bcell HD.out.bel).1 b (off + k) hb).trans (hc k hlt)
      have hb2 : b < wr.heap.size := Nat.lt_of_lt_of_le hb HD.out.bel.size
      obtain ⟨u, u1, u2, u3⟩ := (HD.out.own 0 rfl).there k hlt
      obtain ⟨x, hx⟩ : ∃ x, l.getD k 0 = x := ⟨_, rfl⟩
      rw [hx] at hck
      have S4 := Lib.hid (cpInt_set HD.out hx)
      clear hc hx HD
      go_wp2
      go_roundw
      case rel => exact ⟨k + 1, by omega, by go_num, S4.out⟩
      case measure => simp [intOf]; omega
    · have e : k = l.length := by omega
      subst e
      have HO := Lib.hid (HD.out.high 0 rfl)
      rw [cpInt_full] at HO
      go_wp2
      go_ret
      exact ⟨_, rfl, HO.out, HD.out.bel⟩

/-- A region whose cells lie in a block of its own. -/
def RetRX (r : Reg) (w : World) (e : Ending) (w' : World) : Prop :=
  ∃ a c, e = .returned (.agg #[.int .i64 r.wide, .int .i64 r.tall, .slice a r.cells.length c]) ∧ Own w' w.heap.size 4 (.slice a r.cells.length c) (r.cells.map Value.bool) ∧ Below w.heap.size w w'
set_option maxHeartbeats 1000000 in
theorem toRegion_any (v : Value) (r : Reg) (w : World) (h : RegV w v r) (hl : r.cells.length ≤ 1048576) : Calls Try.prog 12 #[v] w (RetRX r w) := by
  obtain ⟨a, cap, rfl, hs, hlc, hcm⟩ := h.opened
  have HS := Lib.hid hs
  have S0 := Lib.hid (Sep.three w none #[.int .i64 r.wide, .int .i64 r.tall, .slice a r.cells.length cap] #[.int .i64 0, .int .i64 0, .slice none 0 0] #[.int .i64 r.wide, .int .i64 r.tall, .slice none 0 0] 24 28 28)
  clear h hs
  go_enter Try.func12, Try.ntmps12
  go_wp2_with (fail)
  refine (toBoolS_any _ r.cells _ (HS.out.below S0.out.bel) hl).mono ?_
  rintro e w1 ⟨u, rfl, ho, hb⟩
  obtain ⟨ua, uc, rfl⟩ := ho.formM
  have S2 := Lib.hid ((S0.out.below hb).add S0.out ho)
  clear ho hb S0
  obtain ⟨y0, y1, y2, _⟩ := three_cells (S2.out.blk 1 rfl)
  obtain ⟨z0, z1, z2, _⟩ := three_cells (S2.out.blk 2 rfl)
  have E := Lib.hid ((S2.out.put 2 rfl 2 (.slice ua r.cells.length uc)).put3 1 rfl (.int .i64 r.wide) (.int .i64 r.tall) (.slice ua r.cells.length uc))
  obtain ⟨q0, q1, q2, _⟩ := three_cells (E.out.blk 1 rfl)
  have Q0 := Lib.hid q0
  have Q1 := Lib.hid q1
  have Q2 := Lib.hid q2
  have DN : Hid (RetRX r w (.returned (.agg #[.int .i64 r.wide, .int .i64 r.tall, .slice ua r.cells.length uc])) _) := Lib.hid ⟨ua, uc, rfl, E.out.high 3 rfl, E.out.bel⟩
  clear q0 q1 q2 S2
  go_wp2
  exact bodyPost_ret (by simp [results, Try.results12, go_sem, Q0.out, Q1.out, Q2.out]) rfl DN.out

set_option maxHeartbeats 1000000 in
theorem eqBoolS_any (v u : Value) (l m : List Bool) (w : World) (h : Bl w v l) (g : Bl w u m) :
    Calls Try.prog 48 #[v, u] w fun e w' => e = .returned (.bool (decide (l = m))) ∧ Below w.heap.size w w' := by
  obtain ⟨a, cap, rfl, hlc, hcm, hc⟩ := h.opened
  obtain ⟨a', cap', rfl, glc, gcm, gc⟩ := g.opened
  by_cases hne : l.length = m.length
  · rw [← hne] at glc gc ⊢
    have Hne := Lib.hid hne
    clear hne
    have hne' : ((l.length : Int) != (l.length : Int)) = false := by simp
    go_enter Try.func48, Try.ntmps48
    go_wp2_with (fail)
    go_loopw [5] (fun i wr => ∃ k : Nat, k ≤ l.length ∧ i = .int .i64 k ∧ Below w.heap.size w wr ∧ Hid (l.take k = m.take k)) (fun i _ => l.length - (intOf i).toNat)
    case atStart => exact ⟨0, Nat.zero_le _, rfl, Below.refl _ _, Lib.hid (by simp)⟩
    case round =>
      obtain ⟨k, hk, rfl, hbw, heq⟩ := hrel
      by_cases hlt : k < l.length
      · rcases hc with rfl | ⟨b, off, rfl, hb, hc⟩
        · simp at hlt
        rcases gc with rfl | ⟨b', off', rfl, hb', gc⟩
        · have hz := Hne.out; simp at hz; rw [hz] at hlt; simp at hlt
        have hck := ((bcell hbw).1 b (off + k) hb).trans (hc k hlt)
        have gck := ((bcell hbw).1 b' (off' + k) hb').trans (gc k hlt)
        clear hc gc
        have hlt' : (k : Int) < (l.length : Int) := by omega
        by_cases hv : l.getD k false = m.getD k false
        · have HT : Hid (l.take (k + 1) = m.take (k + 1)) := by
            rw [take_snoc l false k hlt, take_snoc m false k (by have := Hne.out; omega), heq.out, hv]; exact Lib.hid rfl
          rw [← hv] at gck
          generalize l.getD k false = c at *
          clear hv
          have hcc : (c != c) = false := by simp
          go_wp2
          go_quiet (fail)
          go_wp2
          go_roundw
          case rel => exact ⟨k + 1, by omega, by go_num, bel_dn hbw _, HT⟩
          case measure => simp [intOf]; omega
        · have HN : Hid (¬ l = m) := fun e => hv (by rw [e])
          have hcc : ((l.getD k false) != (m.getD k false)) = true := by simpa using hv
          generalize l.getD k false = c at *
          generalize m.getD k false = d at *
          cases c <;> cases d
          · exact absurd rfl hv
          · clear hv
            go_wp2
            go_quiet (fail)
            go_wp2
            go_ret
            exact ⟨ret_bool (by simpa using HN.out), bel_dn hbw _⟩
          · clear hv
            go_wp2
            go_quiet (fail)
            go_wp2
            go_ret
            exact ⟨ret_bool (by simpa using HN.out), bel_dn hbw _⟩
          · exact absurd rfl hv
      · go_wp2
        go_ret
        refine ⟨ret_bool ?_, hbw⟩
        have := heq.out
        rw [List.take_of_length_le (by omega), List.take_of_length_le (by have := Hne.out; omega)] at this
        simp [this]
  · have hne' : ((l.length : Int) != (m.length : Int)) = true := by simp; omega
    go_enter Try.func48, Try.ntmps48
    go_wp2
    go_ret
    refine ⟨ret_bool ?_, by go_grown⟩
    simp; intro e; exact hne (by rw [e])
theorem eqBoolS_is (v u : Value) (l m : List Bool) (w : World) (h : Bl w v l) (g : Bl w u m) (c : Bool) (hc : decide (l = m) = c) : Calls Try.prog 48 #[v, u] w (Ret (.bool c) w) := by
  rw [← hc]; exact eqBoolS_any v u l m w h g

set_option maxHeartbeats 1000000 in
theorem eqIntS_any (v u : Value) (l m : List Int) (w : World) (h : Il w v l) (g : Il w u m) :
    Calls Try.prog 38 #[v, u] w fun e w' => e = .returned (.bool (decide (l = m))) ∧ Below w.heap.size w w' := by
  obtain ⟨a, cap, rfl, hlc, hcm, hc⟩ := h.opened
  obtain ⟨a', cap', rfl, glc, gcm, gc⟩ := g.opened
  by_cases hne : l.length = m.length
  · rw [← hne] at glc gc ⊢
    have Hne := Lib.hid hne
    clear hne
    have hne' : ((l.length : Int) != (l.length : Int)) = false := by simp
    go_enter Try.func38, Try.ntmps38
    go_wp2_with (fail)
    go_loopw [5] (fun i wr => ∃ k : Nat, k ≤ l.length ∧ i = .int .i64 k ∧ Below w.heap.size w wr ∧ Hid (l.take k = m.take k)) (fun i _ => l.length - (intOf i).toNat)
    case atStart => exact ⟨0, Nat.zero_le _, rfl, Below.refl _ _, Lib.hid (by simp)⟩
    case round =>
      obtain ⟨k, hk, rfl, hbw, heq⟩ := hrel
      by_cases hlt : k < l.length
      · rcases hc with rfl | ⟨b, off, rfl, hb, hc⟩
        · simp at hlt
        rcases gc with rfl | ⟨b', off', rfl, hb', gc⟩
        · have hz := Hne.out; simp at hz; rw [hz] at hlt; simp at hlt
        have hck := ((bcell hbw).1 b (off + k) hb).trans (hc k hlt)
        have gck := ((bcell hbw).1 b' (off' + k) hb').trans (gc k hlt)
        clear hc gc
        have hlt' : (k : Int) < (l.length : Int) := by omega
        by_cases hv : l.getD k 0 = m.getD k 0
        · have HT : Hid (l.take (k + 1) = m.take (k + 1)) := by
            rw [take_snoc l 0 k hlt, take_snoc m 0 k (by have := Hne.out; omega), heq.out, hv]; exact Lib.hid rfl
          rw [← hv] at gck
          generalize l.getD k 0 = c at *
          clear hv
          have hcc : (c != c) = false := by simp
          go_wp2
          go_quiet (fail)
          go_wp2
          go_roundw
          case rel => exact ⟨k + 1, by omega, by go_num, bel_dn hbw _, HT⟩
          case measure => simp [intOf]; omega
        · have HN : Hid (¬ l = m) := fun e => hv (by rw [e])
          have hcc : ((l.getD k 0) != (m.getD k 0)) = true := by simpa using hv
          generalize l.getD k 0 = c at *
          generalize m.getD k 0 = d at *
          clear hv
          go_wp2
          go_quiet (fail)
          go_wp2
          go_ret
          exact ⟨ret_bool (by simpa using HN.out), bel_dn hbw _⟩
      · go_wp2
        go_ret
        refine ⟨ret_bool ?_, hbw⟩
        have := heq.out
        rw [List.take_of_length_le (by omega), List.take_of_length_le (by have := Hne.out; omega)] at this
        simp [this]
  · have hne' : ((l.length : Int) != (m.length : Int)) = true := by simp; omega
    go_enter Try.func38, Try.ntmps38
    go_wp2
    go_ret
    refine ⟨ret_bool ?_, by go_grown⟩
    simp; intro e; exact hne (by rw [e])
theorem eqIntS_is (v u : Value) (l m : List Int) (w : World) (h : Il w v l) (g : Il w u m) (c : Bool) (hc : decide (l = m) = c) : Calls Try.prog 38 #[v, u] w (Ret (.bool c) w) := by
  rw [← hc]; exact eqIntS_any v u l m w h g

/-- A region is equal to itself. -/
theorem eqRegion_same (v u : Value) (r : Reg) (w : World) (h : RegV w v r) (g : RegV w u r) : Calls Try.prog 15 #[v, u] w (Ret (.bool true) w) := by
  obtain ⟨a, cap, rfl, hs, hlc, hcm⟩ := h.opened
  obtain ⟨b, cap', rfl, gs, glc, gcm⟩ := g.opened
  have HS := Lib.hid hs
  have GS := Lib.hid gs
  have h1 : (r.wide != r.wide) = false := by simp
  have h2 : (r.tall != r.tall) = false := by simp
  clear h g hs gs
  go_enter Try.func15, Try.ntmps15
  go_wp2_with (fail)
  refine (eqBoolS_is _ _ r.cells r.cells _ (HS.out.below (by go_grown)) (GS.out.below (by go_grown)) true (by simp)).mono ?_
  rintro e w1 ⟨rfl, hb⟩
  have HB := Lib.hid hb
  clear hb
  go_wp2
  go_ret
  exact ⟨rfl, Below.trans (by go_grown) (HB.out.mono (by simp <;> omega))⟩

/-- The marks k, k + 1, .. in the first j places. -/
def markL (k : Int) (l : List Int) (j : Nat) : List Int := (List.range j).map (fun i : Nat => k + (i : Int)) ++ l.drop j
theorem markL_set {k : Int} {l : List Int} {j : Nat} (h : j < l.length) : (markL k l j).set j (k + j) = markL k l (j + 1) := by
  unfold markL
  rw [List.set_append_right _ _ (by simp), List.range_succ, List.map_append, List.append_assoc]
  simp only [List.length_map, List.length_range, Nat.sub_self, List.map_cons, List.map_nil, List.cons_append, List.nil_append]
  rw [List.drop_eq_getElem_cons h, List.set_cons_zero]
theorem markL_zero (k : Int) (l : List Int) : markL k l 0 = l := by simp [markL]
theorem markL_full (k : Int) (l : List Int) : markL k l l.length = (List.range l.length).map (fun i : Nat => k + (i : Int)) := by simp [markL]
theorem markL_length {k : Int} {l : List Int} {j : Nat} (h : j ≤ l.length) : (markL k l j).length = l.length := by simp [markL]; omega
def markB (k : Int) (l : List Bool) (j : Nat) : List Bool := (List.range j).map (fun i : Nat => (k + (i : Int)) % 3 == 0) ++ l.drop j
theorem markB_set {k : Int} {l : List Bool} {j : Nat} (h : j < l.length) : (markB k l j).set j ((k + j) % 3 == 0) = markB k l (j + 1) := by
  unfold markB
  rw [List.set_append_right _ _ (by simp), List.range_succ, List.map_append, List.append_assoc]
  simp only [List.length_map, List.length_range, Nat.sub_self, List.map_cons, List.map_nil, List.cons_append, List.nil_append]
  rw [List.drop_eq_getElem_cons h, List.set_cons_zero]
theorem markB_zero (k : Int) (l : List Bool) : markB k l 0 = l := by simp [markB]
theorem markB_length {k : Int} {l : List Bool} {j : Nat} (h : j ≤ l.length) : (markB k l j).length = l.length := by simp [markB]; omega
/-! ### slices of the call's own, whatever room lies behind them -/
theorem _root_.Domi.Ow.formM {α : Type} {w : World} {B : Nat} {e : TypeId} {v : Value} {l : List α} {f : α → Value} (h : Ow w B e v (l.map f)) : ∃ a c, v = .slice a l.length c := by
  rcases h with ⟨rfl, h0⟩ | ⟨g, c, cur, rfl, _⟩
  · have : l = [] := by simpa using h0
    subst this
    exact ⟨none, 0, rfl⟩
  · exact ⟨_, c, by rw [List.length_map]⟩
theorem _root_.Domi.Ow.cellN {w : World} {B : Nat} {e : TypeId} {v : Value} {xs : List Value} (h : Ow w B e v xs) {j : Nat} (hj : j < xs.length) :
    ∃ g c u, v = .slice (some ⟨g, 0, none⟩) xs.length c ∧ w.cell? ⟨g, j, none⟩ = some u ∧ w.frozen? ⟨g, j, none⟩ = false ∧ g < w.heap.size := by
  rcases h with ⟨rfl, h0⟩ | ⟨g, c, cur, rfl, hB, hg, h1, h2, h3⟩
  · rw [h0] at hj; simp at hj
  · have hl : j < cur.toList.length := by rw [← h3] at hj; simp at hj; simp; omega
    refine ⟨g, c, cur.toList[j], rfl, ?_, frozen_of_row w g j _ _ hg, lt_of_heap hg⟩
    rw [cell_of_row w g j cur e (0, 0) hg]
    simp at hl; simp [hl]
theorem _root_.Domi.Ow.stored {w : World} {B : Nat} {e : TypeId} {g n c : Nat} {xs : List Value} (h : Ow w B e (.slice (some ⟨g, 0, none⟩) n c) xs) (j : Nat) (u : Value) :
    Ow (w.setCell ⟨g, j, none⟩ u) B e (.slice (some ⟨g, 0, none⟩) n c) (xs.set j u) := by
  rcases h with ⟨h, _⟩ | ⟨g', c', cur, h, hB, hg, h1, h2, h3⟩
  · simp at h
  · simp only [Value.slice.injEq, Option.some.injEq, Addr.mk.injEq, and_true] at h
    obtain ⟨rfl, hn, rfl⟩ := h
    refine .inr ⟨g, c, cur.setIfInBounds j u, by rw [List.length_set, hn], hB, heap_setCell_same w g j cur e u hg, by rw [List.length_set]; exact h1, h2, ?_⟩
    rw [List.length_set]
    exact take_put h3
theorem _root_.Domi.Ow.grown {w w' : World} {B : Nat} {e : TypeId} {v : Value} {xs : List Value} {row : Option Nat} (h : Ow w B e v xs) (hg : w.grownBy w' row) (hr : ∀ k, row = some k → v.ownBlock ≠ some k) : Ow w' B e v xs := by
  rcases h with h | ⟨g, c, cur, rfl, hB, hk, r⟩
  · exact .inl h
  · refine .inr ⟨g, c, cur, rfl, hB, ?_, r⟩
    rw [hg.block g (lt_of_heap hk) (fun e => hr g e.symm rfl)]
    exact hk
/-- What a call leaves that writes marks into the slice v alone. -/
def RetM (e : TypeId) (v : Value) (xs : List Value) (B : Nat) (m : Int) (w : World) (x : Ending) (w' : World) : Prop := x = .returned (.int .i64 m) ∧ Ow w' B e v xs ∧ w.grownBy w' v.ownBlock

theorem mkInt_set {w wr : World} {B g c : Nat} {k : Int} {l : List Int} {j : Nat} (hg : w.grownBy wr (some g)) (h : Ow wr B 3 (.slice (some ⟨g, 0, none⟩) l.length c) ((markL k l j).map (Value.int .i64))) (hj : j < l.length) :
    w.grownBy (wr.setCell ⟨g, j, none⟩ ((Value.int .i64) (k + j))) (some g) ∧ Ow (wr.setCell ⟨g, j, none⟩ ((Value.int .i64) (k + j))) B 3 (.slice (some ⟨g, 0, none⟩) l.length c) ((markL k l (j + 1)).map (Value.int .i64)) := by
  refine ⟨grown_trans hg (grown_setCell _ _ _ _ _), ?_⟩
  have := h.stored j ((Value.int .i64) (k + j))
  rw [← List.map_set, markL_set hj] at this
  exact this
set_option maxHeartbeats 1000000 in
theorem markIntS_any (v : Value) (l : List Int) (k : Int) (w : World) (B : Nat) (h : Ow w B 3 v (l.map (Value.int .i64))) (hl : l.length ≤ 1048576) (hk : 0 ≤ k ∧ k ≤ 1000000000) :
    Calls Try.prog 41 #[v, .int .i64 k] w (RetM 3 v ((markL k l l.length).map (Value.int .i64)) B (k + l.length) w) := by
  obtain ⟨a, c, rfl⟩ := h.formM
  have HO := Lib.hid h
  clear h
  go_enter Try.func41, Try.ntmps41
  go_wp2_with (fail)
  go_loopw [1, 5] (fun x i wr => ∃ j : Nat, j ≤ l.length ∧ i = .int .i64 j ∧ x = .int .i64 (k + j) ∧ w.grownBy wr (Value.slice a l.length c).ownBlock ∧ Ow wr B 3 (.slice a l.length c) ((markL k l j).map (Value.int .i64))) (fun _ i _ => l.length - (intOf i).toNat)
  case atStart => exact ⟨0, Nat.zero_le _, rfl, by simp, grown_refl _ _, by rw [markL_zero]; exact HO.out⟩
  case round =>
    clear HO
    obtain ⟨j, hj, rfl, rfl, hg, ho⟩ := hrel
    by_cases hlt : j < l.length
    · obtain ⟨g, c', u, hv, u1, u2, u3⟩ := ho.cellN (j := j) (by rw [List.length_map, markL_length hj]; omega)
      simp only [Value.slice.injEq] at hv
      obtain ⟨rfl, -, rfl⟩ := hv
      have hlt' : (j : Int) < (l.length : Int) := by omega
      have N := Lib.hid (mkInt_set hg ho hlt)
      have hw : IntKind.i64.wrap (k + (j : Int) + 1) = k + (j : Int) + 1 := IntWalk.i64_in _ (by omega)
      clear hg ho
      go_wp2
      go_roundw
      case rel => exact ⟨j + 1, by omega, by go_num, congrArg (Value.int .i64) (by omega), N.out.1, N.out.2⟩
      case measure => simp [intOf]; omega
    · have e : j = l.length := by omega
      subst e
      have HO := Lib.hid ho
      have HG := Lib.hid hg
      clear ho hg
      go_wp2
      go_ret
      exact ⟨rfl, HO.out, HG.out⟩

theorem mkBool_set {w wr : World} {B g c : Nat} {k : Int} {l : List Bool} {j : Nat} (hg : w.grownBy wr (some g)) (h : Ow wr B 4 (.slice (some ⟨g, 0, none⟩) l.length c) ((markB k l j).map Value.bool)) (hj : j < l.length) :
    w.grownBy (wr.setCell ⟨g, j, none⟩ (Value.bool ((k + j) % 3 == 0))) (some g) ∧ Ow (wr.setCell ⟨g, j, none⟩ (Value.bool ((k + j) % 3 == 0))) B 4 (.slice (some ⟨g, 0, none⟩) l.length c) ((markB k l (j + 1)).map Value.bool) := by
  refine ⟨grown_trans hg (grown_setCell _ _ _ _ _), ?_⟩
  have := h.stored j (Value.bool ((k + j) % 3 == 0))
  rw [← List.map_set, markB_set hj] at this
  exact this
set_option maxHeartbeats 1000000 in
theorem markBoolS_any (v : Value) (l : List Bool) (k : Int) (w : World) (B : Nat) (h : Ow w B 4 v (l.map Value.bool)) (hl : l.length ≤ 1048576) (hk : 0 ≤ k ∧ k ≤ 1000000000) :
    Calls Try.prog 49 #[v, .int .i64 k] w (RetM 4 v ((markB k l l.length).map Value.bool) B (k + l.length) w) := by
  obtain ⟨a, c, rfl⟩ := h.formM
  have HO := Lib.hid h
  clear h
  go_enter Try.func49, Try.ntmps49
  go_wp2_with (fail)
  go_loopw [1, 5] (fun x i wr => ∃ j : Nat, j ≤ l.length ∧ i = .int .i64 j ∧ x = .int .i64 (k + j) ∧ w.grownBy wr (Value.slice a l.length c).ownBlock ∧ Ow wr B 4 (.slice a l.length c) ((markB k l j).map Value.bool)) (fun _ i _ => l.length - (intOf i).toNat)
  case atStart => exact ⟨0, Nat.zero_le _, rfl, by simp, grown_refl _ _, by rw [markB_zero]; exact HO.out⟩
  case round =>
    clear HO
    obtain ⟨j, hj, rfl, rfl, hg, ho⟩ := hrel
    by_cases hlt : j < l.length
    · obtain ⟨g, c', u, hv, u1, u2, u3⟩ := ho.cellN (j := j) (by rw [List.length_map, markB_length hj]; omega)
      simp only [Value.slice.injEq] at hv
      obtain ⟨rfl, -, rfl⟩ := hv
      have hlt' : (j : Int) < (l.length : Int) := by omega
      have N := Lib.hid (mkBool_set hg ho hlt)
      have hw : IntKind.i64.wrap (k + (j : Int) + 1) = k + (j : Int) + 1 := IntWalk.i64_in _ (by omega)
      clear hg ho
      go_wp2
      go_roundw
      case rel => exact ⟨j + 1, by omega, by go_num, congrArg (Value.int .i64) (by omega), N.out.1, N.out.2⟩
      case measure => simp [intOf]; omega
    · have e : j = l.length := by omega
      subst e
      have HO := Lib.hid ho
      have HG := Lib.hid hg
      clear ho hg
      go_wp2
      go_ret
      exact ⟨rfl, HO.out, HG.out⟩

set_option maxHeartbeats 1000000 in
theorem markRegion_any (r : Reg) (a : Option Addr) (n c : Nat) (k : Int) (w : World) (B : Nat) (h : Ow w B 4 (.slice a n c) (r.cells.map Value.bool)) (hl : r.cells.length ≤ 1048576) (hk : 0 ≤ k ∧ k ≤ 1000000) :
    Calls Try.prog 16 #[.agg #[.int .i64 r.wide, .int .i64 r.tall, .slice a n c], .int .i64 k] w fun e w' => e = .returned (.int .i64 (k + r.cells.length)) ∧ w.grownBy w' (Value.slice a n c).ownBlock := by
  have HO := Lib.hid h
  clear h
  go_enter Try.func16, Try.ntmps16
  go_wp2_with (fail)
  refine (markBoolS_any _ r.cells k _ B (HO.out.below (below_alloc _ _)) hl (by omega)).mono ?_
  rintro e w1 ⟨rfl, ho, hg⟩
  have HG := Lib.hid (grown_trans (grown_alloc (grown_refl w _) _) hg)
  clear hg ho
  go_wp2
  go_ret
  exact ⟨rfl, HG.out⟩

set_option maxHeartbeats 1000000 in
theorem heldIntS_any (v : Value) (l : List Int) (k : Int) (w : World) (h : Il w v ((List.range l.length).map (fun i : Nat => k + (i : Int)))) (hl : l.length ≤ 1048576) (hk : 0 ≤ k ∧ k ≤ 1000000) :
    Calls Try.prog 42 #[v, .int .i64 k] w (Ret (.int .i64 (k + l.length)) w) := by
  obtain ⟨a, cap, rfl, hlc, hcm, hc⟩ := h.opened
  obtain ⟨n, hn⟩ : ∃ n, l.length = n := ⟨_, rfl⟩
  rw [hn] at hc hlc hl ⊢
  rw [List.length_map, List.length_range] at hc hlc ⊢
  have HC := Lib.hid hc
  clear h hc hn
  go_enter Try.func42, Try.ntmps42
  go_wp2_with (fail)
  go_loopw [1, 5] (fun x i wr => ∃ j : Nat, j ≤ n ∧ i = .int .i64 j ∧ x = .int .i64 (k + j) ∧ Below w.heap.size w wr) (fun _ i _ => n - (intOf i).toNat)
  case atStart => exact ⟨0, Nat.zero_le _, rfl, by simp, Below.refl _ _⟩
  case round =>
    obtain ⟨j, hj, rfl, rfl, hbw⟩ := hrel
    by_cases hlt : j < n
    · have hlt' : (j : Int) < (n : Int) := by omega
      rcases HC.out with hz | ⟨b, off, rfl, hb, hc⟩
      · have := congrArg List.length hz
        simp at this; omega
      have hck := ((bcell hbw).1 b (off + j) hb).trans (hc j (by simpa using hlt))
      have hx : ((List.range n).map (fun i : Nat => k + (i : Int))).getD j 0 = k + j := by simp [hlt]
      rw [hx] at hck
      have hb2 : b < wr.heap.size := Nat.lt_of_lt_of_le hb hbw.size
      have hcc : (k + (j : Int) != k + (j : Int)) = false := by simp
      have HB := Lib.hid hbw
      have hw : IntKind.i64.wrap (k + (j : Int) + 1) = k + (j : Int) + 1 := IntWalk.i64_in _ (by omega)
      have hk3 : k + (j : Int) + 1 = k + ((j + 1 : Nat) : Int) := by omega
      clear hc hx hbw
      go_wp2
      go_roundw
      case rel => exact ⟨j + 1, by omega, by go_num, congrArg (Value.int .i64) (by omega), HB.out⟩
      case measure => simp [intOf]; omega
    · have e : j = n := by omega
      subst e
      have HB := Lib.hid hbw
      clear hbw
      go_wp2
      go_ret
      exact ⟨rfl, HB.out⟩
/-- The variable at block X holds the region r, as laws.Region. -/
structure RL (W : World) (X : Nat) (r : Reg) (s : Value) : Prop where
  box : W.heap[X]? = some (.cells #[.int .i64 r.wide, .int .i64 r.tall, s] 24 (0, 0))
  bl : Bl W s r.cells
theorem RL.on {W W' : World} {X : Nat} {r : Reg} {s : Value} (h : RL W X r s) (hb : Below W.heap.size W W') : RL W' X r s :=
  ⟨by rw [hb.block _ (lt_of_heap h.box)]; exact h.box, h.bl.below hb⟩
theorem RL.new {W : World} {r : Reg} {s : Value} (h : Bl W s r.cells) : RL (W.alloc (.cells #[.int .i64 r.wide, .int .i64 r.tall, s] 24)) W.heap.size r s :=
  ⟨heap_alloc_new W _, h.below ((Below.refl _ _).alloc (Nat.le_refl _) _)⟩
theorem RL.c3 {W : World} {X : Nat} {r : Reg} {s : Value} (h : RL W X r s) : W.cell? ⟨X, 0, none⟩ = some (.int .i64 r.wide) ∧ W.cell? ⟨X, 1, none⟩ = some (.int .i64 r.tall) ∧ W.cell? ⟨X, 2, none⟩ = some s :=
  ⟨(three_cells h.box).1, (three_cells h.box).2.1, (three_cells h.box).2.2.1⟩
theorem RL.lt {W : World} {X : Nat} {r : Reg} {s : Value} (h : RL W X r s) : X < W.heap.size := lt_of_heap h.box
theorem RL.v {W : World} {X : Nat} {r : Reg} {s : Value} (h : RL W X r s) : RegV W (.agg #[.int .i64 r.wide, .int .i64 r.tall, s]) r := ⟨_, rfl, h.bl⟩
theorem szRegion_no (v : Value) (r : Reg) (left : Int) (w : World) (h : RegV w v r) (hl : 0 ≤ left ∧ left ≤ 1048576) (hs : left - (r.cells.length : Int) < 0) :
    Calls Try.prog 10 #[v, .int .i64 left] w (Ret (.int .i64 (-1)) w) := by rw [← szL_no hs]; exact szRegion_any v r left w h hl
theorem szRegion_yes (v : Value) (r : Reg) (left : Int) (w : World) (h : RegV w v r) (hl : 0 ≤ left ∧ left ≤ 1048576) (hs : ¬ left - (r.cells.length : Int) < 0) :
    Calls Try.prog 10 #[v, .int .i64 left] w (Ret (.int .i64 (left - (r.cells.length : Int))) w) := by rw [← szL_yes hs]; exact szRegion_any v r left w h hl
theorem RetRX.regV {r : Reg} {w w' : World} {a : Option Addr} {n c : Nat} (h : Own w' w.heap.size 4 (.slice a n c) (r.cells.map Value.bool)) : RegV w' (.agg #[.int .i64 r.wide, .int .i64 r.tall, .slice a n c]) r := ⟨_, rfl, h.sl⟩
end Go.Proofs.Ytdggcfpkbmdllaa
