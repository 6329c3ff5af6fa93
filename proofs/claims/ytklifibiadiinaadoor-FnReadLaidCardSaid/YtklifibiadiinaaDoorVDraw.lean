/- Walks: the reader of a code (l20Rd), and what is drawn. -/
import Derived.Test.YtklifibiadiinaaDoorVWb
import Derived.Deep.QuietTactic
import Derived.BigQuiet
import Derived.Deep.RegionHeld3
import Derived.Deep.RegionWith
import Derived.Deep.RegionLaw
import Derived.Deep.DeepCutAuto
set_option linter.unusedVariables false
namespace Go.Proofs.YtklifibiadiinaaDoor
open Go.RowKit Domi

/-- A reader at block b: its bytes are the slice value sl, which lies elsewhere; it has given p numbers. -/
structure Rd (w : World) (b : Nat) (sl : Value) (ys : List Int) (p : Nat) : Prop where
  heap : w.heap[b]? = some (.cells #[sl, .int .i64 p] 71 (0, 0))
  bytes : Yl w sl ys
  apart : ys = [] ∨ sl.ownBlock ≠ some b
  few : ys.length ≤ 2000
  range : ∀ i, i < ys.length → 0 ≤ ys.getD i 0 ∧ ys.getD i 0 ≤ 255
  count : p ≤ 1000000

/-- Behind one more number: the block of the reader alone has turned. -/
def PickPost (w : World) (b : Nat) (sl : Value) (p : Nat) (n : Int) (e : Ending) (w' : World) : Prop :=
  ∃ k : Int, e = .returned (.int .i64 k) ∧ (0 ≤ k ∧ (k < n ∨ k = 0)) ∧ w.grownBy w' (some b) ∧ w'.heap[b]? = some (.cells #[sl, .int .i64 ((p : Int) + 1)] 71 (0, 0))

set_option maxHeartbeats 400000 in
theorem pick_zero (b : Nat) (sl : Value) (ys : List Int) (p : Nat) (n : Int) (w : World) (h : Rd w b sl ys p) (hz : n < 1 ∨ ys = []) :
    Calls Tryd.prog 36 #[.pointer (some ⟨b, 0, none⟩), .int .i64 n] w (PickPost w b sl p n) := by
  obtain ⟨hh, hy, ha, hf, hr, hc⟩ := h
  have c0 : w.cell? ⟨b, 0, none⟩ = some sl := by rw [cell_of_row w b 0 _ _ _ hh]; rfl
  have c1 : w.cell? ⟨b, 1, none⟩ = some (.int .i64 p) := by rw [cell_of_row w b 1 _ _ _ hh]; rfl
  have f1 : w.frozen? ⟨b, 1, none⟩ = false := frozen_of_row w b 1 _ _ hh
  have hfin : PickPost w b sl p n (.returned (.int .i64 0)) (w.setCell ⟨b, 1, none⟩ (.int .i64 ((p : Int) + 1))) :=
    ⟨0, rfl, by omega, grown_setCell _ _ _ _ _, by rw [heap_setCell_same w b 1 _ _ _ hh]; rfl⟩
  have hp0 : (0 : Int) ≤ p := by omega
  have hp1 : (p : Int) ≤ 1000000 := by omega
  have H := Lib.hid hfin
  have Hh := Lib.hid hh
  clear hfin hh
  by_cases h1 : n < 1
  · go_enter Tryd.func36, Tryd.ntmps36
    go_wp2
    go_ret
    exact H.out
  · have hy0 : ys = [] := hz.resolve_left h1
    subst hy0
    obtain ⟨a, cap, hv, hlc, hcm, _⟩ := hy.opened
    subst hv
    simp at c0
    go_enter Tryd.func36, Tryd.ntmps36
    go_wp2
    go_ret
    exact H.out

set_option maxHeartbeats 400000 in
theorem pick_in (b : Nat) (sl : Value) (ys : List Int) (p : Nat) (n : Int) (w : World) (h : Rd w b sl ys p) (hz : 1 ≤ n) (hlt : p < ys.length) :
    Calls Tryd.prog 36 #[.pointer (some ⟨b, 0, none⟩), .int .i64 n] w (PickPost w b sl p n) := by
  obtain ⟨hh, hy, ha, hf, hr, hc⟩ := h
  have c0 : w.cell? ⟨b, 0, none⟩ = some sl := by rw [cell_of_row w b 0 _ _ _ hh]; rfl
  have c1 : w.cell? ⟨b, 1, none⟩ = some (.int .i64 p) := by rw [cell_of_row w b 1 _ _ _ hh]; rfl
  have f1 : w.frozen? ⟨b, 1, none⟩ = false := frozen_of_row w b 1 _ _ hh
  obtain ⟨r0, r1⟩ := hr p hlt
  have hfin : PickPost w b sl p n (.returned (.int .i64 (ys.getD p 0 % n))) (w.setCell ⟨b, 1, none⟩ (.int .i64 ((p : Int) + 1))) :=
    ⟨_, rfl, ⟨Int.emod_nonneg _ (by omega), .inl (Int.emod_lt_of_pos _ (by omega))⟩, grown_setCell _ _ _ _ _, by rw [heap_setCell_same w b 1 _ _ _ hh]; rfl⟩
  have hp0 : (0 : Int) ≤ p := by omega
  have hp1 : (p : Int) ≤ 1000000 := by omega
  obtain ⟨a, cap, hv, hlc, hcm, hcs⟩ := hy.opened
  subst hv
  rcases hcs with rfl | ⟨b', off, rfl, hb', hcs⟩
  · simp at hlt
  have hne : b' ≠ b := fun e => (ha.resolve_left (by rintro rfl; simp at hlt)) (by simp [Value.ownBlock, e])
  have hck := hcs p hlt
  clear hcs hr
  generalize ys.getD p 0 = y at *
  have H := Lib.hid hfin
  have Hh := Lib.hid hh
  clear hfin hh
  have hn1 : ¬ n < 1 := by omega
  go_enter Tryd.func36, Tryd.ntmps36
  go_wp2
  go_ret
  exact H.out

set_option maxHeartbeats 1000000 in
theorem pick_out (b : Nat) (sl : Value) (ys : List Int) (p : Nat) (n : Int) (w : World) (h : Rd w b sl ys p) (hz : 1 ≤ n) (hge : ys.length ≤ p) (hne0 : ys ≠ []) :
    Calls Tryd.prog 36 #[.pointer (some ⟨b, 0, none⟩), .int .i64 n] w (PickPost w b sl p n) := by
  obtain ⟨hh, hy, ha, hf, hr, hc⟩ := h
  have c0 : w.cell? ⟨b, 0, none⟩ = some sl := by rw [cell_of_row w b 0 _ _ _ hh]; rfl
  have c1 : w.cell? ⟨b, 1, none⟩ = some (.int .i64 p) := by rw [cell_of_row w b 1 _ _ _ hh]; rfl
  have f1 : w.frozen? ⟨b, 1, none⟩ = false := frozen_of_row w b 1 _ _ hh
  have hlp : 0 < ys.length := List.length_pos_iff.2 hne0
  have hp0 : (0 : Int) ≤ p := by omega
  have hp1 : (p : Int) ≤ 1000000 := by omega
  obtain ⟨a, cap, hv, hlc, hcm, hcs⟩ := hy.opened
  subst hv
  rcases hcs with rfl | ⟨b', off, rfl, hb', hcs⟩
  · simp at hlp
  have hne : b' ≠ b := fun e => (ha.resolve_left (by rintro rfl; simp at hlp)) (by simp [Value.ownBlock, e])
  have hm1 : p % ys.length < ys.length := Nat.mod_lt _ hlp
  have hm2 : (p * 7 + 3) % ys.length < ys.length := Nat.mod_lt _ hlp
  have hk1 := hcs _ hm1
  have hk2 := hcs _ hm2
  obtain ⟨r0, r1⟩ := hr _ hm1
  obtain ⟨s0, s1⟩ := hr _ hm2
  clear hcs hr hne0
  generalize ys.getD (p % ys.length) 0 = y at *
  generalize ys.getD ((p * 7 + 3) % ys.length) 0 = z at *
  generalize ys.length = len at *
  have hfin : ∀ x : Int, ∀ m, 0 ≤ x → PickPost w b (.slice (some ⟨b', off, none⟩) len cap) p n (.returned (.int .i64 (x % n))) ((w.setCell ⟨b, 1, none⟩ (.int .i64 ((p : Int) + 1))).drewN m) := fun x m _ =>
    ⟨_, rfl, ⟨Int.emod_nonneg _ (by omega), .inl (Int.emod_lt_of_pos _ (by omega))⟩, grown_drewN (grown_setCell _ _ _ _ _) m, by show (w.setCell _ _).heap[b]? = _; rw [heap_setCell_same w b 1 _ _ _ hh]; rfl⟩
  have H := Lib.hid hfin
  have Hh := Lib.hid hh
  clear hfin hh
  have hn1 : ¬ n < 1 := by omega
  have hlp' : (1 : Int) ≤ len := by omega
  have i1 : (p : Int) % (len : Int) < (len : Int) := by omega
  have i2 : ((p : Int) * 7 + 3) % (len : Int) < (len : Int) := Int.emod_lt_of_pos _ (by omega)
  go_enter Tryd.func36, Tryd.ntmps36
  go_wp2
  have i3 : (0 : Int) ≤ ((p : Int) * 7 + 3) % (len : Int) := Int.emod_nonneg _ (by omega)
  have i4 : (0 : Int) ≤ (p : Int) / (len : Int) := Int.ediv_nonneg (by omega) (by omega)
  have i5 : (p : Int) / (len : Int) ≤ 1000000 := Int.le_trans (Int.ediv_le_self _ (by omega)) (by omega)
  have i6 : 0 ≤ bits BinOp.xor IntKind.i64 (y * 131 + z * 1117 + (p : Int) * 29 + (p : Int) / (len : Int) * 53) ((y * 131 + z * 1117 + (p : Int) * 29 + (p : Int) / (len : Int) * 53) / 64) :=
    xor_nonneg _ _ (by omega) (by omega)
  go_quiet (fail)
  go_wp2
  go_ret
  exact H.out _ _ i6

theorem pick_any (b : Nat) (sl : Value) (ys : List Int) (p : Nat) (n : Int) (w : World) (h : Rd w b sl ys p) :
    Calls Tryd.prog 36 #[.pointer (some ⟨b, 0, none⟩), .int .i64 n] w (PickPost w b sl p n) := by
  by_cases h1 : n < 1
  · exact pick_zero b sl ys p n w h (.inl h1)
  · by_cases h2 : ys = []
    · exact pick_zero b sl ys p n w h (.inr h2)
    · by_cases h3 : p < ys.length
      · exact pick_in b sl ys p n w h (by omega) h3
      · exact pick_out b sl ys p n w h (by omega) (by omega) h2

/-- A reader that has given at most N numbers. -/
def RdN (w : World) (b : Nat) (sl : Value) (ys : List Int) (N : Nat) : Prop := ∃ p, p ≤ N ∧ Rd w b sl ys p
def PickN (w : World) (b : Nat) (sl : Value) (ys : List Int) (N : Nat) (n : Int) (e : Ending) (w' : World) : Prop :=
  ∃ k : Int, e = .returned (.int .i64 k) ∧ (0 ≤ k ∧ (k < n ∨ k = 0)) ∧ w.grownBy w' (some b) ∧ RdN w' b sl ys (N + 1)

theorem Sl.grown {w w' : World} {v : Value} {xs : List Value} {row : Option Nat} (h : Sl w v xs) (hb : w.grownBy w' row) (hne : v.ownBlock = none ∨ v.ownBlock ≠ row) : Sl w' v xs := by
  obtain ⟨a, cap, rfl, h1, h2, h3⟩ := h
  refine ⟨a, cap, rfl, h1, h2, ?_⟩
  rcases h3 with h3 | ⟨b, off, rfl, hl, hc⟩
  · exact .inl h3
  · refine .inr ⟨b, off, rfl, Nat.lt_of_lt_of_le hl hb.size, fun i hi => ?_⟩
    rw [World.cell?_of_block (hb.block b hl (by simpa [Value.ownBlock] using hne))]
    exact hc i hi

theorem pick_n (b : Nat) (sl : Value) (ys : List Int) (N : Nat) (n : Int) (w : World) (h : RdN w b sl ys N) (hN : N < 1000000) :
    Calls Tryd.prog 36 #[.pointer (some ⟨b, 0, none⟩), .int .i64 n] w (PickN w b sl ys N n) := by
  obtain ⟨p, hp, h⟩ := h
  refine (pick_any b sl ys p n w h).mono ?_
  rintro e w' ⟨k, he, hk, hg, hw⟩
  refine ⟨k, he, hk, hg, p + 1, by omega, ⟨by rw [hw]; simp, ?_, h.apart, h.few, h.range, by omega⟩⟩
  rcases h.apart with rfl | ha
  · obtain ⟨a, cap, e, h1, h2, _⟩ := h.bytes
    exact ⟨a, cap, e, h1, h2, .inl rfl⟩
  · exact Sl.grown h.bytes hg (.inr ha)

end Go.Proofs.YtklifibiadiinaaDoor
