/- Walks: odd, l20Open, l20Region. -/
import Derived.Test.YtklifibiadiinaaDoorVDraw
set_option linter.unusedVariables false
namespace Go.Proofs.YtklifibiadiinaaDoor
open Go.RowKit Domi

def OddN (w : World) (b : Nat) (sl : Value) (ys : List Int) (N : Nat) (e : Ending) (w' : World) : Prop :=
  ∃ k : Bool, e = .returned (.bool k) ∧ w.grownBy w' (some b) ∧ RdN w' b sl ys (N + 1)

set_option maxHeartbeats 400000 in
theorem odd_n (b : Nat) (sl : Value) (ys : List Int) (N : Nat) (n : Int) (w : World) (h : RdN w b sl ys N) (hN : N < 1000000) (hn : n ≤ 1000000) :
    Calls Tryd.prog 51 #[.pointer (some ⟨b, 0, none⟩), .int .i64 n] w (OddN w b sl ys N) := by
  have hre : RdN w b sl ys (N + 1) := by obtain ⟨p, hp, h⟩ := h; exact ⟨p, by omega, h⟩
  have hgr : w.grownBy w (some b) := ⟨rfl, rfl, rfl, Nat.le_refl _, fun _ _ _ => rfl⟩
  have H := Lib.hid h
  have H2 := Lib.hid hre
  have H3 := Lib.hid hgr
  clear h hre hgr
  by_cases h0 : 0 < n
  · go_enter Tryd.func51, Tryd.ntmps51
    go_wp2_with (fail)
    refine (pick_n b sl ys N n w H.out hN).mono ?_
    rintro e w' ⟨k, rfl, hk, hg, hr⟩
    have G1 := Lib.hid hg
    have G2 := Lib.hid hr
    clear hg hr
    go_wp2
    go_ret
    exact ⟨_, rfl, G1.out, G2.out⟩
  · go_enter Tryd.func51, Tryd.ntmps51
    go_wp2_with (fail)
    go_ret
    exact ⟨false, rfl, H3.out, H2.out⟩

/-- What l20Open leaves: a new reader. -/
def OpenN (w : World) (e : Ending) (w' : World) : Prop :=
  ∃ b sl ys, e = .returned (.pointer (some ⟨b, 0, none⟩)) ∧ w.heap.size ≤ b ∧ Below w.heap.size w w' ∧ RdN w' b sl ys 0

theorem open_close (w : World) (sl : Value) (ys : List Int) (h : Yl w sl ys) (hf : ys.length ≤ 2000) (hr : ∀ i, i < ys.length → 0 ≤ ys.getD i 0 ∧ ys.getD i 0 ≤ 255) :
    OpenN w (.returned (.pointer (some ⟨w.heap.size, 0, none⟩))) (w.alloc (.cells #[sl, .int .i64 0] 71)) := by
  have hb : Below w.heap.size w (w.alloc (.cells #[sl, .int .i64 0] 71)) := (Below.refl _ _).alloc (Nat.le_refl _) _
  refine ⟨w.heap.size, sl, ys, rfl, Nat.le_refl _, hb, 0, Nat.le_refl _, ⟨heap_alloc_new w _, h.below hb, ?_, hf, hr, by omega⟩⟩
  obtain ⟨a, cap, rfl, _, _, h3⟩ := h
  rcases h3 with h3 | ⟨b, off, rfl, hl, _⟩
  · exact .inl (by simpa using h3)
  · exact .inr (by simp [Value.ownBlock]; omega)

theorem cut_2000 {w : World} {a : Option Addr} {cap : Nat} {ys : List Int} (hlc : ys.length ≤ cap) (hcm : cap ≤ 9223372036854775807) (hl : 2000 < ys.length)
    (h : ys = [] ∨ ∃ b off, a = some ⟨b, off, none⟩ ∧ b < w.heap.size ∧ ∀ i, i < ys.length → w.cell? ⟨b, off + i, none⟩ = some (.int .u8 (ys.getD i 0))) :
    Yl w (.slice a 2000 cap) (ys.take 2000) := by
  have e : (ys.take 2000).length = 2000 := by simp; omega
  refine ⟨a, cap, by rw [List.length_map, e], by rw [List.length_map, e]; omega, hcm, .inr ?_⟩
  rcases h with rfl | ⟨b, off, rfl, hb, hc⟩
  · simp at hl
  · refine ⟨b, off, rfl, hb, fun i hi => ?_⟩
    have hi' : i < 2000 := by simp at hi; omega
    rw [hc i (by omega)]
    simp [List.getD_eq_getElem?_getD, show i < ys.length from by omega]

set_option maxHeartbeats 400000 in
theorem open_n (v : Value) (ys : List Int) (w : World) (h : Yl w v ys) (hr : ∀ i, i < ys.length → 0 ≤ ys.getD i 0 ∧ ys.getD i 0 ≤ 255) :
    Calls Tryd.prog 25 #[v] w (OpenN w) := by
  obtain ⟨a, cap, hv, hlc, hcm, hcs⟩ := h.opened
  subst hv
  by_cases hl : 2000 < ys.length
  · have H := Lib.hid hcs
    have H1 := Lib.hid hr
    clear hcs hr h
    go_enter Tryd.func25, Tryd.ntmps25
    go_wp2
    go_ret
    exact open_close w _ _ (cut_2000 hlc hcm hl H.out) (by simp; omega) (fun i hi => by
      have hi' : i < 2000 := by simp at hi; omega
      have e : (ys.take 2000).getD i 0 = ys.getD i 0 := by simp [List.getD_eq_getElem?_getD, hi']
      rw [e]; exact H1.out i (by omega))
  · have H := Lib.hid h
    have H1 := Lib.hid hr
    clear hcs hr h
    go_enter Tryd.func25, Tryd.ntmps25
    go_wp2
    go_ret
    exact open_close w _ _ H.out (by omega) H1.out

end Go.Proofs.YtklifibiadiinaaDoor
