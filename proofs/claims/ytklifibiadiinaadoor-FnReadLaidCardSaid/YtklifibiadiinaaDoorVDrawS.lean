/- The state of a function that draws: its own blocks, and the reader. -/
import Derived.Test.YtklifibiadiinaaDoorVDrawC
import Derived.Test.YtklifibiadiinaaDoorZa
set_option linter.unusedVariables false
namespace Go.Proofs.YtklifibiadiinaaDoor
open Go.RowKit Domi

structure Dr (w0 : World) (b : Nat) (sl : Value) (ys : List Int) (N : Nat) (w : World) (S : List It) : Prop where
  s : Sep w0 (some b) w S
  r : RdN w b sl ys N
  r0 : ∃ M, RdN w0 b sl ys M
section
variable {w0 w w' : World} {b : Nat} {sl : Value} {ys : List Int} {N M : Nat} {S S' : List It}
theorem rdN_lt (h : RdN w b sl ys N) : b < w.heap.size := by obtain ⟨p, _, h⟩ := h; exact lt_of_heap h.heap
theorem Dr.start (h : RdN w b sl ys N) : Dr w b sl ys N w [] := ⟨Sep.start w _, h, N, h⟩
theorem Dr.with_ (h : Dr w0 b sl ys N w S) (hs : Sep w0 (some b) w' S') {r : Option Nat} (hg : w.grownBy w' r) (hr : ∀ k, r = some k → w0.heap.size ≤ k) : Dr w0 b sl ys N w' S' := by
  obtain ⟨M, r0⟩ := h.r0
  have hb := rdN_lt r0
  refine ⟨hs, rdN_grown h.r hg (fun e => by have := hr b e.symm; omega) ?_, M, r0⟩
  rcases rd_low r0 with h1 | h1
  · exact .inl h1
  · cases hs : sl.ownBlock with
    | none => exact .inr (.inl rfl)
    | some i => exact .inr (.inr (fun e => by have := hr i e.symm; have := h1 i hs; omega))
theorem Dr.mono (h : Dr w0 b sl ys N w S) (hM : N ≤ M) : Dr w0 b sl ys M w S := ⟨h.s, rdN_mono h.r hM, h.r0⟩
/-- Behind a call that draws. -/
theorem Dr.picked (h : Dr w0 b sl ys N w S) (hg : w.grownBy w' (some b)) (hr : RdN w' b sl ys M) : Dr w0 b sl ys M w' S := by
  obtain ⟨K, r0⟩ := h.r0
  have hb := rdN_lt r0
  exact ⟨h.s.keptRow hg (fun k e => by cases e; exact hb), hr, K, r0⟩
theorem Dr.drew (h : Dr w0 b sl ys N w S) : Dr w0 b sl ys N w.drew S := h.with_ h.s.drew (grown_drew (grown_refl w none)) (fun k e => by cases e)
theorem Dr.drewN (h : Dr w0 b sl ys N w S) (n : Nat) : Dr w0 b sl ys N (w.drewN n) S := h.with_ (h.s.drewN n) (grown_drewN (grown_refl w none) n) (fun k e => by cases e)
theorem Dr.below (h : Dr w0 b sl ys N w S) (hb : Below w.heap.size w w') : Dr w0 b sl ys N w' S := h.with_ (h.s.below hb) (grown_below hb none) (fun k e => by cases e)
theorem Dr.alloc (h : Dr w0 b sl ys N w S) (o : Obj) : Dr w0 b sl ys N (w.alloc o) S := h.with_ (h.s.alloc o) (World.grownBy_alloc w o none) (fun k e => by cases e)
theorem Dr.box (h : Dr w0 b sl ys N w S) (cs : Array Value) (t : TypeId) : Dr w0 b sl ys N (w.alloc (.cells cs t)) (S ++ [.box w.heap.size cs t]) := h.with_ (h.s.box cs t) (World.grownBy_alloc w _ none) (fun k e => by cases e)
theorem Dr.nil (h : Dr w0 b sl ys N w S) (e : TypeId) : Dr w0 b sl ys N w (S ++ [.row e (.slice none 0 0) []]) := h.with_ (h.s.nil e) (grown_refl w none) (fun k e => by cases e)
theorem Dr.put (h : Dr w0 b sl ys N w S) (i : Nat) {g : Nat} {cs : Array Value} {t : TypeId} (hi : S[i]? = some (.box g cs t)) (k : Nat) (v : Value) :
    Dr w0 b sl ys N (w.setCell ⟨g, k, none⟩ v) (S.set i (.box g (cs.setIfInBounds k v) t)) := h.with_ (h.s.put i hi k v) (grown_setCell w g k none v) (fun k e => by cases e; exact h.s.ge i hi rfl)
theorem Dr.put3 (h : Dr w0 b sl ys N w S) (i : Nat) {g : Nat} {x y z : Value} {t : TypeId} (hi : S[i]? = some (.box g #[x, y, z] t)) (x' y' z' : Value) :
    Dr w0 b sl ys N (((w.setCell ⟨g, 0, none⟩ x').setCell ⟨g, 1, none⟩ y').setCell ⟨g, 2, none⟩ z') (S.set i (.box g #[x', y', z'] t)) :=
  h.with_ (h.s.put3 i hi x' y' z') (grown_trans (grown_trans (grown_setCell w g 0 none x') (grown_setCell _ g 1 none y')) (grown_setCell _ g 2 none z')) (fun k e => by cases e; exact h.s.ge i hi rfl)
theorem Dr.set (h : Dr w0 b sl ys N w S) (i : Nat) {e : TypeId} {g n c : Nat} {xs : List Value} (hi : S[i]? = some (.row e (.slice (some ⟨g, 0, none⟩) n c) xs)) (j : Nat) (u : Value) :
    Dr w0 b sl ys N (w.setCell ⟨g, j, none⟩ u) (S.set i (.row e (.slice (some ⟨g, 0, none⟩) n c) (xs.set j u))) := h.with_ (h.s.set i hi j u) (grown_setCell w g j none u) (fun k e => by cases e; exact h.s.ge i hi rfl)
theorem Dr.app (h : Dr w0 b sl ys N w S) (i : Nat) {e : TypeId} {v : Value} {xs : List Value} {x : Value} {B g cap : Nat} (hi : S[i]? = some (.row e v xs)) (A : App w B e v xs x g cap w') :
    Dr w0 b sl ys N w' (S.set i (.row e (.slice (some ⟨g, 0, none⟩) (xs.length + 1) cap) (xs ++ [x]))) := h.with_ (h.s.app i hi A) A.grown (fun k e => h.s.ge i hi e)
/-- A new slice of a call that draws. -/
theorem Dr.row (h : Dr w0 b sl ys N w S) (hg : w.grownBy w' (some b)) (hr : RdN w' b sl ys M) {e : TypeId} {v : Value} {xs : List Value} (ho : Own w' w.heap.size e v xs) : Dr w0 b sl ys M w' (S ++ [.row e v xs]) := by
  have h1 := h.picked hg hr
  refine ⟨h1.s.more (Own.mono ho (Nat.zero_le _)) (fun k hk => ?_), hr, h.r0⟩
  have hk1 := (World.ownsRow.lt ho k hk).1
  exact h.s.fresh hk1
theorem Dr.pick (h : Dr w0 b sl ys N w S) (is : List Nat) (hn : is.Nodup) (hl : (is.all fun i => decide (i < S.length)) = true) : Dr w0 b sl ys N w (is.filterMap fun i => S[i]?) := ⟨h.s.pick is hn hl, h.r, h.r0⟩
end
end Go.Proofs.YtklifibiadiinaaDoor
