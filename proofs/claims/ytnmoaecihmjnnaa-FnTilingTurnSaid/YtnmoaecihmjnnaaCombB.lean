/- Two regions of one field, joined by appends. -/
import Derived.Test.YtnmoaecihmjnnaaComb
import Derived.Test.YtnmoaecihmjnnaaReg
namespace Domi
open Go Go.RowKit

section
variable {w wr w5 : World} {t e : TypeId} {a b : Reg} {aa ab : Option Addr} {ca cb : Nat} {f : Nat → Bool} {X n k : Nat} {v u : Value} {g cap : Nat} {c : Bool} {o : Obj} {xs : List Value}
theorem Pair.onB {B : Nat} (h : Pair w t a b aa ab ca cb wr) (hB : w.heap.size + 2 < B) (h2 : Below B wr w5) : Pair w t a b aa ab ca cb w5 :=
  ⟨h.g.trans (h2.mono (by omega)), by rw [h2.block _ (by omega)]; exact h.x, by rw [h2.block _ (by omega)]; exact h.y, by rw [h2.block _ (by omega)]; exact h.z⟩
/-- Behind an append, all below it is as it was. -/
theorem app_below (ho : Own wr (X + 1) e v xs) (hXl : X < wr.heap.size) (A5 : App (wr.drew.alloc o) (X + 1) e v xs u g cap w5) : Below (X + 1) wr w5 :=
  Below.trans (((Below.refl _ _).drew).alloc (by show X + 1 ≤ wr.heap.size; omega) o) (A5.below (Own.alloc (w := wr.drew) ho o) (by have : X < wr.drew.heap.size := hXl; simp; omega))

def SpecS (w : World) (t e : TypeId) (a b : Reg) (aa ab : Option Addr) (ca cb : Nat) (f : Nat → Bool) (X n : Nat) (i : Value) (wr : World) : Prop :=
  ∃ (k : Nat) (va : Option Addr) (vc : Nat), i = .int .i64 k ∧ k ≤ n ∧ Pair w t a b aa ab ca cb wr ∧ wr.heap[X]? = some (.cells #[.int .i64 a.wide, .int .i64 a.tall, .slice va k vc] t (0, 0)) ∧
    Own wr (X + 1) e (.slice va k vc) (((List.range k).map f).map Value.bool)
theorem specS_app (ho : Own wr (X + 1) e v xs) (hX : wr.heap[X]? = some (.cells #[.int .i64 a.wide, .int .i64 a.tall, v] t (0, 0)))
    (A5 : App (wr.drew.alloc o) (X + 1) e v xs u g cap w5) : w5.heap[X]? = some (.cells #[.int .i64 a.wide, .int .i64 a.tall, v] t (0, 0)) := by
  rw [(app_below ho (lt_of_heap hX) A5).block X (by omega)]; exact hX
theorem specS_next {va : Option Addr} {vc : Nat} (h : Pair w t a b aa ab ca cb wr) (hX : wr.heap[X]? = some (.cells #[.int .i64 a.wide, .int .i64 a.tall, .slice va k vc] t (0, 0)))
    (ho : Own wr (X + 1) e (.slice va k vc) (((List.range k).map f).map Value.bool)) (hX2 : w.heap.size + 2 < X)
    (A5 : App (wr.drew.alloc o) (X + 1) e (.slice va k vc) (((List.range k).map f).map Value.bool) (.bool (f k)) g cap w5) (hk : k < n) :
    SpecS w t e a b aa ab ca cb f X n (.int .i64 ((k : Int) + 1)) (w5.setCell ⟨X, 2, none⟩ (.slice (some ⟨g, 0, none⟩) (k + 1) cap)) := by
  have B5 := app_below ho (lt_of_heap hX) A5
  have E5 := specS_app ho hX A5
  have P5 := h.onB (by omega) B5
  refine ⟨k + 1, some ⟨g, 0, none⟩, cap, by simp, by omega, ⟨P5.g.setCell (by simp; omega) _, ?_, ?_, ?_⟩, ?_, ?_⟩
  · rw [heap_setCell_other _ _ _ _ (by simp; omega)]; exact P5.x
  · rw [heap_setCell_other _ _ _ _ (by simp; omega)]; exact P5.y
  · rw [heap_setCell_other _ _ _ _ (by simp; omega)]; exact P5.z
  · rw [heap_setCell_same w5 X 2 _ _ _ E5]; rfl
  · have := A5.own
    simp only [List.length_map, List.length_range] at this
    have h2 := Own.setCell (b := X) (o := 2) (s := none) this (by omega) (.slice (some ⟨g, 0, none⟩) (k + 1) cap)
    rw [List.range_succ, List.map_append, List.map_append]
    exact h2
/-- The same, in the world u itself. -/
theorem specS_put {va : Option Addr} {vc : Nat} {uu : World} (h : Pair w t a b aa ab ca cb uu) (hX : uu.heap[X]? = some (.cells #[.int .i64 a.wide, .int .i64 a.tall, .slice va k vc] t (0, 0)))
    (ho : Own uu (X + 1) e (.slice va k vc) (((List.range k).map f).map Value.bool)) (hX2 : w.heap.size + 2 < X)
    (A5 : App uu (X + 1) e (.slice va k vc) (((List.range k).map f).map Value.bool) (.bool (f k)) g cap w5) (hk : k < n) :
    SpecS w t e a b aa ab ca cb f X n (.int .i64 ((k : Int) + 1)) (w5.setCell ⟨X, 2, none⟩ (.slice (some ⟨g, 0, none⟩) (k + 1) cap)) := by
  have B5 := A5.below ho (by have := lt_of_heap hX; omega)
  have E5 : w5.heap[X]? = some (.cells #[.int .i64 a.wide, .int .i64 a.tall, .slice va k vc] t (0, 0)) := by rw [B5.block X (by omega)]; exact hX
  have P5 := h.onB (by omega) B5
  refine ⟨k + 1, some ⟨g, 0, none⟩, cap, by simp, by omega, ⟨P5.g.setCell (by simp; omega) _, ?_, ?_, ?_⟩, ?_, ?_⟩
  · rw [heap_setCell_other _ _ _ _ (by simp; omega)]; exact P5.x
  · rw [heap_setCell_other _ _ _ _ (by simp; omega)]; exact P5.y
  · rw [heap_setCell_other _ _ _ _ (by simp; omega)]; exact P5.z
  · rw [heap_setCell_same w5 X 2 _ _ _ E5]; rfl
  · have := A5.own
    simp only [List.length_map, List.length_range] at this
    have h2 := Own.setCell (b := X) (o := 2) (s := none) this (by omega) (.slice (some ⟨g, 0, none⟩) (k + 1) cap)
    rw [List.range_succ, List.map_append, List.map_append]
    exact h2
theorem app_at {v : Value} {uu : World} (hX : uu.heap[X]? = some (.cells #[.int .i64 a.wide, .int .i64 a.tall, v] t (0, 0))) (ho : Own uu (X + 1) e v xs) (A5 : App uu (X + 1) e v xs u g cap w5) :
    w5.heap[X]? = some (.cells #[.int .i64 a.wide, .int .i64 a.tall, v] t (0, 0)) := by
  rw [(A5.below ho (by have := lt_of_heap hX; omega)).block X (by omega)]; exact hX
end

/-- All that was there is so behind a later world's new block. -/
theorem below_after {x : World} {o : Obj} {B : Nat} (V : Later (x.alloc o)) (hB : B ≤ x.heap.size) : Below B x V.x :=
  ((Below.refl B x).alloc hB o).trans (V.h.mono (by simp; omega))
theorem cnt_meet (l m : List Bool) (n : Nat) : cnt ((List.range n).map fun k => l.getD k false && m.getD k false) ≤ cnt ((List.range n).map fun k => l.getD k false) := by
  induction n with
  | zero => simp
  | succ n ih =>
    rw [List.range_succ, List.map_append, List.map_append]
    simp only [List.map_cons, List.map_nil]
    rw [cnt_snoc, cnt_snoc]
    generalize cnt ((List.range n).map fun k => l.getD k false && m.getD k false) = A at *
    generalize cnt ((List.range n).map fun k => l.getD k false) = B at *
    cases l.getD n false <;> cases m.getD n false <;> simp <;> omega
theorem range_getD (l : List Bool) : (List.range l.length).map (fun k => l.getD k false) = l := by
  apply List.ext_getElem
  · simp
  · intro i h1 h2
    simp [List.getD_eq_getElem?_getD, h2]
theorem fits_iff {a b : Reg} : a.fits b = true ↔ a.valid = true ∧ b.valid = true ∧ a.wide = b.wide ∧ a.tall = b.tall := by
  simp [Reg.fits, and_assoc]
theorem meet_valid {a b : Reg} (h : a.fits b = true) : (Reg.both (fun p q => p && q) a b).valid = true := by
  obtain ⟨h1, h2, h3, h4⟩ := fits_iff.1 h
  obtain ⟨v1, v2, v3, v4⟩ := Reg.valid_iff.1 h1
  refine Reg.valid_iff.2 ⟨v1, v2, by simpa [Reg.both] using v3, ?_⟩
  have := cnt_meet a.cells b.cells a.cells.length
  rw [range_getD] at this
  exact Int.le_trans this v4

end Domi
