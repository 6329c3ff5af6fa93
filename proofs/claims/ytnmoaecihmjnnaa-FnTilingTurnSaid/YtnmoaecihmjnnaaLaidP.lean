/- Lists that lay dominoes: plain. -/
import Derived.Test.YtnmoaecihmjnnaaBord
namespace Domi
open Go Go.RowKit

def backI (way : Int) : Int := (way + 1) % 4 + 1
/-- What the list says of cell k fits what it says of its neighbours. -/
def okAt (r : Reg) (L : List Int) (k : Nat) : Bool :=
  decide (L.getD k 0 = 0) || (decide (0 ≤ stepI r k (L.getD k 0)) && r.f k && r.f (stepI r k (L.getD k 0)).toNat && decide (L.getD (stepI r k (L.getD k 0)).toNat 0 = backI (L.getD k 0)))
def laysB (r : Reg) (L : List Int) : Bool := decide (L.length = r.cells.length) && (List.range L.length).all (okAt r L)
def laidOk (r : Reg) (L : List Int) : Bool := r.valid && laysB r L
def fullB (r : Reg) (L : List Int) : Bool := (List.range r.cells.length).all fun k => !r.f k || !decide (L.getD k 0 = 0)
def tilingOk (r : Reg) (L : List Int) : Bool := laidOk r L && fullB r L

theorem stepI_way {r : Reg} {c way : Int} (h : 0 ≤ stepI r c way) : 1 ≤ way ∧ way ≤ 4 := by
  by_cases e : 1 ≤ way ∧ way ≤ 4
  · exact e
  · rw [stepI_other (by omega)] at h; omega

theorem okAt_zero {r : Reg} {L : List Int} {k : Nat} (h : L.getD k 0 = 0) : okAt r L k = true := by unfold okAt; rw [decide_eq_true h]; rfl
theorem okAt_iff {r : Reg} {L : List Int} {k : Nat} : okAt r L k = true ↔ L.getD k 0 = 0 ∨ (0 ≤ stepI r k (L.getD k 0) ∧ r.f k = true ∧ r.f (stepI r k (L.getD k 0)).toNat = true ∧ L.getD (stepI r k (L.getD k 0)).toNat 0 = backI (L.getD k 0)) := by
  unfold okAt; simp [and_assoc]
theorem okAt_no {r : Reg} {L : List Int} {k : Nat} (h0 : L.getD k 0 ≠ 0) (h : ¬ (0 ≤ stepI r k (L.getD k 0) ∧ r.f k = true ∧ r.f (stepI r k (L.getD k 0)).toNat = true ∧ L.getD (stepI r k (L.getD k 0)).toNat 0 = backI (L.getD k 0))) : okAt r L k = false := by
  cases e : okAt r L k
  · rfl
  · rcases okAt_iff.1 e with e | e
    · exact absurd e h0
    · exact absurd e h
theorem okAt_bad {r : Reg} {L : List Int} {k : Nat} {x s : Int} (hx : L.getD k 0 = x) (h0 : x ≠ 0) (hs : stepI r k x = s) (h : ¬ (0 ≤ s ∧ r.f k = true ∧ r.f s.toNat = true ∧ L.getD s.toNat 0 = backI x)) : okAt r L k = false := by
  subst hx; subst hs; exact okAt_no h0 h
theorem okAt_good {r : Reg} {L : List Int} {k : Nat} {x s : Int} (hx : L.getD k 0 = x) (hs : stepI r k x = s) (h1 : 0 ≤ s) (h2 : r.f k = true) (h3 : r.f s.toNat = true) (h4 : L.getD s.toNat 0 = backI x) : okAt r L k = true := by
  subst hx; subst hs; exact okAt_iff.2 (.inr ⟨h1, h2, h3, h4⟩)
theorem ok_snoc {r : Reg} {L : List Int} {k : Nat} (h : ∀ j, j < k → okAt r L j = true) (hk : okAt r L k = true) : ∀ j, j < k + 1 → okAt r L j = true := fun j hj => by
  by_cases e : j = k
  · subst e; exact hk
  · exact h j (by omega)
theorem laysB_iff {r : Reg} {L : List Int} : laysB r L = true ↔ L.length = r.cells.length ∧ ∀ k, k < L.length → okAt r L k = true := by
  unfold laysB; simp [List.all_eq_true]
theorem laidOk_iff {r : Reg} {L : List Int} : laidOk r L = true ↔ r.valid = true ∧ L.length = r.cells.length ∧ ∀ k, k < L.length → okAt r L k = true := by
  unfold laidOk; rw [Bool.and_eq_true, laysB_iff]
theorem laidOk_no1 {r : Reg} {L : List Int} (h : r.valid = false) : laidOk r L = false := by unfold laidOk; rw [h]; rfl
theorem laysB_no2 {r : Reg} {L : List Int} (h : L.length ≠ r.cells.length) : laysB r L = false := by unfold laysB; rw [decide_eq_false h]; rfl
theorem laidOk_no2 {r : Reg} {L : List Int} (h : L.length ≠ r.cells.length) : laidOk r L = false := by unfold laidOk; rw [laysB_no2 h, Bool.and_false]
theorem laysB_no3 {r : Reg} {L : List Int} {k : Nat} (hk : k < L.length) (h : okAt r L k = false) : laysB r L = false := by
  cases e : laysB r L
  · rfl
  · rw [(laysB_iff.1 e).2 k hk] at h; cases h
theorem laidOk_no3 {r : Reg} {L : List Int} {k : Nat} (hk : k < L.length) (h : okAt r L k = false) : laidOk r L = false := by unfold laidOk; rw [laysB_no3 hk h, Bool.and_false]
/-- What a list that lays dominoes says of a cell. -/
structure LaidAt (r : Reg) (L : List Int) (k : Nat) : Prop where
  way : 1 ≤ L.getD k 0 ∧ L.getD k 0 ≤ 4
  here : r.f k = true
  dest : 0 ≤ stepI r k (L.getD k 0) ∧ stepI r k (L.getD k 0) < L.length
  there : r.f (stepI r k (L.getD k 0)).toNat = true
  back : L.getD (stepI r k (L.getD k 0)).toNat 0 = backI (L.getD k 0)
theorem laidOk_at {r : Reg} {L : List Int} (h : laidOk r L = true) {k : Nat} (hk : k < L.length) (h0 : L.getD k 0 ≠ 0) : LaidAt r L k := by
  obtain ⟨_, h2, h3⟩ := laidOk_iff.1 h
  rcases okAt_iff.1 (h3 k hk) with e | ⟨e1, e2, e3, e4⟩
  · exact absurd e h0
  · exact ⟨stepI_way e1, e2, ⟨e1, by have := f_lt e3; omega⟩, e3, e4⟩
theorem laidOk_bd {r : Reg} {L : List Int} (h : laidOk r L = true) (k : Nat) : 0 ≤ L.getD k 0 ∧ L.getD k 0 ≤ 4 := by
  by_cases hk : k < L.length
  · by_cases h0 : L.getD k 0 = 0
    · rw [h0]; omega
    · have := (laidOk_at h hk h0).way; omega
  · rw [List.getD_eq_getElem?_getD, List.getElem?_eq_none (by omega)]; simp

/-! ### laying and lifting -/
def free (r : Reg) (L : List Int) (c way : Int) : Bool :=
  inB c 0 (r.cells.length - 1) && (decide (0 ≤ stepI r c way) && r.f c.toNat && r.f (stepI r c way).toNat && decide (L.getD c.toNat 0 = 0) && decide (L.getD (stepI r c way).toNat 0 = 0))
def layL (r : Reg) (L : List Int) (c way : Int) : List Int := (L.set c.toNat way).set (stepI r c way).toNat (backI way)
def liftL (r : Reg) (L : List Int) (c : Int) : List Int := (L.set (stepI r c (L.getD c.toNat 0)).toNat 0).set c.toNat 0
def layOne (r : Reg) (L : List Int) (c way : Int) : List Int × Bool := if laidOk r L then (if free r L c way then (layL r L c way, true) else (L, false)) else ([], false)
def liftOk (L : List Int) (c : Int) : Bool := inB c 0 (L.length - 1) && !decide (L.getD c.toNat 0 = 0)
def liftOne (r : Reg) (L : List Int) (c : Int) : List Int × Bool := if laidOk r L then (if liftOk L c then (liftL r L c, true) else (L, false)) else ([], false)
def stepTo (r : Reg) (c way : Int) : Int := if r.valid && inB c 0 (r.cells.length - 1) && inB way 1 4 then stepI r c way else -1
def bareL (r : Reg) : List Int := if r.valid then List.replicate r.cells.length 0 else []
def wayN (p : Int → Bool) (L : List Int) : Int := ((L.filter p).length : Nat)
def isLow (x : Int) : Bool := decide (x = 1) || decide (x = 2)
def isEast (x : Int) : Bool := decide (x = 1)
def laidMany (r : Reg) (L : List Int) : Int := if laidOk r L then wayN isLow L else -1
def flatMany (r : Reg) (L : List Int) : Int := if laidOk r L then wayN isEast L else -1
theorem wayN_le (p : Int → Bool) (L : List Int) : 0 ≤ wayN p L ∧ wayN p L ≤ L.length := by
  unfold wayN; have := List.length_filter_le p L; omega
theorem wayN_snoc (p : Int → Bool) (L : List Int) (x : Int) : wayN p (L ++ [x]) = wayN p L + if p x then 1 else 0 := by
  unfold wayN; rw [List.filter_append]; cases h : p x <;> simp [h]
theorem wayN_take {p : Int → Bool} {L : List Int} {k : Nat} (hk : k < L.length) : wayN p (L.take (k + 1)) = wayN p (L.take k) + if p (L.getD k 0) then 1 else 0 := by
  rw [take_snoc L 0 k hk, wayN_snoc]

theorem layOne_no {r : Reg} {L : List Int} {c way : Int} (h : laidOk r L = false) : layOne r L c way = ([], false) := by unfold layOne; rw [h]; rfl
theorem layOne_same {r : Reg} {L : List Int} {c way : Int} (h : laidOk r L = true) (hf : free r L c way = false) : layOne r L c way = (L, false) := by unfold layOne; rw [h, hf]; rfl
theorem layOne_yes {r : Reg} {L : List Int} {c way : Int} (h : laidOk r L = true) (hf : free r L c way = true) : layOne r L c way = (layL r L c way, true) := by unfold layOne; rw [h, hf]; rfl
theorem liftOne_no {r : Reg} {L : List Int} {c : Int} (h : laidOk r L = false) : liftOne r L c = ([], false) := by unfold liftOne; rw [h]; rfl
theorem liftOne_same {r : Reg} {L : List Int} {c : Int} (h : laidOk r L = true) (hf : liftOk L c = false) : liftOne r L c = (L, false) := by unfold liftOne; rw [h, hf]; rfl
theorem liftOne_yes {r : Reg} {L : List Int} {c : Int} (h : laidOk r L = true) (hf : liftOk L c = true) : liftOne r L c = (liftL r L c, true) := by unfold liftOne; rw [h, hf]; rfl
theorem free_iff {r : Reg} {L : List Int} {c way : Int} : free r L c way = true ↔ (0 ≤ c ∧ c < r.cells.length) ∧ 0 ≤ stepI r c way ∧ r.f c.toNat = true ∧ r.f (stepI r c way).toNat = true ∧ L.getD c.toNat 0 = 0 ∧ L.getD (stepI r c way).toNat 0 = 0 := by
  unfold free; simp [inB_iff, and_assoc]; omega
theorem liftOk_iff {L : List Int} {c : Int} : liftOk L c = true ↔ (0 ≤ c ∧ c < L.length) ∧ L.getD c.toNat 0 ≠ 0 := by
  unfold liftOk; simp [inB_iff]; omega
theorem stepTo_no {r : Reg} {c way : Int} (h : r.valid = false ∨ inB c 0 (r.cells.length - 1) = false ∨ inB way 1 4 = false) : stepTo r c way = -1 := by
  unfold stepTo; rcases h with h | h | h <;> simp [h]
theorem stepTo_yes {r : Reg} {c way : Int} (h1 : r.valid = true) (h2 : inB c 0 (r.cells.length - 1) = true) (h3 : inB way 1 4 = true) : stepTo r c way = stepI r c way := by
  unfold stepTo; rw [h1, h2, h3]; rfl
theorem bareL_no {r : Reg} (h : r.valid = false) : bareL r = [] := by unfold bareL; rw [h]; rfl
theorem bareL_yes {r : Reg} (h : r.valid = true) : bareL r = List.replicate r.cells.length 0 := by unfold bareL; rw [if_pos h]
end Domi
