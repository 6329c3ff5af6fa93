/- Cells by column and row, and the cell in a direction: plain part. -/
import Derived.Test.YtnmoaecihmjnnaaCombC
namespace Domi
open Go Go.RowKit

/-- Does the cell in column x and row y belong to the region? -/
def Reg.at_ (r : Reg) (x y : Int) : Bool := inB x 0 (r.wide - 1) && inB y 0 (r.tall - 1) && r.g x y
/-- The cell in a direction, or -1. -/
def stepI (r : Reg) (c way : Int) : Int :=
  if way = 1 then (if c % r.wide < r.wide - 1 then c + 1 else -1)
  else if way = 2 then (if c / r.wide < r.tall - 1 then c + r.wide else -1)
  else if way = 3 then (if 0 < c % r.wide then c - 1 else -1)
  else if way = 4 then (if 0 < c / r.wide then c - r.wide else -1) else -1

theorem cell_xy {r : Reg} {c : Int} (hw : 1 ≤ r.wide) (h0 : 0 ≤ c) (h : c < r.wide * r.tall) : 0 ≤ c % r.wide ∧ c % r.wide < r.wide ∧ 0 ≤ c / r.wide ∧ c / r.wide < r.tall ∧ c / r.wide * r.wide + c % r.wide = c := by
  have := div_lt_of hw h
  exact ⟨Int.emod_nonneg c (by omega), Int.emod_lt_of_pos c (by omega), Int.ediv_nonneg h0 (by omega), by omega, of_xy (by omega)⟩

theorem stepI_in {r : Reg} {c way : Int} (hw : 1 ≤ r.wide) (h0 : 0 ≤ c) (h : c < r.wide * r.tall) : stepI r c way = -1 ∨ (0 ≤ stepI r c way ∧ stepI r c way < r.wide * r.tall) := by
  obtain ⟨a1, a2, a3, a4, a5⟩ := cell_xy hw h0 h
  unfold stepI
  split
  · split
    · right
      have := xy_lt (w := r.wide) (t := r.tall) (x := c % r.wide + 1) (y := c / r.wide) (by omega) (by omega) a3 a4
      omega
    · exact .inl rfl
  · split
    · split
      · right
        have := xy_lt (w := r.wide) (t := r.tall) (x := c % r.wide) (y := c / r.wide + 1) (by omega) (by omega) (by omega) (by omega)
        rw [Int.add_mul] at this
        omega
      · exact .inl rfl
    · split
      · split
        · right
          have := xy_lt (w := r.wide) (t := r.tall) (x := c % r.wide - 1) (y := c / r.wide) (by omega) (by omega) a3 a4
          omega
        · exact .inl rfl
      · split
        · split
          · right
            have := xy_lt (w := r.wide) (t := r.tall) (x := c % r.wide) (y := c / r.wide - 1) (by omega) (by omega) (by omega) (by omega)
            rw [Int.sub_mul] at this
            omega
          · exact .inl rfl
        · exact .inl rfl

/-- One step back from there leads here. -/
theorem stepI_back {r : Reg} {c way : Int} (hw : 1 ≤ r.wide) (h0 : 0 ≤ c) (h : c < r.wide * r.tall) (h1 : 1 ≤ way) (h4 : way ≤ 4) (hs : 0 ≤ stepI r c way) : stepI r (stepI r c way) ((way + 1) % 4 + 1) = c := by
  obtain ⟨a1, a2, a3, a4, a5⟩ := cell_xy hw h0 h
  have hway : way = 1 ∨ way = 2 ∨ way = 3 ∨ way = 4 := by omega
  rcases hway with rfl | rfl | rfl | rfl
  · unfold stepI at hs ⊢
    simp only [if_true] at hs ⊢
    split at hs
    · rename_i hx
      have := xy_of (w := r.wide) (x := c % r.wide + 1) (y := c / r.wide) (by omega) (by omega)
      rw [show c / r.wide * r.wide + (c % r.wide + 1) = c + 1 by omega] at this
      simp only [hx, if_true]
      rw [if_neg (by decide), if_neg (by decide), if_pos (by decide), this.1, if_pos (by omega)]; omega
    · omega
  · unfold stepI at hs ⊢
    simp only [show (2 : Int) = 1 ↔ False from by decide, if_false, if_true] at hs ⊢
    split at hs
    · rename_i hx
      have := xy_of (w := r.wide) (x := c % r.wide) (y := c / r.wide + 1) (by omega) (by omega)
      rw [show (c / r.wide + 1) * r.wide + c % r.wide = c + r.wide by rw [Int.add_mul]; omega] at this
      simp only [hx, if_true]
      rw [if_neg (by decide), if_neg (by decide), if_neg (by decide), if_pos (by decide), this.2, if_pos (by omega)]; omega
    · omega
  · unfold stepI at hs ⊢
    simp only [show (3 : Int) = 1 ↔ False from by decide, show (3 : Int) = 2 ↔ False from by decide, if_false, if_true] at hs ⊢
    split at hs
    · rename_i hx
      have := xy_of (w := r.wide) (x := c % r.wide - 1) (y := c / r.wide) (by omega) (by omega)
      rw [show c / r.wide * r.wide + (c % r.wide - 1) = c - 1 by omega] at this
      simp only [hx, if_true]
      rw [if_pos (by decide), this.1, if_pos (by omega)]; omega
    · omega
  · unfold stepI at hs ⊢
    simp only [show (4 : Int) = 1 ↔ False from by decide, show (4 : Int) = 2 ↔ False from by decide, show (4 : Int) = 3 ↔ False from by decide, if_false, if_true] at hs ⊢
    split at hs
    · rename_i hx
      have := xy_of (w := r.wide) (x := c % r.wide) (y := c / r.wide - 1) (by omega) (by omega)
      rw [show (c / r.wide - 1) * r.wide + c % r.wide = c - r.wide by rw [Int.sub_mul]; omega] at this
      simp only [hx, if_true]
      rw [if_neg (by decide), if_pos (by decide), this.2, if_pos (by omega)]; omega
    · omega

/-- By column and row: one step. -/
def dX (way : Int) : Int := if way = 1 then 1 else if way = 3 then -1 else 0
def dY (way : Int) : Int := if way = 2 then 1 else if way = 4 then -1 else 0
theorem stepI_xy {r : Reg} {c way : Int} (hw : 1 ≤ r.wide) (h0 : 0 ≤ c) (h : c < r.wide * r.tall) (h1 : 1 ≤ way) (h4 : way ≤ 4) :
    stepI r c way = if inB (c % r.wide + dX way) 0 (r.wide - 1) && inB (c / r.wide + dY way) 0 (r.tall - 1) then (c / r.wide + dY way) * r.wide + (c % r.wide + dX way) else -1 := by
  obtain ⟨a1, a2, a3, a4, a5⟩ := cell_xy hw h0 h
  have hway : way = 1 ∨ way = 2 ∨ way = 3 ∨ way = 4 := by omega
  rcases hway with rfl | rfl | rfl | rfl
  · simp only [stepI, dX, dY, if_true, show (1 : Int) = 2 ↔ False from by decide, show (1 : Int) = 4 ↔ False from by decide, if_false, Int.add_zero]
    by_cases hx : c % r.wide < r.wide - 1
    · rw [if_pos hx, if_pos (by simp [inB]; omega)]; omega
    · rw [if_neg hx, if_neg (by simp [inB]; omega)]
  · simp only [stepI, dX, dY, if_true, show (2 : Int) = 1 ↔ False from by decide, show (2 : Int) = 3 ↔ False from by decide, if_false, Int.add_zero]
    by_cases hx : c / r.wide < r.tall - 1
    · rw [if_pos hx, if_pos (by simp [inB]; omega), Int.add_mul]; omega
    · rw [if_neg hx, if_neg (by simp [inB]; omega)]
  · simp only [stepI, dX, dY, if_true, show (3 : Int) = 1 ↔ False from by decide, show (3 : Int) = 2 ↔ False from by decide, show (3 : Int) = 4 ↔ False from by decide, if_false, Int.add_zero]
    by_cases hx : 0 < c % r.wide
    · rw [if_pos hx, if_pos (by simp [inB]; omega)]; omega
    · rw [if_neg hx, if_neg (by simp [inB]; omega)]
  · simp only [stepI, dX, dY, if_true, show (4 : Int) = 1 ↔ False from by decide, show (4 : Int) = 2 ↔ False from by decide, show (4 : Int) = 3 ↔ False from by decide, if_false, Int.add_zero]
    by_cases hx : 0 < c / r.wide
    · rw [if_pos hx, if_pos (by simp [inB]; omega), Int.add_mul]; omega
    · rw [if_neg hx, if_neg (by simp [inB]; omega)]
theorem stepI_other {r : Reg} {c way : Int} (h : way < 1 ∨ 4 < way) : stepI r c way = -1 := by
  unfold stepI
  rw [if_neg (by omega), if_neg (by omega), if_neg (by omega), if_neg (by omega)]
theorem at_cell {r : Reg} {x y : Int} (hx : inB x 0 (r.wide - 1) = true) (hy : inB y 0 (r.tall - 1) = true) : r.at_ x y = r.cells.getD (y * r.wide + x).toNat false := by
  simp [Reg.at_, hx, hy, Reg.g]

end Domi
