/- The dark cells of a region. -/
import Derived.Test.YtnmoaecihmjnnaaBase
namespace Domi
def darkB (w : Int) (k : Int) : Bool := (k % w + k / w) % 2 == 0
/-- How many of the first k cells belong to a region and are dark. -/
def Reg.darkTo (r : Reg) : Nat → Int
  | 0 => 0
  | k + 1 => r.darkTo k + if r.cells.getD k false && darkB r.wide k then 1 else 0
theorem Reg.darkTo_le (r : Reg) (k : Nat) : 0 ≤ r.darkTo k ∧ r.darkTo k ≤ k := by
  induction k with
  | zero => simp [Reg.darkTo]
  | succ k ih => simp only [Reg.darkTo]; split <;> omega
def Reg.darks (r : Reg) : Int := r.darkTo r.cells.length
def Reg.dmany (r : Reg) : Int := if r.valid then r.darks else -1
def Reg.bal (r : Reg) : Bool := r.valid && decide (2 * r.darks = cnt r.cells)
theorem Reg.dmany_yes {r : Reg} (h : r.valid = true) : r.dmany = r.darks := by simp [Reg.dmany, h]
theorem Reg.dmany_no {r : Reg} (h : r.valid = false) : r.dmany = -1 := by simp [Reg.dmany, h]
theorem Reg.darkTo_yes {r : Reg} {k : Nat} (h : r.cells.getD k false = true) (g : darkB r.wide k = true) : r.darkTo (k + 1) = r.darkTo k + 1 := by
  simp only [Reg.darkTo, h, g, Bool.and_self, if_true]
theorem Reg.darkTo_no {r : Reg} {k : Nat} (h : r.cells.getD k false = false ∨ darkB r.wide k = false) : r.darkTo (k + 1) = r.darkTo k := by
  rcases h with h | h <;> simp only [Reg.darkTo, h, Bool.false_and, Bool.and_false, Bool.false_eq_true, if_false, Int.add_zero]

end Domi
