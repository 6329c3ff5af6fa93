/- The wider field of a region, its free places, and which of them are near: plain. -/
import Derived.Test.YtjdnfmpnfogmpaaHoleP
namespace Domi
open Go Go.RowKit

/-- How many places the wider field has. -/
def Reg.n2 (r : Reg) : Nat := ((r.wide + 2) * (r.tall + 2)).toNat
/-- Is the k-th place of the wider field one, and no cell of the region? -/
def Reg.fr (r : Reg) (k : Nat) : Bool := decide (k < r.n2) && !r.at_ ((k : Int) % (r.wide + 2) - 1) ((k : Int) / (r.wide + 2) - 1)
/-- Two free places, the one beside the other or at a corner. -/
def E8 (r : Reg) (a b : Nat) : Prop := r.fr a = true ∧ r.fr b = true ∧ (-1 ≤ (a : Int) % (r.wide + 2) - (b : Int) % (r.wide + 2) ∧ (a : Int) % (r.wide + 2) - (b : Int) % (r.wide + 2) ≤ 1) ∧ (-1 ≤ (a : Int) / (r.wide + 2) - (b : Int) / (r.wide + 2) ∧ (a : Int) / (r.wide + 2) - (b : Int) / (r.wide + 2) ≤ 1)
/-- The place in column x and row y of the wider field is the k-th. -/
def plc (r : Reg) (x y : Int) (k : Nat) : Prop := 0 ≤ x ∧ x < r.wide + 2 ∧ 0 ≤ y ∧ y < r.tall + 2 ∧ (k : Int) = y * (r.wide + 2) + x
/-- A place about (x, y), before the direction (a, b). -/
def KJ (r : Reg) (x y a b : Int) (k : Nat) : Prop := ∃ dx dy : Int, (-1 ≤ dx ∧ dx ≤ 1) ∧ (-1 ≤ dy ∧ dy ≤ 1) ∧ (dx < a ∨ (dx = a ∧ dy < b)) ∧ plc r (x + dx) (y + dy) k

section
variable {r : Reg} {x y : Int} {k c : Nat}
theorem fr_lt (h : r.fr k = true) : k < r.n2 := by unfold Reg.fr at h; simp only [Bool.and_eq_true, decide_eq_true_eq] at h; exact h.1
theorem E8.symm {a b : Nat} (h : E8 r a b) : E8 r b a := ⟨h.2.1, h.1, by have := h.2.2.1; omega, by have := h.2.2.2; omega⟩
theorem E8.lt {a b : Nat} (h : E8 r a b) : a < r.n2 ∧ b < r.n2 ∧ r.fr b = true := ⟨fr_lt h.1, fr_lt h.2.1, h.2.1⟩
theorem n2_int (h1 : 1 ≤ r.wide) (h2 : 1 ≤ r.tall) : (r.n2 : Int) = (r.wide + 2) * (r.tall + 2) := by
  unfold Reg.n2
  have : 0 ≤ (r.wide + 2) * (r.tall + 2) := Int.mul_nonneg (by omega) (by omega)
  omega
theorem area_in' {x y : Int} (hx : 1 ≤ x ∧ x ≤ 6) (hy : 1 ≤ y ∧ y ≤ 6) : (x + 2) * (y + 2) ≤ 64 := by
  obtain ⟨a, b⟩ := hx
  have h : x = 1 ∨ x = 2 ∨ x = 3 ∨ x = 4 ∨ x = 5 ∨ x = 6 := by omega
  rcases h with rfl | rfl | rfl | rfl | rfl | rfl <;> omega
theorem plc.inv (h1 : 1 ≤ r.wide) (h2 : 1 ≤ r.tall) (h : plc r x y k) : k < r.n2 ∧ (k : Int) % (r.wide + 2) = x ∧ (k : Int) / (r.wide + 2) = y := by
  obtain ⟨a, b, c, d, e⟩ := h
  have hm := xy_of (w := r.wide + 2) (x := x) (y := y) a b
  have hl := xy_lt (w := r.wide + 2) (t := r.tall + 2) (x := x) (y := y) a b c d
  rw [← e] at hm hl
  have := n2_int h1 h2
  exact ⟨by omega, hm.1, hm.2⟩
theorem plc_at (h1 : 1 ≤ r.wide) (h2 : 1 ≤ r.tall) (hk : k < r.n2) : plc r ((k : Int) % (r.wide + 2)) ((k : Int) / (r.wide + 2)) k := by
  have hn := n2_int h1 h2
  have := div_lt_of (w := r.wide + 2) (t := r.tall + 2) (c := (k : Int)) (by omega) (by omega)
  refine ⟨Int.emod_nonneg _ (by omega), Int.emod_lt_of_pos _ (by omega), Int.ediv_nonneg (by omega) (by omega), by omega, ?_⟩
  have := Int.mul_ediv_add_emod (k : Int) (r.wide + 2)
  rw [Int.mul_comm] at this
  omega
theorem plc.fr (h1 : 1 ≤ r.wide) (h2 : 1 ≤ r.tall) (h : plc r x y k) : r.fr k = !r.at_ (x - 1) (y - 1) := by
  obtain ⟨a, b, c⟩ := h.inv h1 h2
  unfold Reg.fr
  rw [b, c]
  simp [a]
theorem plc.uniq (h : plc r x y k) (g : plc r x y c) : k = c := by have := h.2.2.2.2; have := g.2.2.2.2; omega
theorem KJ_none (h : KJ r x y (-1) (-1) k) : False := by obtain ⟨dx, dy, h1, h2, h3, _⟩ := h; omega
theorem KJ_step {a b : Int} (ha : -1 ≤ a ∧ a ≤ 1) (hb : -1 ≤ b ∧ b ≤ 1) : KJ r x y a b k ∨ plc r (x + a) (y + b) k ↔ KJ r x y a (b + 1) k := by
  constructor
  · rintro (⟨dx, dy, h1, h2, h3, h4⟩ | h)
    · exact ⟨dx, dy, h1, h2, by omega, h4⟩
    · exact ⟨a, b, ha, hb, by omega, h⟩
  · rintro ⟨dx, dy, h1, h2, h3, h4⟩
    by_cases e : dx = a ∧ dy = b
    · obtain ⟨rfl, rfl⟩ := e; exact .inr h4
    · exact .inl ⟨dx, dy, h1, h2, by omega, h4⟩
theorem KJ_row {a : Int} : KJ r x y a 2 k ↔ KJ r x y (a + 1) (-1) k :=
  ⟨fun ⟨dx, dy, h1, h2, h3, h4⟩ => ⟨dx, dy, h1, h2, by omega, h4⟩, fun ⟨dx, dy, h1, h2, h3, h4⟩ => ⟨dx, dy, h1, h2, by omega, h4⟩⟩
theorem KJ_all (h1 : 1 ≤ r.wide) (h2 : 1 ≤ r.tall) (hc : plc r x y c) (hf : r.fr c = true) (hk : r.fr k = true) : KJ r x y 2 (-1) k ↔ E8 r c k := by
  obtain ⟨a1, a2, a3⟩ := hc.inv h1 h2
  unfold E8
  rw [a2, a3]
  constructor
  · rintro ⟨dx, dy, d1, d2, d3, d4⟩
    obtain ⟨_, b2, b3⟩ := d4.inv h1 h2
    rw [b2, b3]
    exact ⟨hf, hk, by omega, by omega⟩
  · rintro ⟨_, _, e1, e2⟩
    have hp := plc_at h1 h2 (fr_lt hk)
    refine ⟨(k : Int) % (r.wide + 2) - x, (k : Int) / (r.wide + 2) - y, by omega, by omega, by omega, ?_⟩
    rw [show x + ((k : Int) % (r.wide + 2) - x) = (k : Int) % (r.wide + 2) by omega, show y + ((k : Int) / (r.wide + 2) - y) = (k : Int) / (r.wide + 2) by omega]
    exact hp
/-- Behind all nine directions: the search from here is done. -/
theorem dfs_all (h1 : 1 ≤ r.wide) (h2 : 1 ≤ r.tall) {M M' : List Bool} (hl : M.length = r.n2) (hc : plc r x y c) (hf : r.fr c = true) (g : Dfs (E8 r) r.fr (M.set c true) M' (KJ r x y 2 (-1))) : Dfs (E8 r) r.fr M M' (plc r x y) :=
  (Dfs.visit (E := E8 r) (by rw [hl]; exact fr_lt hf) (fun _ _ e => e.2.1) (g.congr fun _ hk => KJ_all h1 h2 hc hf hk) hf).congr fun k hk => ⟨fun e => by subst e; exact hc, fun e => e.uniq hc⟩
theorem dfs_out {M : List Bool} (h : ¬ (0 ≤ x ∧ x < r.wide + 2 ∧ 0 ≤ y ∧ y < r.tall + 2)) : Dfs (E8 r) r.fr M M (plc r x y) :=
  .nothing fun _ hk _ => absurd ⟨hk.1, hk.2.1, hk.2.2.1, hk.2.2.2.1⟩ h
theorem dfs_met {M : List Bool} (hc : plc r x y c) (h : M.getD c false = true) : Dfs (E8 r) r.fr M M (plc r x y) :=
  .nothing fun k hk _ => by rw [hk.uniq hc]; exact h
theorem dfs_cell {M : List Bool} (h1 : 1 ≤ r.wide) (h2 : 1 ≤ r.tall) (h : r.at_ (x - 1) (y - 1) = true) : Dfs (E8 r) r.fr M M (plc r x y) :=
  .nothing fun k hk hf => by rw [hk.fr h1 h2, h] at hf; cases hf
end
/-- How many holes a region has. -/
noncomputable def Reg.holes (r : Reg) : Int := (rootsN (E8 r) r.fr r.n2 : Int) - 1
noncomputable def Reg.holesR (r : Reg) : Int := if r.valid then r.holes else -1
theorem holesR_no {r : Reg} (h : r.valid = false) : r.holesR = -1 := by unfold Reg.holesR; rw [h]; rfl
theorem holesR_yes {r : Reg} (h : r.valid = true) : r.holesR = r.holes := by unfold Reg.holesR; rw [if_pos h]
end Domi
