/- Sides shared by two: plain law. -/
import Derived.Test.YtnmoaecihmjnnaaAtP
import Derived.Test.YtnmoaecihmjnnaaGraph
namespace Domi
open Go Go.RowKit

def sumI (g : Nat → Int) : Nat → Int
  | 0 => 0
  | n + 1 => sumI g n + g n
theorem sumI_add (g h : Nat → Int) (n : Nat) : sumI (fun k => g k + h k) n = sumI g n + sumI h n := by
  induction n with
  | zero => rfl
  | succ n ih => simp only [sumI, ih]; omega
theorem sumI_mul (c : Int) (g : Nat → Int) (n : Nat) : sumI (fun k => c * g k) n = c * sumI g n := by
  induction n with
  | zero => simp [sumI]
  | succ n ih => simp only [sumI, ih, Int.mul_add]
theorem sumI_congr {g h : Nat → Int} {n : Nat} (e : ∀ k, k < n → g k = h k) : sumI g n = sumI h n := by
  induction n with
  | zero => rfl
  | succ n ih => simp only [sumI, ih fun k hk => e k (by omega), e n (by omega)]
theorem sumI_num (Q : Nat → Bool) (n : Nat) : sumI (fun k => if Q k then 1 else 0) n = (num n (fun k => Q k = true) : Int) := by
  induction n with
  | zero => rfl
  | succ n ih => rw [sumI, ih, num_succ]; by_cases h : Q n = true <;> simp [h]
theorem sumI_bd {g : Nat → Int} {n : Nat} {c : Int} (h : ∀ k, k < n → 0 ≤ g k ∧ g k ≤ c) : 0 ≤ sumI g n ∧ sumI g n ≤ c * n := by
  induction n with
  | zero => simp [sumI]
  | succ n ih =>
    have h1 := ih fun k hk => h k (by omega)
    have h2 := h n (by omega)
    have h3 : c * ((n + 1 : Nat) : Int) = c * n + c := by rw [Int.natCast_add, Int.mul_add]; simp
    rw [sumI, h3]
    omega

def Reg.f (r : Reg) (k : Nat) : Bool := r.cells.getD k false
/-- Is there a cell of the region in this direction? -/
def nbr (r : Reg) (k : Nat) (way : Int) : Bool := decide (0 ≤ stepI r k way) && r.f (stepI r k way).toNat
def sides (r : Reg) (k : Nat) (m : Nat) : Int := sumI (fun j => if nbr r k ((j : Int) + 1) then 0 else 1) m
def bordTo (r : Reg) (n : Nat) : Int := sumI (fun k => if r.f k then sides r k 4 else 0) n
def Reg.bord (r : Reg) : Int := if r.valid then bordTo r r.cells.length else -1
def pairTo (r : Reg) (n : Nat) : Int := sumI (fun k => (if r.f k && nbr r k 1 then 1 else 0) + (if r.f k && nbr r k 2 then 1 else 0)) n

theorem sides_bd (r : Reg) (k m : Nat) : 0 ≤ sides r k m ∧ sides r k m ≤ m := by
  have := sumI_bd (g := fun j => if nbr r k ((j : Int) + 1) then 0 else 1) (n := m) (c := 1) (fun j _ => by split <;> omega)
  unfold sides; omega
theorem sides_succ (r : Reg) (k m : Nat) : sides r k (m + 1) = sides r k m + (if nbr r k ((m : Int) + 1) then 0 else 1) := rfl
theorem bordTo_bd (r : Reg) (n : Nat) : 0 ≤ bordTo r n ∧ bordTo r n ≤ 4 * n :=
  sumI_bd fun k _ => by
    have := sides_bd r k 4
    split <;> omega
theorem bordTo_succ (r : Reg) (n : Nat) : bordTo r (n + 1) = bordTo r n + (if r.f n then sides r n 4 else 0) := rfl
theorem pairTo_bd (r : Reg) (n : Nat) : 0 ≤ pairTo r n ∧ pairTo r n ≤ 2 * n := sumI_bd fun k _ => by split <;> split <;> omega
theorem pairTo_succ (r : Reg) (n : Nat) : pairTo r (n + 1) = pairTo r n + ((if r.f n && nbr r n 1 then 1 else 0) + (if r.f n && nbr r n 2 then 1 else 0)) := rfl

theorem f_lt {r : Reg} {k : Nat} (h : r.f k = true) : k < r.cells.length := by
  rcases Nat.lt_or_ge k r.cells.length with h1 | h1
  · exact h1
  · simp [Reg.f, h1] at h
theorem nbr_iff {r : Reg} {k : Nat} {way : Int} : nbr r k way = true ↔ 0 ≤ stepI r k way ∧ r.f (stepI r k way).toNat = true := by simp [nbr]
theorem num_cnt (r : Reg) : (num r.cells.length (fun k => r.f k = true) : Int) = cnt r.cells := by
  have key : ∀ n, n ≤ r.cells.length → (num n (fun k => r.f k = true) : Int) = cnt (r.cells.take n) := by
    intro n
    induction n with
    | zero => intro _; simp [num_zero, cnt]
    | succ n ih =>
      intro hn
      rw [take_snoc r.cells false n (by omega), cnt_snoc, num_succ, ← ih (by omega)]
      unfold Reg.f
      split <;> rename_i h <;> simp [h]
  have := key r.cells.length (Nat.le_refl _)
  rwa [List.take_length] at this

/-- As many have a neighbour in one direction as in the opposite one. -/
theorem way_le {r : Reg} (hv : r.valid = true) (way : Int) (h1 : 1 ≤ way) (h4 : way ≤ 4) :
    num r.cells.length (fun k => (r.f k && nbr r k way) = true) ≤ num r.cells.length (fun k => (r.f k && nbr r k ((way + 1) % 4 + 1)) = true) := by
  obtain ⟨v1, v2, v3, _⟩ := Reg.valid_iff.1 hv
  have hb : ∀ k : Nat, k < r.cells.length → (r.f k && nbr r k way) = true → 0 ≤ stepI r k way ∧ stepI r (stepI r k way) ((way + 1) % 4 + 1) = k ∧ r.f (stepI r k way).toNat = true ∧ r.f k = true := by
    intro k hk h
    simp only [Bool.and_eq_true] at h
    obtain ⟨h2, h3⟩ := nbr_iff.1 h.2
    exact ⟨h2, stepI_back (by omega) (by omega) (by omega) h1 h4 h2, h3, h.1⟩
  refine num_inj (fun k => (stepI r k way).toNat) (fun k hk h => ?_) (fun k j hk hj h g e => ?_)
  · obtain ⟨a, b, c, d⟩ := hb k hk h
    refine ⟨f_lt c, ?_⟩
    simp only [Bool.and_eq_true]
    refine ⟨c, nbr_iff.2 ?_⟩
    rw [Int.toNat_of_nonneg a, b]
    exact ⟨by omega, by simpa using d⟩
  · obtain ⟨a, b, _, _⟩ := hb k hk h
    obtain ⟨a', b', _, _⟩ := hb j hj g
    have e' : stepI r k way = stepI r j way := by change Int.toNat _ = Int.toNat _ at e; omega
    rw [e', b'] at b
    omega
theorem way_eq {r : Reg} (hv : r.valid = true) (way : Int) (h1 : 1 ≤ way) (h2 : way ≤ 2) :
    num r.cells.length (fun k => (r.f k && nbr r k way) = true) = num r.cells.length (fun k => (r.f k && nbr r k (way + 2)) = true) := by
  have a := way_le hv way h1 (by omega)
  have b := way_le hv (way + 2) (by omega) (by omega)
  have e1 : (way + 1) % 4 + 1 = way + 2 := by omega
  have e2 : (way + 2 + 1) % 4 + 1 = way := by omega
  rw [e1] at a
  rw [e2] at b
  omega

/-- Border and twice the pairs side by side are four times the cells. -/
theorem border_law {r : Reg} (hv : r.valid = true) : bordTo r r.cells.length + 2 * pairTo r r.cells.length = 4 * cnt r.cells := by
  have e1 : bordTo r r.cells.length + (sumI (fun k => if (r.f k && nbr r k 1) then 1 else 0) r.cells.length + sumI (fun k => if (r.f k && nbr r k 2) then 1 else 0) r.cells.length
      + (sumI (fun k => if (r.f k && nbr r k 3) then 1 else 0) r.cells.length + sumI (fun k => if (r.f k && nbr r k 4) then 1 else 0) r.cells.length)) = 4 * sumI (fun k => if r.f k then 1 else 0) r.cells.length := by
    unfold bordTo
    rw [← sumI_mul, ← sumI_add, ← sumI_add, ← sumI_add, ← sumI_add]
    refine sumI_congr fun k _ => ?_
    cases r.f k
    · rfl
    · simp only [sides, sumI, if_true, Bool.true_and]
      have z : ((0 : Nat) : Int) + 1 = 1 := rfl
      have o : ((1 : Nat) : Int) + 1 = 2 := rfl
      have t : ((2 : Nat) : Int) + 1 = 3 := rfl
      have q : ((3 : Nat) : Int) + 1 = 4 := rfl
      rw [z, o, t, q]
      cases nbr r k 1 <;> cases nbr r k 2 <;> cases nbr r k 3 <;> cases nbr r k 4 <;> rfl
  have e2 : pairTo r r.cells.length = sumI (fun k => if (r.f k && nbr r k 1) then 1 else 0) r.cells.length + sumI (fun k => if (r.f k && nbr r k 2) then 1 else 0) r.cells.length := by
    unfold pairTo; rw [sumI_add]
  have w1 := way_eq hv 1 (by omega) (by omega)
  have w2 := way_eq hv 2 (by omega) (by omega)
  simp only [show (1 : Int) + 2 = 3 from rfl, show (2 : Int) + 2 = 4 from rfl] at w1 w2
  rw [sumI_num, sumI_num, sumI_num, sumI_num, sumI_num, num_cnt] at e1
  rw [sumI_num, sumI_num] at e2
  omega

/-- The neighbour by column and row. -/
theorem nbr_at {r : Reg} (hv : r.valid = true) {k : Nat} (hk : k < r.cells.length) {way : Int} (h1 : 1 ≤ way) (h4 : way ≤ 4) : nbr r k way = r.at_ ((k : Int) % r.wide + dX way) ((k : Int) / r.wide + dY way) := by
  obtain ⟨v1, v2, v3, _⟩ := Reg.valid_iff.1 hv
  have hs := stepI_xy (r := r) (c := (k : Int)) (way := way) (by omega) (by omega) (by omega) h1 h4
  unfold nbr Reg.at_ Reg.g Reg.f
  rw [hs]
  by_cases hx : (inB ((k : Int) % r.wide + dX way) 0 (r.wide - 1) && inB ((k : Int) / r.wide + dY way) 0 (r.tall - 1)) = true
  · rw [if_pos hx, hx]
    simp only [Bool.and_eq_true] at hx
    have a := inB_iff.1 hx.1
    have b := inB_iff.1 hx.2
    have := xy_lt (w := r.wide) (t := r.tall) (x := (k : Int) % r.wide + dX way) (y := (k : Int) / r.wide + dY way) (by omega) (by omega) (by omega) (by omega)
    rw [decide_eq_true this.1]
  · rw [if_neg hx]
    have hx' : (inB ((k : Int) % r.wide + dX way) 0 (r.wide - 1) && inB ((k : Int) / r.wide + dY way) 0 (r.tall - 1)) = false := by simpa using hx
    rw [hx']; rfl
theorem at_here {r : Reg} (hv : r.valid = true) {k : Nat} (hk : k < r.cells.length) : r.at_ ((k : Int) % r.wide) ((k : Int) / r.wide) = r.f k := by
  obtain ⟨v1, v2, v3, _⟩ := Reg.valid_iff.1 hv
  obtain ⟨a1, a2, a3, a4, a5⟩ := cell_xy (r := r) (c := (k : Int)) (by omega) (by omega) (by omega)
  rw [at_cell (inB_iff.2 (by omega)) (inB_iff.2 (by omega)), a5]; rfl

end Domi
