/- Twice the dominoes are the cells that have one: plain. -/
import Derived.Test.YtnmoaecihmjnnaaLayP
namespace Domi
open Go Go.RowKit

def isSome (x : Int) : Bool := x != 0
def isHigh (x : Int) : Bool := decide (x = 3) || decide (x = 4)
theorem wayN_num (p : Int → Bool) (hp : p 0 = false) (L : List Int) : wayN p L = (num L.length (fun k => p (L.getD k 0) = true) : Nat) := by
  have key : ∀ n, n ≤ L.length → wayN p (L.take n) = (num n (fun k => p (L.getD k 0) = true) : Nat) := by
    intro n
    induction n with
    | zero => intro _; simp [wayN, num_zero]
    | succ n ih =>
      intro hn
      rw [wayN_take (by omega), ih (by omega), num_succ]
      by_cases h : p (L.getD n 0) = true
      · rw [if_pos h, if_pos h]; push_cast; rfl
      · rw [if_neg h, if_neg h]; push_cast; rfl
  have := key L.length (Nat.le_refl _)
  rwa [List.take_length] at this
/-- Where the other end of a domino is. -/
def other (r : Reg) (L : List Int) (k : Nat) : Nat := (stepI r k (L.getD k 0)).toNat
theorem other_at {r : Reg} {L : List Int} (h : laidOk r L = true) {k : Nat} (hk : k < L.length) (h0 : L.getD k 0 ≠ 0) : other r L k < L.length ∧ L.getD (other r L k) 0 = backI (L.getD k 0) ∧ other r L (other r L k) = k := by
  obtain ⟨t, F⟩ := lies_at h hk h0
  have e : other r L k = t := by unfold other; rw [F.hst, Int.toNat_natCast]
  rw [e]
  refine ⟨F.ht, F.ot, ?_⟩
  unfold other; rw [F.ot, F.hback, Int.toNat_natCast]
theorem high_low {r : Reg} {L : List Int} (h : laidOk r L = true) : num L.length (fun k => isHigh (L.getD k 0) = true) = num L.length (fun k => isLow (L.getD k 0) = true) := by
  have hb : ∀ x, isLow x = true → x ≠ 0 ∧ isHigh (backI x) = true := fun x hx => by
    unfold isLow at hx; simp at hx
    rcases hx with rfl | rfl <;> decide
  have hb2 : ∀ x, isHigh x = true → x ≠ 0 ∧ isLow (backI x) = true := fun x hx => by
    unfold isHigh at hx; simp at hx
    rcases hx with rfl | rfl <;> decide
  refine Nat.le_antisymm ?_ ?_
  · refine num_inj (other r L) (fun k hk hq => ?_) (fun k j hk hj hq hq' e => ?_)
    · obtain ⟨h0, h1⟩ := hb2 _ hq
      obtain ⟨a, b, c⟩ := other_at h hk h0
      exact ⟨a, by rw [b]; exact h1⟩
    · rw [← (other_at h hk (hb2 _ hq).1).2.2, ← (other_at h hj (hb2 _ hq').1).2.2, e]
  · refine num_inj (other r L) (fun k hk hq => ?_) (fun k j hk hj hq hq' e => ?_)
    · obtain ⟨h0, h1⟩ := hb _ hq
      obtain ⟨a, b, c⟩ := other_at h hk h0
      exact ⟨a, by rw [b]; exact h1⟩
    · rw [← (other_at h hk (hb _ hq).1).2.2, ← (other_at h hj (hb _ hq').1).2.2, e]
theorem laid_twice {r : Reg} {L : List Int} (h : laidOk r L = true) : wayN isSome L = 2 * wayN isLow L := by
  rw [wayN_num _ rfl, wayN_num _ rfl]
  have h1 := high_low h
  have h2 : num L.length (fun k => isSome (L.getD k 0) = true) = num L.length (fun k => isLow (L.getD k 0) = true ∨ isHigh (L.getD k 0) = true) := num_congr fun k _ => by
    have := laidOk_bd h k
    have hc : L.getD k 0 = 0 ∨ L.getD k 0 = 1 ∨ L.getD k 0 = 2 ∨ L.getD k 0 = 3 ∨ L.getD k 0 = 4 := by omega
    rcases hc with e | e | e | e | e <;> rw [e] <;> decide
  rw [h2, num_or (fun k _ a b => by
    unfold isLow at a; unfold isHigh at b
    simp at a b; omega)]
  omega
theorem laid_flat {r : Reg} {L : List Int} (h : laidOk r L = true) : wayN isEast L ≤ wayN isLow L := by
  rw [wayN_num _ rfl, wayN_num _ rfl]
  have := num_mono (n := L.length) (Q := fun k => isEast (L.getD k 0) = true) (R := fun k => isLow (L.getD k 0) = true) fun k _ e => by
    unfold isEast at e; unfold isLow; simp at e ⊢; exact .inl e
  omega
end Domi
