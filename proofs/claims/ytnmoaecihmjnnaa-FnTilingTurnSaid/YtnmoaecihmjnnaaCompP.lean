/- The first cell without a domino, and the first completion: plain. -/
import Derived.Test.YtnmoaecihmjnnaaLayP
namespace Domi
open Go Go.RowKit

/-- Cell k belongs to the region and has no domino. -/
def openB (r : Reg) (L : List Int) (k : Nat) : Bool := r.f k && decide (L.getD k 0 = 0)
def firstN (r : Reg) (L : List Int) : Option Nat := (List.range L.length).find? (openB r L)
def firstI (r : Reg) (L : List Int) : Int := match firstN r L with | some k => (k : Nat) | none => -1
theorem firstN_some {r : Reg} {L : List Int} {k : Nat} (hk : k < L.length) (h : openB r L k = true) (hn : ∀ j, j < k → openB r L j = false) : firstN r L = some k := by
  unfold firstN
  rw [List.find?_range_eq_some]
  exact ⟨h, by simpa using hk, fun j hj => by rw [hn j hj]; rfl⟩
theorem firstN_none {r : Reg} {L : List Int} (hn : ∀ j, j < L.length → openB r L j = false) : firstN r L = none := by
  unfold firstN
  rw [List.find?_eq_none]
  intro j hj
  rw [hn j (by simpa using hj)]; simp
theorem firstN_is {r : Reg} {L : List Int} {k : Nat} (h : firstN r L = some k) : k < L.length ∧ openB r L k = true ∧ ∀ j, j < k → openB r L j = false := by
  unfold firstN at h
  rw [List.find?_range_eq_some] at h
  exact ⟨by simpa using h.2.1, h.1, fun j hj => by simpa using h.2.2 j hj⟩
theorem firstN_no {r : Reg} {L : List Int} (h : firstN r L = none) : ∀ j, j < L.length → openB r L j = false := by
  unfold firstN at h
  rw [List.find?_eq_none] at h
  intro j hj
  simpa using h j (by simpa using hj)
theorem openB_iff {r : Reg} {L : List Int} {k : Nat} : openB r L k = true ↔ r.f k = true ∧ L.getD k 0 = 0 := by unfold openB; simp

/-- How many cells have no domino yet. -/
noncomputable def openN (r : Reg) (L : List Int) : Nat := num L.length (fun k => openB r L k = true)
theorem openN_lt {r : Reg} (L : List Int) : openN r L < L.length + 1 := by have := num_le L.length (fun k => openB r L k = true); unfold openN; omega
theorem openN_lay {r : Reg} {L : List Int} (h : laidOk r L = true) {c : Nat} {way : Int} (hf : free r L c way = true) : openN r (layL r L c way) < openN r L := by
  obtain ⟨t, F⟩ := free_at h hf
  unfold openN
  rw [layL_len]
  have hw := F.hway
  have hb := (backI_way F.hway).1
  refine num_lt (fun k hk ho => ?_) F.hc ?_ ?_
  · obtain ⟨h1, h2⟩ := openB_iff.1 ho
    refine openB_iff.2 ⟨h1, ?_⟩
    rw [layL_get F] at h2
    split at h2
    · omega
    · split at h2
      · omega
      · exact h2
  · rw [openB_iff, layL_get F, if_neg (fun e => F.hne e.symm), if_pos rfl]; omega
  · exact openB_iff.2 ⟨F.fc, F.oc⟩

/-- The first completion, by as many steps as are needed. -/
def compl : Nat → Reg → List Int → List Int × Bool
  | 0, _, _ => ([], false)
  | n + 1, r, L => match firstN r L with
    | none => (L, true)
    | some k =>
      if free r L k 1 && (compl n r (layL r L k 1)).2 then compl n r (layL r L k 1)
      else if free r L k 2 && (compl n r (layL r L k 2)).2 then compl n r (layL r L k 2) else ([], false)
section
variable {n : Nat} {r : Reg} {L : List Int} {k : Nat}
theorem compl_done (h : firstN r L = none) : compl (n + 1) r L = (L, true) := by unfold compl; rw [h]
theorem compl_east (h : firstN r L = some k) (h1 : free r L k 1 = true) (h2 : (compl n r (layL r L k 1)).2 = true) : compl (n + 1) r L = compl n r (layL r L k 1) := by
  rw [compl, h]; simp only [h1, h2, Bool.and_self, if_true]
theorem compl_north (h : firstN r L = some k) (h0 : free r L k 1 = false ∨ (compl n r (layL r L k 1)).2 = false) (h1 : free r L k 2 = true) (h2 : (compl n r (layL r L k 2)).2 = true) : compl (n + 1) r L = compl n r (layL r L k 2) := by
  rw [compl, h]
  have : (free r L k 1 && (compl n r (layL r L k 1)).2) = false := by rcases h0 with e | e <;> simp [e]
  simp only [this, h1, h2, Bool.and_self, if_true]; rfl
theorem compl_no (h : firstN r L = some k) (h0 : free r L k 1 = false ∨ (compl n r (layL r L k 1)).2 = false) (h1 : free r L k 2 = false ∨ (compl n r (layL r L k 2)).2 = false) : compl (n + 1) r L = ([], false) := by
  rw [compl, h]
  have a1 : (free r L k 1 && (compl n r (layL r L k 1)).2) = false := by rcases h0 with e | e <;> simp [e]
  have a2 : (free r L k 2 && (compl n r (layL r L k 2)).2) = false := by rcases h1 with e | e <;> simp [e]
  simp only [a1, a2]; rfl
end
/-- More steps tell the same. -/
theorem compl_fuel (r : Reg) : ∀ (n m : Nat) (L : List Int), laidOk r L = true → openN r L < n → openN r L < m → compl n r L = compl m r L := by
  intro n
  induction n with
  | zero => intro m L _ h; omega
  | succ n ih =>
    intro m L hk hn hm
    cases m with
    | zero => omega
    | succ m =>
      unfold compl
      cases hf : firstN r L with
      | none => rfl
      | some k =>
        have e : ∀ way, free r L k way = true → compl n r (layL r L k way) = compl m r (layL r L k way) := fun way hw => by
          have := openN_lay hk hw
          exact ih m _ (lay_ok hk hw) (by omega) (by omega)
        simp only
        cases h1 : free r L k 1
        · cases h2 : free r L k 2
          · rfl
          · simp only [Bool.false_and, Bool.true_and, Bool.false_eq_true, if_false, e 2 h2]
        · cases h2 : free r L k 2
          · simp only [Bool.false_and, Bool.true_and, Bool.false_eq_true, if_false, e 1 h1]
          · simp only [Bool.true_and, e 1 h1, e 2 h2]
def completeR (r : Reg) (L : List Int) : List Int × Bool := if laidOk r L then compl 40 r L else ([], false)
def firstR (r : Reg) : List Int × Bool := completeR r (bareL r)
theorem completeR_no {r : Reg} {L : List Int} (h : laidOk r L = false) : completeR r L = ([], false) := by unfold completeR; rw [h]; rfl
theorem completeR_yes {r : Reg} {L : List Int} (h : laidOk r L = true) : completeR r L = compl 40 r L := by unfold completeR; rw [if_pos h]
end Domi
