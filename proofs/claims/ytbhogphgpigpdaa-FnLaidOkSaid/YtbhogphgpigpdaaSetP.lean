/- One cell of a region set: plain part. -/
import Derived.Test.YtbhogphgpigpdaaCombC
namespace Domi
open Go Go.RowKit

def Reg.setc (r : Reg) (c : Nat) (b : Bool) : Reg := ⟨r.wide, r.tall, r.cells.set c b⟩
def setOk (r : Reg) (c : Int) (b : Bool) : Bool := r.valid && inB c 0 (r.cells.length - 1) && (r.setc c.toNat b).valid
def setR (r : Reg) (c : Int) (b : Bool) : Reg × Bool := if setOk r c b then (r.setc c.toNat b, true) else (Reg.zero, false)
theorem setR_yes {r : Reg} {c : Int} {b : Bool} (h1 : r.valid = true) (h2 : inB c 0 (r.cells.length - 1) = true) (h3 : (r.setc c.toNat b).valid = true) : setR r c b = (r.setc c.toNat b, true) := by simp [setR, setOk, h1, h2, h3]
theorem setR_no1 {r : Reg} {c : Int} {b : Bool} (h1 : r.valid = false) : setR r c b = (Reg.zero, false) := by simp [setR, setOk, h1]
theorem setR_no2 {r : Reg} {c : Int} {b : Bool} (h1 : inB c 0 (r.cells.length - 1) = false) : setR r c b = (Reg.zero, false) := by simp [setR, setOk, h1]
theorem setR_no3 {r : Reg} {c : Int} {b : Bool} (h1 : (r.setc c.toNat b).valid = false) : setR r c b = (Reg.zero, false) := by simp [setR, setOk, h1]
theorem setR_cases (r : Reg) (c : Int) (b : Bool) : (setR r c b = (r.setc c.toNat b, true) ∧ r.valid = true ∧ (0 ≤ c ∧ c < r.cells.length) ∧ (r.setc c.toNat b).valid = true) ∨ setR r c b = (Reg.zero, false) := by
  unfold setR setOk
  split
  · rename_i h
    simp only [Bool.and_eq_true] at h
    have := inB_iff.1 h.1.2
    exact .inl ⟨rfl, h.1.1, by omega, h.2⟩
  · exact .inr rfl
theorem setR_no {r : Reg} {c : Int} {b : Bool} (h : (setR r c b).2 = false) : (setR r c b).1.wide = 0 := by
  rcases setR_cases r c b with ⟨h1, _⟩ | h1
  · rw [h1] at h; cases h
  · rw [h1]; rfl
theorem cnt_put (l : List Bool) (k : Nat) (b : Bool) (h : k < l.length) : cnt (l.set k b) + (if l.getD k false then 1 else 0) = cnt l + (if b then 1 else 0) := by
  induction l generalizing k with
  | nil => simp at h
  | cons a l ih =>
    have hc : ∀ (x : Bool) (m : List Bool), cnt (x :: m) = (if x then 1 else 0) + cnt m := by
      intro x m; unfold cnt; cases x <;> simp; omega
    cases k with
    | zero => simp only [List.set_cons_zero, List.getD_cons_zero, hc]; omega
    | succ k =>
      simp only [List.set_cons_succ, List.getD_cons_succ, hc]
      have := ih k (by simpa using h)
      omega
/-- Set back, the region is as before; and how many cells there are more. -/
theorem set_law {r : Reg} {c : Int} {b : Bool} (h : (setR r c b).2 = true) :
    (0 ≤ c ∧ c < r.cells.length) ∧ r.valid = true ∧ setR (setR r c b).1 c (r.cells.getD c.toNat false) = (r, true) ∧
      (setR r c b).1.many - r.many = (if b then 1 else 0) - (if r.cells.getD c.toNat false then 1 else 0) := by
  rcases setR_cases r c b with ⟨h1, h2, h3, h4⟩ | h1
  · have hk : c.toNat < r.cells.length := by omega
    refine ⟨h3, h2, ?_, ?_⟩
    · rw [h1]
      have e : (r.setc c.toNat b).setc c.toNat (r.cells.getD c.toNat false) = r := by
        unfold Reg.setc
        cases r
        simp only [List.set_set]
        congr 1
        apply List.ext_getElem
        · simp
        · intro i hi hj
          rw [List.getElem_set]
          split
          · rename_i e; subst e; exact (get_at _ _ _ hj).symm
          · rfl
      have h5 : inB c 0 ((r.setc c.toNat b).cells.length - 1) = true := inB_iff.2 (by simp [Reg.setc]; omega)
      rw [setR_yes h4 h5 (by rw [e]; exact h2), e]
    · rw [h1, Reg.many_yes h4, Reg.many_yes h2]
      have := cnt_put r.cells c.toNat b hk
      simp only [Reg.setc]
      omega
  · rw [h1] at h; cases h

end Domi
