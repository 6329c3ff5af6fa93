/- Bare regions: plain. -/
import Derived.Test.YtnmoaecihmjnnaaLaidP
namespace Domi
open Go Go.RowKit

theorem getD_zero (n k : Nat) : (List.replicate n (0 : Int)).getD k 0 = 0 := by
  rw [List.getD_eq_getElem?_getD, List.getElem?_replicate]; split <;> rfl
theorem bare_laid {r : Reg} (h : r.valid = true) : laidOk r (bareL r) = true := by
  rw [bareL_yes h]
  exact laidOk_iff.2 ⟨h, by simp, fun k _ => okAt_zero (getD_zero _ _)⟩
theorem bare_ways (p : Int → Bool) (hp : p 0 = false) {r : Reg} (h : r.valid = true) : wayN p (bareL r) = 0 := by
  rw [bareL_yes h]; unfold wayN
  rw [List.filter_eq_nil_iff.2 (fun x hx => by rw [(List.mem_replicate.1 hx).2, hp]; simp)]; rfl
theorem bare_many {r : Reg} (h : r.valid = true) : laidMany r (bareL r) = 0 := by
  unfold laidMany; rw [if_pos (bare_laid h)]; exact bare_ways _ rfl h
theorem cnt_zero {l : List Bool} : cnt l = 0 ↔ ∀ k, l.getD k false = false := by
  unfold cnt
  constructor
  · intro h k
    have h' : l.filter id = [] := List.eq_nil_of_length_eq_zero (by omega)
    rw [List.filter_eq_nil_iff] at h'
    by_cases hk : k < l.length
    · have := h' l[k] (List.getElem_mem hk)
      rw [get_at l false k hk] at this
      simpa using this
    · rw [List.getD_eq_getElem?_getD, List.getElem?_eq_none (by omega)]; rfl
  · intro h
    have : l.filter id = [] := by
      rw [List.filter_eq_nil_iff]
      intro x hx
      obtain ⟨k, hk, rfl⟩ := List.mem_iff_getElem.1 hx
      rw [get_at l false k hk, h k]; simp
    rw [this]; rfl
theorem bare_tiling {r : Reg} (h : r.valid = true) : tilingOk r (bareL r) = (r.many == 0) := by
  unfold tilingOk
  rw [bare_laid h, Bool.true_and, Reg.many_yes h, Bool.eq_iff_iff]
  unfold fullB
  rw [List.all_eq_true, beq_iff_eq, cnt_zero]
  constructor
  · intro hall k
    by_cases hk : k < r.cells.length
    · have := hall k (by simpa using hk)
      rw [bareL_yes h, getD_zero] at this
      simp at this; exact this
    · rw [List.getD_eq_getElem?_getD, List.getElem?_eq_none (by omega)]; rfl
  · intro hall k _
    rw [show r.f k = r.cells.getD k false from rfl, hall k]; rfl
end Domi
