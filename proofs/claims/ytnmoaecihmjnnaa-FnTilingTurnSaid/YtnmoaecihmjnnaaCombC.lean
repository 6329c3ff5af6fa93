/- Plain laws of meet and join. -/
import Derived.Test.YtnmoaecihmjnnaaCombB
namespace Domi
open Go Go.RowKit

def meetR (a b : Reg) : Reg × Bool := combR (fun p q => p && q) a b
def joinR (a b : Reg) : Reg × Bool := combR (fun p q => p || q) a b
theorem comb_cases (f : Bool → Bool → Bool) (a b : Reg) : (combR f a b = (Reg.both f a b, true) ∧ a.fits b = true ∧ (Reg.both f a b).valid = true) ∨ combR f a b = (Reg.zero, false) := by
  unfold combR
  by_cases h : (a.fits b && (Reg.both f a b).valid) = true
  · rw [if_pos h]
    simp at h
    exact .inl ⟨rfl, h⟩
  · rw [if_neg h]; exact .inr rfl
theorem fits_len {a b : Reg} (h : a.fits b = true) : a.cells.length = b.cells.length := by
  obtain ⟨h1, h2, h3, h4⟩ := fits_iff.1 h
  obtain ⟨_, _, v3, _⟩ := Reg.valid_iff.1 h1
  obtain ⟨_, _, u3, _⟩ := Reg.valid_iff.1 h2
  rw [h3, h4] at v3; omega
theorem both_len (f : Bool → Bool → Bool) (a b : Reg) : (Reg.both f a b).cells.length = a.cells.length := by simp [Reg.both]
theorem both_get (f : Bool → Bool → Bool) (a b : Reg) (k : Nat) (hk : k < a.cells.length) : (Reg.both f a b).cells.getD k false = f (a.cells.getD k false) (b.cells.getD k false) := by
  simp [Reg.both, List.getD_eq_getElem?_getD, hk]
theorem reg_ext {a b : Reg} (h1 : a.wide = b.wide) (h2 : a.tall = b.tall) (h3 : a.cells.length = b.cells.length) (h4 : ∀ k, k < a.cells.length → a.cells.getD k false = b.cells.getD k false) : a = b := by
  cases a; cases b
  simp only at h1 h2 h3 h4
  subst h1; subst h2
  congr 1
  apply List.ext_getElem h3
  intro i hi hj
  have := h4 i hi
  rwa [← get_at _ _ _ hi, ← get_at _ _ _ hj] at this
theorem meet_comm {a b : Reg} (h : (meetR a b).2 = true) : (meetR b a).1 = (meetR a b).1 := by
  rcases comb_cases (fun p q => p && q) a b with ⟨h1, h2, h3⟩ | h1
  · obtain ⟨f1, f2, f3, f4⟩ := fits_iff.1 h2
    have f : b.fits a = true := fits_iff.2 ⟨f2, f1, f3.symm, f4.symm⟩
    unfold meetR
    rw [h1, comb_yes f (meet_valid f)]
    refine reg_ext f3.symm f4.symm ?_ fun k hk => ?_
    · rw [both_len, both_len]; exact (fits_len h2).symm
    · rw [both_len] at hk
      rw [both_get _ _ _ _ hk, both_get _ _ _ _ (by rw [fits_len h2]; exact hk), Bool.and_comm]
  · unfold meetR at h; rw [h1] at h; cases h
theorem meet_self {a b : Reg} (h : (meetR a b).2 = true) : (meetR a a).1 = a := by
  rcases comb_cases (fun p q => p && q) a b with ⟨h1, h2, h3⟩ | h1
  · obtain ⟨f1, f2, f3, f4⟩ := fits_iff.1 h2
    have f : a.fits a = true := fits_iff.2 ⟨f1, f1, rfl, rfl⟩
    unfold meetR
    rw [comb_yes f (meet_valid f)]
    refine reg_ext rfl rfl (both_len _ _ _) fun k hk => ?_
    rw [both_len] at hk
    rw [both_get _ _ _ _ hk, Bool.and_self]
  · unfold meetR at h; rw [h1] at h; cases h
theorem meet_no {a b : Reg} (h : (meetR a b).2 = false) : (meetR a b).1.wide = 0 := by
  rcases comb_cases (fun p q => p && q) a b with ⟨h1, _⟩ | h1
  · unfold meetR at h; rw [h1] at h; cases h
  · unfold meetR; rw [h1]; rfl
theorem join_no {a b : Reg} (h : (joinR a b).2 = false) : (joinR a b).1.wide = 0 := by
  rcases comb_cases (fun p q => p || q) a b with ⟨h1, _⟩ | h1
  · unfold joinR at h; rw [h1] at h; cases h
  · unfold joinR; rw [h1]; rfl
theorem meet_get {a b : Reg} (h : (meetR a b).2 = true) : a.valid = true ∧ b.valid = true ∧ (meetR a b).1.cells.length = a.cells.length ∧ b.cells.length = a.cells.length ∧ ∀ k, k < a.cells.length → (meetR a b).1.cells.getD k false = (a.cells.getD k false && b.cells.getD k false) := by
  rcases comb_cases (fun p q => p && q) a b with ⟨h1, h2, h3⟩ | h1
  · obtain ⟨f1, f2, f3, f4⟩ := fits_iff.1 h2
    unfold meetR
    rw [h1]
    exact ⟨f1, f2, both_len _ _ _, (fits_len h2).symm, fun k hk => both_get _ _ _ _ hk⟩
  · unfold meetR at h; rw [h1] at h; cases h

theorem cnt_both (l m : List Bool) (n : Nat) : cnt ((List.range n).map fun k => l.getD k false || m.getD k false) + cnt ((List.range n).map fun k => l.getD k false && m.getD k false)
    = cnt ((List.range n).map fun k => l.getD k false) + cnt ((List.range n).map fun k => m.getD k false) := by
  induction n with
  | zero => simp
  | succ n ih =>
    rw [List.range_succ, List.map_append, List.map_append, List.map_append, List.map_append]
    simp only [List.map_cons, List.map_nil]
    rw [cnt_snoc, cnt_snoc, cnt_snoc, cnt_snoc]
    generalize cnt ((List.range n).map fun k => l.getD k false && m.getD k false) = A at *
    generalize cnt ((List.range n).map fun k => l.getD k false || m.getD k false) = B at *
    generalize cnt ((List.range n).map fun k => l.getD k false) = C at *
    generalize cnt ((List.range n).map fun k => m.getD k false) = D at *
    cases l.getD n false <;> cases m.getD n false <;> simp <;> omega

theorem join_meet {a b : Reg} (h : (joinR a b).2 = true) : (meetR a b).2 = true ∧ (joinR a b).1.many + (meetR a b).1.many = a.many + b.many ∧ (joinR a (meetR a b).1).1 = a := by
  rcases comb_cases (fun p q => p || q) a b with ⟨h1, h2, h3⟩ | h1
  · obtain ⟨f1, f2, f3, f4⟩ := fits_iff.1 h2
    have hm := comb_yes h2 (meet_valid h2)
    unfold joinR meetR
    rw [h1, hm]
    refine ⟨rfl, ?_, ?_⟩
    · simp only
      rw [Reg.many_yes h3, Reg.many_yes (meet_valid h2), Reg.many_yes f1, Reg.many_yes f2]
      have := cnt_both a.cells b.cells a.cells.length
      rw [range_getD] at this
      have e : (List.range a.cells.length).map (fun k => b.cells.getD k false) = b.cells := by rw [fits_len h2]; exact range_getD _
      rw [e] at this
      exact this
    · simp only
      have f : a.fits (Reg.both (fun p q => p && q) a b) = true := fits_iff.2 ⟨f1, meet_valid h2, rfl, rfl⟩
      have e : Reg.both (fun p q => p || q) a (Reg.both (fun p q => p && q) a b) = a := by
        refine reg_ext rfl rfl (both_len _ _ _) fun k hk => ?_
        rw [both_len] at hk
        rw [both_get _ _ _ _ hk, both_get _ _ _ _ hk]
        cases a.cells.getD k false <;> simp
      rw [comb_yes f (by rw [e]; exact f1), e]
  · unfold joinR at h; rw [h1] at h; cases h

end Domi
