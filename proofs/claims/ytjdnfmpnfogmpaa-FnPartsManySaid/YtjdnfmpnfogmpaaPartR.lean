/- Parts: a further cell joins at most four. Plain. -/
import Derived.Test.YtjdnfmpnfogmpaaPartQ
import Derived.Test.YtjdnfmpnfogmpaaSetP
set_option linter.unusedVariables false
set_option linter.unusedSimpArgs false
namespace Domi
open Go Go.RowKit

theorem stepI_setc (r : Reg) (k : Nat) (b : Bool) (c way : Int) : stepI (r.setc k b) c way = stepI r c way := rfl
theorem f_setc {r : Reg} {k : Nat} {b : Bool} (hk : k < r.cells.length) (j : Nat) : (r.setc k b).f j = if k = j then b else r.f j := by
  unfold Reg.f Reg.setc
  exact getD_set r.cells k j b false hk
theorem setc_same {r : Reg} {k : Nat} {b : Bool} (h : r.cells.getD k false = b) (hk : k < r.cells.length) : r.setc k b = r := by
  unfold Reg.setc
  cases r
  simp only at *
  congr 1
  apply List.ext_getElem
  · simp
  · intro i hi hj
    rw [List.getElem_set]
    split
    · rename_i e; subst e; rw [← h]; exact (Domi.get_at _ _ _ hj).symm
    · rfl

section
variable {r : Reg} {k : Nat}
/-- With the cell k; it was none. -/
theorem e_up (hk : k < r.cells.length) (hf : r.f k = false) {a b : Nat} (e : E4 r a b) : E4 (r.setc k true) a b := by
  obtain ⟨h1, h2, way, w1, w4, hs⟩ := e
  refine ⟨?_, ?_, way, w1, w4, hs⟩
  · rw [f_setc hk]; split <;> first | rfl | exact h1
  · rw [f_setc hk]; split <;> first | rfl | exact h2
theorem e_down (hk : k < r.cells.length) {a b : Nat} (ha : a ≠ k) (hb : b ≠ k) (e : E4 (r.setc k true) a b) : E4 r a b := by
  obtain ⟨h1, h2, way, w1, w4, hs⟩ := e
  rw [f_setc hk, if_neg (Ne.symm ha)] at h1
  rw [f_setc hk, if_neg (Ne.symm hb)] at h2
  exact ⟨h1, h2, way, w1, w4, hs⟩
theorem conn_up (hk : k < r.cells.length) (hf : r.f k = false) {a b : Nat} (h : Conn (E4 r) a b) : Conn (E4 (r.setc k true)) a b := h.mono fun _ _ e => e_up hk hf e
theorem conn_f {a b : Nat} (h : Conn (E4 r) a b) (ha : r.f a = true) : r.f b = true := h.stays (Q := fun j => r.f j = true) (fun _ _ e _ => e.2.1) ha
/-- Away from k nothing has turned. -/
theorem conn_away (hk : k < r.cells.length) {a b : Nat} (h : Conn (E4 (r.setc k true)) a b) (hn : ¬ Conn (E4 (r.setc k true)) a k) : Conn (E4 r) a b := by
  induction h with
  | refl => exact .refl _
  | @step b c h e ih =>
    refine .step ih (e_down hk ?_ ?_ e)
    · rintro rfl; exact hn h
    · rintro rfl; exact hn (.step h e)
theorem least_away (hk : k < r.cells.length) (hf : r.f k = false) {a : Nat} (hn : ¬ Conn (E4 (r.setc k true)) a k) : least (E4 (r.setc k true)) a = least (E4 r) a :=
  least_is (conn_up hk hf (least_conn _ a)) fun _ h => least_le (conn_away hk h hn)
/-- What hangs together with k has a cell beside it. -/
theorem conn_beside (hk : k < r.cells.length) (hf : r.f k = false) {a b : Nat} (ha : r.f a = true) (h : Conn (E4 (r.setc k true)) a b) : Conn (E4 r) a b ∨ ∃ m, Conn (E4 r) a m ∧ E4 (r.setc k true) m k := by
  induction h with
  | refl => exact .inl (.refl _)
  | @step b c h e ih =>
    rcases ih with ih | ih
    · by_cases hc : c = k
      · subst hc; exact .inr ⟨b, ih, e⟩
      · by_cases hb : b = k
        · subst hb
          have := conn_f ih ha
          rw [hf] at this; cases this
        · exact .inl (.step ih (e_down hk hb hc e))
    · exact .inr ih

theorem num_split {n : Nat} (Q C : Nat → Prop) : num n Q = num n (fun j => Q j ∧ ¬ C j) + num n (fun j => Q j ∧ C j) := by
  rw [← num_or fun j _ h1 h2 => h1.2 h2.2]
  exact num_congr fun j _ => ⟨fun h => (Classical.em (C j)).elim (fun c => .inr ⟨h, c⟩) (fun c => .inl ⟨h, c⟩), fun h => h.elim (·.1) (·.1)⟩
theorem num_four : num 5 (fun k => 1 ≤ k) = 4 := by
  simp [num_succ, num_zero]

theorem parts_add (hv : r.valid = true) (hv' : (r.setc k true).valid = true) (hk : k < r.cells.length) : partCount (r.setc k true) ≤ partCount r + 1 ∧ partCount r ≤ partCount (r.setc k true) + 3 := by
  have hn : (r.setc k true).cells.length = r.cells.length := by simp [Reg.setc]
  cases hf : r.f k
  · have hs : ∀ a b, E4 r a b → E4 r b a := fun _ _ e => e.symm hv
    have hs' : ∀ a b, E4 (r.setc k true) a b → E4 (r.setc k true) b a := fun _ _ e => e.symm hv'
    have hfk : (r.setc k true).f k = true := by rw [f_setc hk, if_pos rfl]
    have hfj : ∀ j, j ≠ k → (r.setc k true).f j = r.f j := fun j hj => by rw [f_setc hk, if_neg (Ne.symm hj)]
    have ne : ∀ j, ¬ Conn (E4 (r.setc k true)) j k → j ≠ k := fun j h e => by subst e; exact h (.refl _)
    unfold partCount
    rw [hn, num_split (n := r.cells.length) (fun j => (r.setc k true).f j = true ∧ least (E4 (r.setc k true)) j = j) (fun j => Conn (E4 (r.setc k true)) j k),
      num_split (n := r.cells.length) (fun j => r.f j = true ∧ least (E4 r) j = j) (fun j => Conn (E4 (r.setc k true)) j k)]
    have h1 : num r.cells.length (fun j => ((r.setc k true).f j = true ∧ least (E4 (r.setc k true)) j = j) ∧ ¬ Conn (E4 (r.setc k true)) j k) = num r.cells.length (fun j => (r.f j = true ∧ least (E4 r) j = j) ∧ ¬ Conn (E4 (r.setc k true)) j k) := by
      refine num_congr fun j _ => ?_
      constructor
      · rintro ⟨⟨a, b⟩, c⟩
        rw [hfj j (ne j c)] at a
        rw [least_away hk hf c] at b
        exact ⟨⟨a, b⟩, c⟩
      · rintro ⟨⟨a, b⟩, c⟩
        rw [← hfj j (ne j c)] at a
        rw [← least_away hk hf c] at b
        exact ⟨⟨a, b⟩, c⟩
    have h2 : num r.cells.length (fun j => ((r.setc k true).f j = true ∧ least (E4 (r.setc k true)) j = j) ∧ Conn (E4 (r.setc k true)) j k) = 1 := by
      have hl : least (E4 (r.setc k true)) k < r.cells.length := by have := least_self (E := E4 (r.setc k true)) k; omega
      rw [← num_one hl]
      refine num_congr fun j _ => ?_
      constructor
      · rintro ⟨⟨_, b⟩, c⟩
        rw [← b]; exact least_eq hs' c
      · rintro rfl
        exact ⟨⟨conn_f (least_conn _ k) hfk, least_idem hs' k⟩, (least_conn _ k).symm hs'⟩
    have h3 : num r.cells.length (fun j => (r.f j = true ∧ least (E4 r) j = j) ∧ Conn (E4 (r.setc k true)) j k) ≤ 4 := by
      have key : ∀ j, ((r.f j = true ∧ least (E4 r) j = j) ∧ Conn (E4 (r.setc k true)) j k) → ∃ way : Nat, 1 ≤ way ∧ way < 5 ∧ ∃ m : Nat, stepI r k way = (m : Int) ∧ Conn (E4 r) j m := by
        rintro j ⟨⟨a, _⟩, c⟩
        rcases conn_beside hk hf a c with h | ⟨m, h, e⟩
        · have := conn_f h a
          rw [hf] at this; cases this
        · obtain ⟨_, _, way, w1, w4, hs⟩ := e.symm hv'
          exact ⟨way.toNat, by omega, by omega, m, by rw [Int.toNat_of_nonneg (by omega)]; exact hs, h⟩
      rw [← num_four]
      refine num_inj (fun j => open Classical in if h : ((r.f j = true ∧ least (E4 r) j = j) ∧ Conn (E4 (r.setc k true)) j k) then Classical.choose (key j h) else 0) (fun j _ h => ?_) (fun i j _ _ hi hj e => ?_)
      · have := Classical.choose_spec (key j h)
        simp only [dif_pos h]
        exact ⟨this.2.1, this.1⟩
      · simp only [dif_pos hi, dif_pos hj] at e
        obtain ⟨_, _, m, s1, c1⟩ := Classical.choose_spec (key i hi)
        obtain ⟨_, _, m', s2, c2⟩ := Classical.choose_spec (key j hj)
        rw [e, s2] at s1
        have hm : m' = m := by omega
        subst hm
        rw [← hi.1.2, ← hj.1.2]
        exact (least_eq hs c1).trans (least_eq hs c2).symm
    rw [h1, h2]
    omega
  · rw [setc_same (r := r) (k := k) (b := true) hf hk]; omega
end

/-- The law of PartsMany. -/
theorem pmany_law {r x : Reg} {k : Nat} (hv : r.valid = true) (h : setR r k true = (x, true)) : x.pmany ≤ r.pmany + 1 ∧ r.pmany - 3 ≤ x.pmany := by
  rcases setR_cases r k true with ⟨h1, h2, h3, h4⟩ | h1
  · rw [h1] at h
    have e : x = r.setc k true := by simpa using (congrArg Prod.fst h).symm
    subst e
    have h4 : (r.setc k true).valid = true := h4
    have := parts_add hv h4 (by omega)
    unfold Reg.pmany
    rw [if_pos h4, if_pos hv]
    omega
  · rw [h1] at h; cases h
theorem pmany_cells {r : Reg} (hv : r.valid = true) : r.pmany ≤ r.many := by
  unfold Reg.pmany
  rw [if_pos hv, Reg.many_yes hv, ← num_cnt]
  have := num_mono (n := r.cells.length) (Q := fun k => r.f k = true ∧ least (E4 r) k = k) (R := fun k => r.f k = true) fun _ _ h => h.1
  unfold partCount
  omega
theorem pmany_bd (r : Reg) : -1 ≤ r.pmany ∧ r.pmany ≤ r.cells.length := by
  unfold Reg.pmany
  have := num_le r.cells.length (fun k => r.f k = true ∧ least (E4 r) k = k)
  unfold partCount
  split <;> omega

end Domi
