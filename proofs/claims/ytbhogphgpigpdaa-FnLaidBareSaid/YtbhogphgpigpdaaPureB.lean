/- Plain law: the balance of colours is the same when a region is turned or mirrored. -/
import Derived.Test.YtbhogphgpigpdaaPure
import Derived.Test.YtbhogphgpigpdaaDark
namespace Domi

/-- How many of the first n entries are set and lie where q says yes. -/
def qTo (q : Nat → Bool) (l : List Bool) : Nat → Int
  | 0 => 0
  | k + 1 => qTo q l k + if l.getD k false && q k then 1 else 0
theorem darkTo_q (r : Reg) (n : Nat) : r.darkTo n = qTo (fun k => darkB r.wide k) r.cells n := by
  induction n with
  | zero => rfl
  | succ n ih => simp only [Reg.darkTo, qTo, ih]
theorem qTo_congr {q p : Nat → Bool} {l : List Bool} (n : Nat) (h : ∀ k, k < n → q k = p k) : qTo q l n = qTo p l n := by
  induction n with
  | zero => rfl
  | succ n ih => simp only [qTo]; rw [ih fun k hk => h k (by omega), h n (by omega)]
theorem qTo_empty (q : Nat → Bool) (m n : Nat) : qTo q (List.replicate m false) n = 0 := by
  induction n with
  | zero => rfl
  | succ n ih =>
    have e : (List.replicate m false).getD n false = false := by simp only [List.getD_eq_getElem?_getD, List.getElem?_replicate]; split <;> rfl
    simp only [qTo, ih, e, Bool.false_and, Bool.false_eq_true, if_false, Int.add_zero]
theorem qTo_set (q : Nat → Bool) (l : List Bool) (i : Nat) (v : Bool) (hi : i < l.length) (h : l.getD i false = false) (n : Nat) :
    qTo q (l.set i v) n = qTo q l n + if i < n then (if v && q i then 1 else 0) else 0 := by
  induction n with
  | zero => rfl
  | succ n ih =>
    simp only [qTo]
    rw [ih]
    by_cases e : i = n
    · subst e
      have e1 : (l.set i v).getD i false = v := by simp [List.getD_eq_getElem?_getD, hi]
      rw [e1, h]
      simp
    · have e1 : (l.set i v).getD n false = l.getD n false := by simp [List.getD_eq_getElem?_getD, List.getElem?_set_ne e]
      rw [e1]
      by_cases hn : i < n
      · rw [if_pos hn, if_pos (show i < n + 1 by omega)]; exact Int.add_right_comm _ _ _
      · rw [if_neg hn, if_neg (show ¬ i < n + 1 by omega), Int.add_zero, Int.add_zero]
theorem putL_q {tt : Nat → Nat} {l : List Bool} (h : OneToOne tt l.length) (q : Nat → Bool) (k : Nat) (hk : k ≤ l.length) : qTo q (putL tt l k) l.length = qTo (fun j => q (tt j)) l k := by
  induction k with
  | zero => exact qTo_empty _ _ _
  | succ k ih =>
    have hl : tt k < (putL tt l k).length := by rw [putL_length]; exact h.lt k (by omega)
    have h0 : (putL tt l k).getD (tt k) false = false := (putL_get h k (by omega)).2 _ (fun j hj e => by have := h.inj j k (by omega) (by omega) e; omega)
    rw [putL, qTo_set _ _ _ _ hl h0, ih (by omega), if_pos (h.lt k (by omega))]
    rfl
theorem qTo_not (q : Nat → Bool) (l : List Bool) (n : Nat) (hn : n ≤ l.length) : qTo q l n + qTo (fun k => !q k) l n = cnt (l.take n) := by
  induction n with
  | zero => simp [qTo, cnt]
  | succ n ih =>
    rw [take_snoc l false n (by omega), cnt_snoc, ← ih (by omega)]
    simp only [qTo]
    rcases Bool.eq_false_or_eq_true (q n) with hq | hq <;> rcases Bool.eq_false_or_eq_true (l.getD n false) with hl | hl <;> simp only [hq, hl] <;> simp <;> omega

theorem mir_dark {r : Reg} (hp : 0 < r.wide) (hr : (r.cells.length : Int) = r.wide * r.tall) (k : Nat) (hk : k < r.cells.length) :
    darkB r.wide ((mirI r k).toNat : Int) = if r.wide % 2 = 1 then darkB r.wide k else !darkB r.wide k := by
  have i1 := mirI_in (r := r) (c := k) (by omega) (by omega) (by omega)
  have a1 := Int.emod_nonneg (k : Int) (b := r.wide) (by omega)
  have a2 := Int.emod_lt_of_pos (k : Int) (b := r.wide) (by omega)
  have c1 := xy_of (w := r.wide) (x := r.wide - 1 - (k : Int) % r.wide) (y := (k : Int) / r.wide) (by omega) (by omega)
  rw [Int.toNat_of_nonneg i1.1]
  have e : mirI r k = (k : Int) / r.wide * r.wide + (r.wide - 1 - (k : Int) % r.wide) := by unfold mirI; omega
  unfold darkB
  rw [e, c1.1, c1.2]
  generalize (k : Int) % r.wide = x at *
  generalize (k : Int) / r.wide = y at *
  generalize r.wide = w at *
  split <;> (rw [Bool.eq_iff_iff]; simp; omega)
theorem turn_dark {r : Reg} (hp : 0 < r.wide) (hpt : 0 < r.tall) (hr : (r.cells.length : Int) = r.wide * r.tall) (k : Nat) (hk : k < r.cells.length) :
    darkB r.tall ((turnI r k).toNat : Int) = if r.tall % 2 = 1 then darkB r.wide k else !darkB r.wide k := by
  have i1 := turnI_in (r := r) (c := k) (by omega) (by omega) (by omega) (by omega)
  have a1 := Int.ediv_nonneg (a := (k : Int)) (b := r.wide) (by omega) (by omega)
  have a2 := div_lt_of (c := (k : Int)) (w := r.wide) (t := r.tall) (by omega) (by omega)
  have c1 := xy_of (w := r.tall) (x := r.tall - 1 - (k : Int) / r.wide) (y := (k : Int) % r.wide) (by omega) (by omega)
  rw [Int.toNat_of_nonneg i1.1]
  have e : turnI r k = (k : Int) % r.wide * r.tall + (r.tall - 1 - (k : Int) / r.wide) := by unfold turnI; omega
  unfold darkB
  rw [e, c1.1, c1.2]
  generalize (k : Int) % r.wide = x at *
  generalize (k : Int) / r.wide = y at *
  generalize r.tall = w at *
  split <;> (rw [Bool.eq_iff_iff]; simp; omega)

theorem half {q p : Nat → Bool} {l : List Bool} {c : Prop} [Decidable c] (h : ∀ k, k < l.length → p k = if c then q k else !q k) :
    decide (2 * qTo p l l.length = cnt l) = decide (2 * qTo q l l.length = cnt l) := by
  by_cases hc : c
  · rw [qTo_congr l.length fun k hk => (h k hk).trans (if_pos hc)]
  · rw [qTo_congr l.length fun k hk => (h k hk).trans (if_neg hc)]
    have := qTo_not q l l.length (Nat.le_refl _)
    rw [List.take_length] at this
    rw [Bool.eq_iff_iff]; simp; omega

theorem mir_bal {r : Reg} (h : r.valid = true) : r.mir.bal = r.bal := by
  obtain ⟨h1, h2, h3, h4⟩ := Reg.valid_iff.1 h
  unfold Reg.bal Reg.darks
  rw [mir_valid h, mir_cnt h, h, darkTo_q, darkTo_q]
  have hl : r.mir.cells.length = r.cells.length := putL_length ..
  have e : qTo (fun k => darkB r.mir.wide k) r.mir.cells r.mir.cells.length = qTo (fun j => darkB r.wide ((mirI r j).toNat : Int)) r.cells r.cells.length := by
    rw [hl]; exact putL_q (mir_one (by omega) h3) (fun k => darkB r.wide k) _ (Nat.le_refl _)
  rw [e, half fun k hk => mir_dark (by omega) h3 k hk]
theorem turn_bal {r : Reg} (h : r.valid = true) : r.turn.bal = r.bal := by
  obtain ⟨h1, h2, h3, h4⟩ := Reg.valid_iff.1 h
  unfold Reg.bal Reg.darks
  rw [turn_valid h, turn_cnt h, h, darkTo_q, darkTo_q]
  have hl : r.turn.cells.length = r.cells.length := putL_length ..
  have e : qTo (fun k => darkB r.turn.wide k) r.turn.cells r.turn.cells.length = qTo (fun j => darkB r.tall ((turnI r j).toNat : Int)) r.cells r.cells.length := by
    rw [hl]; exact putL_q (turn_one (by omega) (by omega) h3) (fun k => darkB r.tall k) _ (Nat.le_refl _)
  rw [e, half fun k hk => turn_dark (by omega) (by omega) h3 k hk]
theorem zero_bal : Reg.zero.bal = false := rfl
theorem bal_no {r : Reg} (h : r.valid = false) : r.bal = false := by rw [Reg.bal, h]; rfl
theorem flipR_bal (r : Reg) : r.flipR.bal = r.bal := by
  cases h : r.valid
  · rw [flipR_no h, bal_no h]; rfl
  · rw [flipR_yes h, mir_bal h]
theorem turnR_bal (r : Reg) : r.turnR.bal = r.bal := by
  cases h : r.valid
  · rw [turnR_no h, bal_no h]; rfl
  · rw [turnR_yes h, turn_bal h]
theorem bal_even {r : Reg} (h : r.bal = true) : r.many = 2 * r.darks := by
  simp only [Reg.bal, Bool.and_eq_true, decide_eq_true_eq] at h
  rw [Reg.many_yes h.1, h.2]

end Domi
