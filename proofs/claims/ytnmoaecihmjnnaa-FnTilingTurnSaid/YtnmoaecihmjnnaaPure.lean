/- Plain laws on regions: mirrored and turned. No program is named here. -/
import Derived.Test.YtnmoaecihmjnnaaBase
namespace Domi

theorem getD_set {α : Type} (l : List α) (i j : Nat) (v d : α) (hi : i < l.length) : (l.set i v).getD j d = if i = j then v else l.getD j d := by
  simp only [List.getD_eq_getElem?_getD, List.getElem?_set]
  by_cases h : i = j
  · subst h; simp [hi]
  · simp [h]

/-- Places put one to one. -/
structure OneToOne (tt : Nat → Nat) (n : Nat) : Prop where
  lt : ∀ k, k < n → tt k < n
  inj : ∀ j k, j < n → k < n → tt j = tt k → j = k

theorem putL_get {tt : Nat → Nat} {l : List Bool} (h : OneToOne tt l.length) (k : Nat) (hk : k ≤ l.length) :
    (∀ j, j < k → (putL tt l k).getD (tt j) false = l.getD j false) ∧ (∀ i, (∀ j, j < k → tt j ≠ i) → (putL tt l k).getD i false = false) := by
  induction k with
  | zero =>
    refine ⟨fun j hj => absurd hj (Nat.not_lt_zero _), fun i _ => ?_⟩
    simp [putL, List.getD_eq_getElem?_getD, List.getElem?_replicate]
    split <;> rfl
  | succ k ih =>
    obtain ⟨h1, h2⟩ := ih (by omega)
    have hl : tt k < (putL tt l k).length := by rw [putL_length]; exact h.lt k (by omega)
    refine ⟨fun j hj => ?_, fun i hi => ?_⟩
    · rw [putL, getD_set _ _ _ _ _ hl]
      by_cases e : tt k = tt j
      · rw [if_pos e, h.inj k j (by omega) (by omega) e]
      · rw [if_neg e]
        exact h1 j (by rcases Nat.lt_succ_iff_lt_or_eq.1 hj with h | h; exact h; exact absurd (by rw [h]) e)
    · rw [putL, getD_set _ _ _ _ _ hl, if_neg (hi k (by omega))]
      exact h2 i (fun j hj => hi j (by omega))

theorem cnt_set (l : List Bool) (i : Nat) (v : Bool) (hi : i < l.length) (h : l.getD i false = false) : cnt (l.set i v) = cnt l + if v then 1 else 0 := by
  induction l generalizing i with
  | nil => simp at hi
  | cons a l ih =>
    cases i with
    | zero =>
      have ha : a = false := by simpa using h
      subst ha
      cases v <;> simp [cnt]
    | succ i =>
      have := ih i (by simpa using hi) (by simpa using h)
      have e1 : cnt (a :: l.set i v) = cnt (l.set i v) + if a then 1 else 0 := by cases a <;> simp [cnt]
      have e2 : cnt (a :: l) = cnt l + if a then 1 else 0 := by cases a <;> simp [cnt]
      rw [List.set_cons_succ, e1, e2, this]; omega

theorem putL_cnt {tt : Nat → Nat} {l : List Bool} (h : OneToOne tt l.length) (k : Nat) (hk : k ≤ l.length) : cnt (putL tt l k) = cnt (l.take k) := by
  induction k with
  | zero =>
    simp [putL, cnt]
  | succ k ih =>
    have hl : tt k < (putL tt l k).length := by rw [putL_length]; exact h.lt k (by omega)
    have h0 : (putL tt l k).getD (tt k) false = false := (putL_get h k (by omega)).2 _ (fun j hj e => by have := h.inj j k (by omega) (by omega) e; omega)
    rw [putL, cnt_set _ _ _ hl h0, ih (by omega), take_snoc l false k (by omega), cnt_snoc]

/-! ### columns and rows -/
/-- The entry in column x, row y. -/
def Reg.g (r : Reg) (x y : Int) : Bool := r.cells.getD (y * r.wide + x).toNat false

theorem xy_of {w x y : Int} (hx0 : 0 ≤ x) (hx : x < w) : (y * w + x) % w = x ∧ (y * w + x) / w = y := by
  have hw : w ≠ 0 := by omega
  refine ⟨?_, ?_⟩
  · rw [Int.add_comm, Int.add_mul_emod_self_right]; exact Int.emod_eq_of_lt hx0 hx
  · rw [Int.add_comm, Int.add_mul_ediv_right _ _ hw, Int.ediv_eq_zero_of_lt hx0 hx]; omega
theorem of_xy {c w : Int} (_ : 0 < w) : c / w * w + c % w = c := by
  have := Int.mul_ediv_add_emod c w; rw [Int.mul_comm] at this; exact this
theorem xy_lt {w t x y : Int} (hx0 : 0 ≤ x) (hx : x < w) (hy0 : 0 ≤ y) (hy : y < t) : 0 ≤ y * w + x ∧ y * w + x < w * t := by
  have h1 := Int.mul_nonneg hy0 (show 0 ≤ w by omega)
  have h2 := Int.mul_le_mul_of_nonneg_right (show y ≤ t - 1 by omega) (show 0 ≤ w by omega)
  rw [Int.sub_mul, Int.mul_comm t] at h2
  omega

/-- Regions of one field with the same entries are equal. -/
theorem Reg.ext_g {r q : Reg} (hw : r.wide = q.wide) (ht : r.tall = q.tall) (hp : 0 < r.wide) (hr : (r.cells.length : Int) = r.wide * r.tall) (hq : (q.cells.length : Int) = q.wide * q.tall)
    (h : ∀ x y, 0 ≤ x → x < r.wide → 0 ≤ y → y < r.tall → r.g x y = q.g x y) : r = q := by
  have hl : r.cells.length = q.cells.length := by rw [hw, ht] at hr; omega
  have hc : r.cells = q.cells := by
    apply List.ext_getElem hl
    intro i h1 h2
    have hi : (i : Int) < r.wide * r.tall := by omega
    have m1 := Int.emod_nonneg (i : Int) (b := r.wide) (by omega)
    have m2 := Int.emod_lt_of_pos (i : Int) (b := r.wide) (by omega)
    have m3 := Int.ediv_nonneg (a := (i : Int)) (b := r.wide) (by omega) (by omega)
    have m4 := div_lt_of (by omega) hi
    have := h _ _ m1 m2 m3 (by omega)
    unfold Reg.g at this
    rw [← hw, of_xy hp] at this
    simpa [List.getD_eq_getElem?_getD, h1, h2] using this
  cases r; cases q; simp_all

theorem mir_one {r : Reg} (hp : 0 < r.wide) (hr : (r.cells.length : Int) = r.wide * r.tall) : OneToOne (fun k => (mirI r k).toNat) r.cells.length := by
  refine ⟨fun k hk => ?_, fun j k hj hk e => ?_⟩
  · have := mirI_in (r := r) (c := k) (by omega) (by omega) (by omega); show Int.toNat _ < _; omega
  · have i1 := mirI_in (r := r) (c := j) (by omega) (by omega) (by omega)
    have i2 := mirI_in (r := r) (c := k) (by omega) (by omega) (by omega)
    have e' : mirI r j = mirI r k := by change Int.toNat _ = Int.toNat _ at e; omega
    have a1 := Int.emod_nonneg (j : Int) (b := r.wide) (by omega)
    have a2 := Int.emod_lt_of_pos (j : Int) (b := r.wide) (by omega)
    have b1 := Int.emod_nonneg (k : Int) (b := r.wide) (by omega)
    have b2 := Int.emod_lt_of_pos (k : Int) (b := r.wide) (by omega)
    unfold mirI at e'
    have c1 := xy_of (w := r.wide) (x := r.wide - 1 - (j : Int) % r.wide) (y := (j : Int) / r.wide) (by omega) (by omega)
    have c2 := xy_of (w := r.wide) (x := r.wide - 1 - (k : Int) % r.wide) (y := (k : Int) / r.wide) (by omega) (by omega)
    rw [show (j : Int) / r.wide * r.wide + (r.wide - 1 - (j : Int) % r.wide) = (k : Int) / r.wide * r.wide + (r.wide - 1 - (k : Int) % r.wide) by omega] at c1
    have d1 := of_xy (c := (j : Int)) hp
    have d2 := of_xy (c := (k : Int)) hp
    have e1 : (j : Int) / r.wide = (k : Int) / r.wide := by rw [← c1.2, c2.2]
    have e2 : (j : Int) % r.wide = (k : Int) % r.wide := by have := c1.1.symm.trans c2.1; omega
    rw [e1, e2] at d1
    omega
theorem turn_one {r : Reg} (hp : 0 < r.wide) (hpt : 0 < r.tall) (hr : (r.cells.length : Int) = r.wide * r.tall) : OneToOne (fun k => (turnI r k).toNat) r.cells.length := by
  refine ⟨fun k hk => ?_, fun j k hj hk e => ?_⟩
  · have := turnI_in (r := r) (c := k) (by omega) (by omega) (by omega) (by omega); show Int.toNat _ < _; omega
  · have i1 := turnI_in (r := r) (c := j) (by omega) (by omega) (by omega) (by omega)
    have i2 := turnI_in (r := r) (c := k) (by omega) (by omega) (by omega) (by omega)
    have e' : turnI r j = turnI r k := by change Int.toNat _ = Int.toNat _ at e; omega
    have a1 := Int.ediv_nonneg (a := (j : Int)) (b := r.wide) (by omega) (by omega)
    have a2 := div_lt_of (c := (j : Int)) (w := r.wide) (t := r.tall) (by omega) (by omega)
    have b1 := Int.ediv_nonneg (a := (k : Int)) (b := r.wide) (by omega) (by omega)
    have b2 := div_lt_of (c := (k : Int)) (w := r.wide) (t := r.tall) (by omega) (by omega)
    unfold turnI at e'
    have c1 := xy_of (w := r.tall) (x := r.tall - 1 - (j : Int) / r.wide) (y := (j : Int) % r.wide) (by omega) (by omega)
    have c2 := xy_of (w := r.tall) (x := r.tall - 1 - (k : Int) / r.wide) (y := (k : Int) % r.wide) (by omega) (by omega)
    rw [show (j : Int) % r.wide * r.tall + (r.tall - 1 - (j : Int) / r.wide) = (k : Int) % r.wide * r.tall + (r.tall - 1 - (k : Int) / r.wide) by omega] at c1
    have d1 := of_xy (c := (j : Int)) hp
    have d2 := of_xy (c := (k : Int)) hp
    have e1 : (j : Int) % r.wide = (k : Int) % r.wide := by rw [← c1.2, c2.2]
    have e2 : (j : Int) / r.wide = (k : Int) / r.wide := by have := c1.1.symm.trans c2.1; omega
    rw [e1, e2] at d1
    omega

theorem mir_g {r : Reg} (hr : (r.cells.length : Int) = r.wide * r.tall) {x y : Int} (hx0 : 0 ≤ x) (hx : x < r.wide) (hy0 : 0 ≤ y) (hy : y < r.tall) : r.mir.g x y = r.g (r.wide - 1 - x) y := by
  have hb := xy_lt (w := r.wide) (t := r.tall) (x := r.wide - 1 - x) (y := y) (by omega) (by omega) hy0 hy
  have hk : (y * r.wide + (r.wide - 1 - x)).toNat < r.cells.length := by omega
  have := (putL_get (mir_one (by omega) hr) r.cells.length (Nat.le_refl _)).1 _ hk
  have c1 := xy_of (w := r.wide) (x := r.wide - 1 - x) (y := y) (by omega) (by omega)
  have e : mirI r ((y * r.wide + (r.wide - 1 - x)).toNat : Int) = y * r.wide + x := by
    rw [Int.toNat_of_nonneg hb.1]; unfold mirI; rw [c1.1, c1.2]; omega
  simp only [e] at this
  exact this
theorem turn_g {r : Reg} (hr : (r.cells.length : Int) = r.wide * r.tall) {x y : Int} (hx0 : 0 ≤ x) (hx : x < r.tall) (hy0 : 0 ≤ y) (hy : y < r.wide) : r.turn.g x y = r.g y (r.tall - 1 - x) := by
  have hb := xy_lt (w := r.wide) (t := r.tall) (x := y) (y := r.tall - 1 - x) hy0 hy (by omega) (by omega)
  have hk : ((r.tall - 1 - x) * r.wide + y).toNat < r.cells.length := by omega
  have := (putL_get (turn_one (by omega) (by omega) hr) r.cells.length (Nat.le_refl _)).1 _ hk
  have c1 := xy_of (w := r.wide) (x := y) (y := r.tall - 1 - x) hy0 hy
  have e : turnI r (((r.tall - 1 - x) * r.wide + y).toNat : Int) = y * r.tall + x := by
    rw [Int.toNat_of_nonneg hb.1]; unfold turnI; rw [c1.1, c1.2]; omega
  simp only [e] at this
  exact this

theorem mir_valid {r : Reg} (h : r.valid = true) : r.mir.valid = true := by
  obtain ⟨h1, h2, h3, h4⟩ := Reg.valid_iff.1 h
  refine Reg.valid_iff.2 ⟨h1, h2, ?_, ?_⟩
  · simpa [Reg.mir, putL_length] using h3
  · show cnt (putL _ _ _) ≤ 24
    rw [putL_cnt (mir_one (by omega) h3) _ (Nat.le_refl _), List.take_length]; exact h4
theorem turn_valid {r : Reg} (h : r.valid = true) : r.turn.valid = true := by
  obtain ⟨h1, h2, h3, h4⟩ := Reg.valid_iff.1 h
  refine Reg.valid_iff.2 ⟨h2, h1, ?_, ?_⟩
  · simp only [Reg.turn, putL_length]; rw [h3, Int.mul_comm]
  · show cnt (putL _ _ _) ≤ 24
    rw [putL_cnt (turn_one (by omega) (by omega) h3) _ (Nat.le_refl _), List.take_length]; exact h4
theorem mir_cnt {r : Reg} (h : r.valid = true) : cnt r.mir.cells = cnt r.cells := by
  obtain ⟨h1, h2, h3, h4⟩ := Reg.valid_iff.1 h
  show cnt (putL _ _ _) = _
  rw [putL_cnt (mir_one (by omega) h3) _ (Nat.le_refl _), List.take_length]
theorem turn_cnt {r : Reg} (h : r.valid = true) : cnt r.turn.cells = cnt r.cells := by
  obtain ⟨h1, h2, h3, h4⟩ := Reg.valid_iff.1 h
  show cnt (putL _ _ _) = _
  rw [putL_cnt (turn_one (by omega) (by omega) h3) _ (Nat.le_refl _), List.take_length]

theorem flipR_yes {r : Reg} (h : r.valid = true) : r.flipR = r.mir := by simp [Reg.flipR, h]
theorem turnR_yes {r : Reg} (h : r.valid = true) : r.turnR = r.turn := by simp [Reg.turnR, h]
theorem flipR_no {r : Reg} (h : r.valid = false) : r.flipR = Reg.zero := by simp [Reg.flipR, h]
theorem turnR_no {r : Reg} (h : r.valid = false) : r.turnR = Reg.zero := by simp [Reg.turnR, h]

/-- Mirrored twice it is as before. -/
theorem flip_flip {r : Reg} (h : r.valid = true) : r.flipR.flipR = r := by
  obtain ⟨h1, h2, h3, h4⟩ := Reg.valid_iff.1 h
  have hv := mir_valid h
  obtain ⟨k1, k2, k3, k4⟩ := Reg.valid_iff.1 hv
  rw [flipR_yes h, flipR_yes hv]
  refine Reg.ext_g rfl rfl (by show 0 < r.wide; omega) (Reg.valid_iff.1 (mir_valid hv)).2.2.1 h3 ?_
  intro x y hx0 hx hy0 hy
  have hx' : x < r.wide := hx
  have hy' : y < r.tall := hy
  rw [mir_g k3 hx0 hx hy0 hy]
  show r.mir.g (r.wide - 1 - x) y = _
  rw [mir_g h3 (by omega) (by omega) hy0 hy']
  congr 1; omega
/-- A turn, mirrored, turned and mirrored, is as before. -/
theorem turn_flip {r : Reg} (h : r.valid = true) : r.turnR.flipR.turnR.flipR = r := by
  obtain ⟨h1, h2, h3, h4⟩ := Reg.valid_iff.1 h
  have v1 := turn_valid h
  have v2 := mir_valid v1
  have v3 := turn_valid v2
  rw [turnR_yes h, flipR_yes v1, turnR_yes v2, flipR_yes v3]
  have c1 := (Reg.valid_iff.1 v1).2.2.1
  have c2 := (Reg.valid_iff.1 v2).2.2.1
  have c3 := (Reg.valid_iff.1 v3).2.2.1
  refine Reg.ext_g rfl rfl (by show 0 < r.wide; omega) (Reg.valid_iff.1 (mir_valid v3)).2.2.1 h3 ?_
  intro x y hx0 hx hy0 hy
  have hx' : x < r.wide := hx
  have hy' : y < r.tall := hy
  rw [mir_g c3 hx0 hx hy0 hy]
  show r.turn.mir.turn.g (r.wide - 1 - x) y = _
  rw [turn_g c2 (by omega) (by show r.wide - 1 - x < r.wide; omega) hy0 hy']
  show r.turn.mir.g y (r.wide - 1 - (r.wide - 1 - x)) = _
  rw [mir_g c1 hy0 hy' (by omega) (by show r.wide - 1 - (r.wide - 1 - x) < r.wide; omega)]
  show r.turn.g (r.tall - 1 - y) (r.wide - 1 - (r.wide - 1 - x)) = _
  rw [turn_g h3 (by omega) (by omega) (by omega) (by omega)]
  congr 1 <;> omega
/-- Four turns are none. -/
theorem turn_four {r : Reg} (h : r.valid = true) : r.turnR.turnR.turnR.turnR = r := by
  obtain ⟨h1, h2, h3, h4⟩ := Reg.valid_iff.1 h
  have v1 := turn_valid h
  have v2 := turn_valid v1
  have v3 := turn_valid v2
  rw [turnR_yes h, turnR_yes v1, turnR_yes v2, turnR_yes v3]
  have c1 := (Reg.valid_iff.1 v1).2.2.1
  have c2 := (Reg.valid_iff.1 v2).2.2.1
  have c3 := (Reg.valid_iff.1 v3).2.2.1
  refine Reg.ext_g rfl rfl (by show 0 < r.wide; omega) (Reg.valid_iff.1 (turn_valid v3)).2.2.1 h3 ?_
  intro x y hx0 hx hy0 hy
  have hx' : x < r.wide := hx
  have hy' : y < r.tall := hy
  rw [turn_g c3 hx0 hx hy0 hy]
  show r.turn.turn.turn.g y (r.wide - 1 - x) = _
  rw [turn_g c2 hy0 hy' (by omega) (by show r.wide - 1 - x < r.wide; omega)]
  show r.turn.turn.g (r.wide - 1 - x) (r.tall - 1 - y) = _
  rw [turn_g c1 (by omega) (by show r.wide - 1 - x < r.wide; omega) (by omega) (by show r.tall - 1 - y < r.tall; omega)]
  show r.turn.g (r.tall - 1 - y) (r.wide - 1 - (r.wide - 1 - x)) = _
  rw [turn_g h3 (by omega) (by omega) (by omega) (by omega)]
  congr 1 <;> omega

end Domi
