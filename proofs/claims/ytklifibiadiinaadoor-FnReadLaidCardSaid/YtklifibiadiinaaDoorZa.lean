/- Plain words and laws on memory, regions and dominoes, of several texts. -/
import Derived.Test.YtklifibiadiinaaDoorVBase
import Derived.Deep.AppendLies
import Derived.Deep.QuietTactic
import Derived.BigQuiet
import Derived.Deep.RegionHeld3
import Derived.Deep.RegionWith
import Derived.Deep.RegionLaw
import Derived.Deep.DeepCutAuto
import Derived.Deep.LoopGhost
import Derived.StillTailTactics
import Derived.Deep.Quiet
import Derived.Lib.Join
import Derived.Lib.Split
import Derived.Lib.SplitLaws
import Derived.OrdersHeld

/- Plain laws on regions: mirrored and turned. No program is named here. -/
set_option linter.unusedVariables false
namespace Domi

theorem getD_set {α : Type} (l : List α) (i j : Nat) (v d : α) (hi : i < l.length) : (l.set i v).getD j d = if i = j then v else l.getD j d := by
  simp only [List.getD_eq_getElem?_getD, List.getElem?_set]
  by_cases h : i = j
  · subst h; simp [hi]
  · simp [h]

/-- Places put one to one. -/
structure OneToOne (tt : Nat → Nat) (n : Nat) : Prop where
  lt : ∀ k, k < n → tt k < n
  inj : ∀ j k, j < n → k < n → tt j = tt k → j = k

theorem putL_get {tt : Nat → Nat} {l : List Bool} (h : OneToOne tt l.length) (k : Nat) (hk : k ≤ l.length) :
    (∀ j, j < k → (putL tt l k).getD (tt j) false = l.getD j false) ∧ (∀ i, (∀ j, j < k → tt j ≠ i) → (putL tt l k).getD i false = false) := by
  induction k with
  | zero =>
    refine ⟨fun j hj => absurd hj (Nat.not_lt_zero _), fun i _ => ?_⟩
    simp [putL, List.getD_eq_getElem?_getD, List.getElem?_replicate]
    split <;> rfl
  | succ k ih =>
    obtain ⟨h1, h2⟩ := ih (by omega)
    have hl : tt k < (putL tt l k).length := by rw [putL_length]; exact h.lt k (by omega)
    refine ⟨fun j hj => ?_, fun i hi => ?_⟩
    · rw [putL, getD_set _ _ _ _ _ hl]
      by_cases e : tt k = tt j
      · rw [if_pos e, h.inj k j (by omega) (by omega) e]
      · rw [if_neg e]
        exact h1 j (by rcases Nat.lt_succ_iff_lt_or_eq.1 hj with h | h; exact h; exact absurd (by rw [h]) e)
    · rw [putL, getD_set _ _ _ _ _ hl, if_neg (hi k (by omega))]
      exact h2 i (fun j hj => hi j (by omega))

theorem cnt_set (l : List Bool) (i : Nat) (v : Bool) (hi : i < l.length) (h : l.getD i false = false) : cnt (l.set i v) = cnt l + if v then 1 else 0 := by
  induction l generalizing i with
  | nil => simp at hi
  | cons a l ih =>
    cases i with
    | zero =>
      have ha : a = false := by simpa using h
      subst ha
      cases v <;> simp [cnt]
    | succ i =>
      have := ih i (by simpa using hi) (by simpa using h)
      have e1 : cnt (a :: l.set i v) = cnt (l.set i v) + if a then 1 else 0 := by cases a <;> simp [cnt]
      have e2 : cnt (a :: l) = cnt l + if a then 1 else 0 := by cases a <;> simp [cnt]
      rw [List.set_cons_succ, e1, e2, this]; omega

theorem putL_cnt {tt : Nat → Nat} {l : List Bool} (h : OneToOne tt l.length) (k : Nat) (hk : k ≤ l.length) : cnt (putL tt l k) = cnt (l.take k) := by
  induction k with
  | zero =>
    simp [putL, cnt]
  | succ k ih =>
    have hl : tt k < (putL tt l k).length := by rw [putL_length]; exact h.lt k (by omega)
    have h0 : (putL tt l k).getD (tt k) false = false := (putL_get h k (by omega)).2 _ (fun j hj e => by have := h.inj j k (by omega) (by omega) e; omega)
    rw [putL, cnt_set _ _ _ hl h0, ih (by omega), take_snoc l false k (by omega), cnt_snoc]

/-! ### columns and rows -/
/-- The entry in column x, row y. -/
def Reg.g (r : Reg) (x y : Int) : Bool := r.cells.getD (y * r.wide + x).toNat false

theorem xy_of {w x y : Int} (hx0 : 0 ≤ x) (hx : x < w) : (y * w + x) % w = x ∧ (y * w + x) / w = y := by
  have hw : w ≠ 0 := by omega
  refine ⟨?_, ?_⟩
  · rw [Int.add_comm, Int.add_mul_emod_self_right]; exact Int.emod_eq_of_lt hx0 hx
  · rw [Int.add_comm, Int.add_mul_ediv_right _ _ hw, Int.ediv_eq_zero_of_lt hx0 hx]; omega
theorem of_xy {c w : Int} (_ : 0 < w) : c / w * w + c % w = c := by
  have := Int.mul_ediv_add_emod c w; rw [Int.mul_comm] at this; exact this
theorem xy_lt {w t x y : Int} (hx0 : 0 ≤ x) (hx : x < w) (hy0 : 0 ≤ y) (hy : y < t) : 0 ≤ y * w + x ∧ y * w + x < w * t := by
  have h1 := Int.mul_nonneg hy0 (show 0 ≤ w by omega)
  have h2 := Int.mul_le_mul_of_nonneg_right (show y ≤ t - 1 by omega) (show 0 ≤ w by omega)
  rw [Int.sub_mul, Int.mul_comm t] at h2
  omega

/-- Regions of one field with the same entries are equal. -/
theorem Reg.ext_g {r q : Reg} (hw : r.wide = q.wide) (ht : r.tall = q.tall) (hp : 0 < r.wide) (hr : (r.cells.length : Int) = r.wide * r.tall) (hq : (q.cells.length : Int) = q.wide * q.tall)
    (h : ∀ x y, 0 ≤ x → x < r.wide → 0 ≤ y → y < r.tall → r.g x y = q.g x y) : r = q := by
  have hl : r.cells.length = q.cells.length := by rw [hw, ht] at hr; omega
  have hc : r.cells = q.cells := by
    apply List.ext_getElem hl
    intro i h1 h2
    have hi : (i : Int) < r.wide * r.tall := by omega
    have m1 := Int.emod_nonneg (i : Int) (b := r.wide) (by omega)
    have m2 := Int.emod_lt_of_pos (i : Int) (b := r.wide) (by omega)
    have m3 := Int.ediv_nonneg (a := (i : Int)) (b := r.wide) (by omega) (by omega)
    have m4 := div_lt_of (by omega) hi
    have := h _ _ m1 m2 m3 (by omega)
    unfold Reg.g at this
    rw [← hw, of_xy hp] at this
    simpa [List.getD_eq_getElem?_getD, h1, h2] using this
  cases r; cases q; simp_all

theorem mir_one {r : Reg} (hp : 0 < r.wide) (hr : (r.cells.length : Int) = r.wide * r.tall) : OneToOne (fun k => (mirI r k).toNat) r.cells.length := by
  refine ⟨fun k hk => ?_, fun j k hj hk e => ?_⟩
  · have := mirI_in (r := r) (c := k) (by omega) (by omega) (by omega); show Int.toNat _ < _; omega
  · have i1 := mirI_in (r := r) (c := j) (by omega) (by omega) (by omega)
    have i2 := mirI_in (r := r) (c := k) (by omega) (by omega) (by omega)
    have e' : mirI r j = mirI r k := by change Int.toNat _ = Int.toNat _ at e; omega
    have a1 := Int.emod_nonneg (j : Int) (b := r.wide) (by omega)
    have a2 := Int.emod_lt_of_pos (j : Int) (b := r.wide) (by omega)
    have b1 := Int.emod_nonneg (k : Int) (b := r.wide) (by omega)
    have b2 := Int.emod_lt_of_pos (k : Int) (b := r.wide) (by omega)
    unfold mirI at e'
    have c1 := xy_of (w := r.wide) (x := r.wide - 1 - (j : Int) % r.wide) (y := (j : Int) / r.wide) (by omega) (by omega)
    have c2 := xy_of (w := r.wide) (x := r.wide - 1 - (k : Int) % r.wide) (y := (k : Int) / r.wide) (by omega) (by omega)
    rw [show (j : Int) / r.wide * r.wide + (r.wide - 1 - (j : Int) % r.wide) = (k : Int) / r.wide * r.wide + (r.wide - 1 - (k : Int) % r.wide) by omega] at c1
    have d1 := of_xy (c := (j : Int)) hp
    have d2 := of_xy (c := (k : Int)) hp
    have e1 : (j : Int) / r.wide = (k : Int) / r.wide := by rw [← c1.2, c2.2]
    have e2 : (j : Int) % r.wide = (k : Int) % r.wide := by have := c1.1.symm.trans c2.1; omega
    rw [e1, e2] at d1
    omega
theorem turn_one {r : Reg} (hp : 0 < r.wide) (hpt : 0 < r.tall) (hr : (r.cells.length : Int) = r.wide * r.tall) : OneToOne (fun k => (turnI r k).toNat) r.cells.length := by
  refine ⟨fun k hk => ?_, fun j k hj hk e => ?_⟩
  · have := turnI_in (r := r) (c := k) (by omega) (by omega) (by omega) (by omega); show Int.toNat _ < _; omega
  · have i1 := turnI_in (r := r) (c := j) (by omega) (by omega) (by omega) (by omega)
    have i2 := turnI_in (r := r) (c := k) (by omega) (by omega) (by omega) (by omega)
    have e' : turnI r j = turnI r k := by change Int.toNat _ = Int.toNat _ at e; omega
    have a1 := Int.ediv_nonneg (a := (j : Int)) (b := r.wide) (by omega) (by omega)
    have a2 := div_lt_of (c := (j : Int)) (w := r.wide) (t := r.tall) (by omega) (by omega)
    have b1 := Int.ediv_nonneg (a := (k : Int)) (b := r.wide) (by omega) (by omega)
    have b2 := div_lt_of (c := (k : Int)) (w := r.wide) (t := r.tall) (by omega) (by omega)
    unfold turnI at e'
    have c1 := xy_of (w := r.tall) (x := r.tall - 1 - (j : Int) / r.wide) (y := (j : Int) % r.wide) (by omega) (by omega)
    have c2 := xy_of (w := r.tall) (x := r.tall - 1 - (k : Int) / r.wide) (y := (k : Int) % r.wide) (by omega) (by omega)
    rw [show (j : Int) % r.wide * r.tall + (r.tall - 1 - (j : Int) / r.wide) = (k : Int) % r.wide * r.tall + (r.tall - 1 - (k : Int) / r.wide) by omega] at c1
    have d1 := of_xy (c := (j : Int)) hp
    have d2 := of_xy (c := (k : Int)) hp
    have e1 : (j : Int) % r.wide = (k : Int) % r.wide := by rw [← c1.2, c2.2]
    have e2 : (j : Int) / r.wide = (k : Int) / r.wide := by have := c1.1.symm.trans c2.1; omega
    rw [e1, e2] at d1
    omega

theorem mir_g {r : Reg} (hr : (r.cells.length : Int) = r.wide * r.tall) {x y : Int} (hx0 : 0 ≤ x) (hx : x < r.wide) (hy0 : 0 ≤ y) (hy : y < r.tall) : r.mir.g x y = r.g (r.wide - 1 - x) y := by
  have hb := xy_lt (w := r.wide) (t := r.tall) (x := r.wide - 1 - x) (y := y) (by omega) (by omega) hy0 hy
  have hk : (y * r.wide + (r.wide - 1 - x)).toNat < r.cells.length := by omega
  have := (putL_get (mir_one (by omega) hr) r.cells.length (Nat.le_refl _)).1 _ hk
  have c1 := xy_of (w := r.wide) (x := r.wide - 1 - x) (y := y) (by omega) (by omega)
  have e : mirI r ((y * r.wide + (r.wide - 1 - x)).toNat : Int) = y * r.wide + x := by
    rw [Int.toNat_of_nonneg hb.1]; unfold mirI; rw [c1.1, c1.2]; omega
  simp only [e] at this
  exact this
theorem turn_g {r : Reg} (hr : (r.cells.length : Int) = r.wide * r.tall) {x y : Int} (hx0 : 0 ≤ x) (hx : x < r.tall) (hy0 : 0 ≤ y) (hy : y < r.wide) : r.turn.g x y = r.g y (r.tall - 1 - x) := by
  have hb := xy_lt (w := r.wide) (t := r.tall) (x := y) (y := r.tall - 1 - x) hy0 hy (by omega) (by omega)
  have hk : ((r.tall - 1 - x) * r.wide + y).toNat < r.cells.length := by omega
  have := (putL_get (turn_one (by omega) (by omega) hr) r.cells.length (Nat.le_refl _)).1 _ hk
  have c1 := xy_of (w := r.wide) (x := y) (y := r.tall - 1 - x) hy0 hy
  have e : turnI r (((r.tall - 1 - x) * r.wide + y).toNat : Int) = y * r.tall + x := by
    rw [Int.toNat_of_nonneg hb.1]; unfold turnI; rw [c1.1, c1.2]; omega
  simp only [e] at this
  exact this

theorem mir_valid {r : Reg} (h : r.valid = true) : r.mir.valid = true := by
  obtain ⟨h1, h2, h3, h4⟩ := Reg.valid_iff.1 h
  refine Reg.valid_iff.2 ⟨h1, h2, ?_, ?_⟩
  · simpa [Reg.mir, putL_length] using h3
  · show cnt (putL _ _ _) ≤ 24
    rw [putL_cnt (mir_one (by omega) h3) _ (Nat.le_refl _), List.take_length]; exact h4
theorem turn_valid {r : Reg} (h : r.valid = true) : r.turn.valid = true := by
  obtain ⟨h1, h2, h3, h4⟩ := Reg.valid_iff.1 h
  refine Reg.valid_iff.2 ⟨h2, h1, ?_, ?_⟩
  · simp only [Reg.turn, putL_length]; rw [h3, Int.mul_comm]
  · show cnt (putL _ _ _) ≤ 24
    rw [putL_cnt (turn_one (by omega) (by omega) h3) _ (Nat.le_refl _), List.take_length]; exact h4
theorem mir_cnt {r : Reg} (h : r.valid = true) : cnt r.mir.cells = cnt r.cells := by
  obtain ⟨h1, h2, h3, h4⟩ := Reg.valid_iff.1 h
  show cnt (putL _ _ _) = _
  rw [putL_cnt (mir_one (by omega) h3) _ (Nat.le_refl _), List.take_length]
theorem turn_cnt {r : Reg} (h : r.valid = true) : cnt r.turn.cells = cnt r.cells := by
  obtain ⟨h1, h2, h3, h4⟩ := Reg.valid_iff.1 h
  show cnt (putL _ _ _) = _
  rw [putL_cnt (turn_one (by omega) (by omega) h3) _ (Nat.le_refl _), List.take_length]

theorem flipR_yes {r : Reg} (h : r.valid = true) : r.flipR = r.mir := by simp [Reg.flipR, h]
theorem turnR_yes {r : Reg} (h : r.valid = true) : r.turnR = r.turn := by simp [Reg.turnR, h]
theorem flipR_no {r : Reg} (h : r.valid = false) : r.flipR = Reg.zero := by simp [Reg.flipR, h]
theorem turnR_no {r : Reg} (h : r.valid = false) : r.turnR = Reg.zero := by simp [Reg.turnR, h]

/-- Mirrored twice it is as before. -/
theorem flip_flip {r : Reg} (h : r.valid = true) : r.flipR.flipR = r := by
  obtain ⟨h1, h2, h3, h4⟩ := Reg.valid_iff.1 h
  have hv := mir_valid h
  obtain ⟨k1, k2, k3, k4⟩ := Reg.valid_iff.1 hv
  rw [flipR_yes h, flipR_yes hv]
  refine Reg.ext_g rfl rfl (by show 0 < r.wide; omega) (Reg.valid_iff.1 (mir_valid hv)).2.2.1 h3 ?_
  intro x y hx0 hx hy0 hy
  have hx' : x < r.wide := hx
  have hy' : y < r.tall := hy
  rw [mir_g k3 hx0 hx hy0 hy]
  show r.mir.g (r.wide - 1 - x) y = _
  rw [mir_g h3 (by omega) (by omega) hy0 hy']
  congr 1; omega
/-- A turn, mirrored, turned and mirrored, is as before. -/
theorem turn_flip {r : Reg} (h : r.valid = true) : r.turnR.flipR.turnR.flipR = r := by
  obtain ⟨h1, h2, h3, h4⟩ := Reg.valid_iff.1 h
  have v1 := turn_valid h
  have v2 := mir_valid v1
  have v3 := turn_valid v2
  rw [turnR_yes h, flipR_yes v1, turnR_yes v2, flipR_yes v3]
  have c1 := (Reg.valid_iff.1 v1).2.2.1
  have c2 := (Reg.valid_iff.1 v2).2.2.1
  have c3 := (Reg.valid_iff.1 v3).2.2.1
  refine Reg.ext_g rfl rfl (by show 0 < r.wide; omega) (Reg.valid_iff.1 (mir_valid v3)).2.2.1 h3 ?_
  intro x y hx0 hx hy0 hy
  have hx' : x < r.wide := hx
  have hy' : y < r.tall := hy
  rw [mir_g c3 hx0 hx hy0 hy]
  show r.turn.mir.turn.g (r.wide - 1 - x) y = _
  rw [turn_g c2 (by omega) (by show r.wide - 1 - x < r.wide; omega) hy0 hy']
  show r.turn.mir.g y (r.wide - 1 - (r.wide - 1 - x)) = _
  rw [mir_g c1 hy0 hy' (by omega) (by show r.wide - 1 - (r.wide - 1 - x) < r.wide; omega)]
  show r.turn.g (r.tall - 1 - y) (r.wide - 1 - (r.wide - 1 - x)) = _
  rw [turn_g h3 (by omega) (by omega) (by omega) (by omega)]
  congr 1 <;> omega
/-- Four turns are none. -/
theorem turn_four {r : Reg} (h : r.valid = true) : r.turnR.turnR.turnR.turnR = r := by
  obtain ⟨h1, h2, h3, h4⟩ := Reg.valid_iff.1 h
  have v1 := turn_valid h
  have v2 := turn_valid v1
  have v3 := turn_valid v2
  rw [turnR_yes h, turnR_yes v1, turnR_yes v2, turnR_yes v3]
  have c1 := (Reg.valid_iff.1 v1).2.2.1
  have c2 := (Reg.valid_iff.1 v2).2.2.1
  have c3 := (Reg.valid_iff.1 v3).2.2.1
  refine Reg.ext_g rfl rfl (by show 0 < r.wide; omega) (Reg.valid_iff.1 (turn_valid v3)).2.2.1 h3 ?_
  intro x y hx0 hx hy0 hy
  have hx' : x < r.wide := hx
  have hy' : y < r.tall := hy
  rw [turn_g c3 hx0 hx hy0 hy]
  show r.turn.turn.turn.g y (r.wide - 1 - x) = _
  rw [turn_g c2 hy0 hy' (by omega) (by show r.wide - 1 - x < r.wide; omega)]
  show r.turn.turn.g (r.wide - 1 - x) (r.tall - 1 - y) = _
  rw [turn_g c1 (by omega) (by show r.wide - 1 - x < r.wide; omega) (by omega) (by show r.tall - 1 - y < r.tall; omega)]
  show r.turn.g (r.tall - 1 - y) (r.wide - 1 - (r.wide - 1 - x)) = _
  rw [turn_g h3 (by omega) (by omega) (by omega) (by omega)]
  congr 1 <;> omega

end Domi

/- Appending one element to a slice of the call's own, as one law for the walk. No program is named here. -/
set_option linter.unusedVariables false
namespace Domi
open Go Go.RowKit

/-- A slice type t over a one-cell element type e. -/
structure ElemOk (P : Program) (t e : TypeId) (bytes : Nat) : Prop where
  ht : P.underlying t = some (.slice e)
  hi : (P.info? e).map (fun i => (i.zero.map (fun z => z.cells.size), i.size, i.bytes)) = some (some 1, 1, bytes)

theorem ElemOk.info {P : Program} {t e : TypeId} {bytes : Nat} (E : ElemOk P t e bytes) :
    ∃ i z, P.info? e = some i ∧ i.zero = some z ∧ i.size = 1 ∧ i.bytes = bytes ∧ z.cells.size = 1 := by
  have h := E.hi
  cases hi : P.info? e with
  | none => rw [hi] at h; simp at h
  | some i =>
    rw [hi] at h
    simp only [Option.map_some, Option.some.injEq, Prod.mk.injEq] at h
    cases hz : i.zero with
    | none => rw [hz] at h; simp at h
    | some z =>
      rw [hz] at h
      exact ⟨i, z, rfl, hz, h.2.1, h.2.2, by simpa using h.1⟩

/-- The slice v, of the call's own (blocks from B on), holds the values xs, one cell each. -/
abbrev Own (w : World) (B : Nat) (e : TypeId) (v : Value) (xs : List Value) : Prop := w.ownsRow B e 1 v xs.length xs

/-- What an append of one value leaves. -/
structure App (w : World) (B : Nat) (e : TypeId) (v : Value) (xs : List Value) (x : Value) (g cap : Nat) (w' : World) : Prop where
  own : Own w' B e (.slice (some ⟨g, 0, none⟩) (xs.length + 1) cap) (xs ++ [x])
  grown : w.grownBy w' v.ownBlock
  lies : v.ownBlock = some g ∨ g = w.heap.size
  lt : g < w'.heap.size

section
variable {P : Program} {t e : TypeId} {bytes : Nat} {w : World} {ops : Array Oper} {o : Oper} {a : Act} {Q : Exit → Act → World → Prop}

theorem news_one {w : World} {g0 : Nat} {x : Value} {e : TypeId} (h : w.heap[g0]? = some (.cells #[x] e (0, 0))) :
    ∀ j u, ([x] : List Value)[j]? = some u → w.cell? ((⟨g0, 0, none⟩ : Addr).add j) = some u := by
  intro j u hj
  match j, hj with
  | 0, hj =>
    simp at hj; subst hj
    show w.cell? ⟨g0, 0, none⟩ = _
    rw [cell_of_row w g0 0 _ _ _ h]; rfl

/-- At a step of a region that draws its order. -/
theorem step_app (E : ElemOk P t e bytes) (B : Nat) (v : Value) (xs : List Value) (hown : Own w B e v xs) (g0 : Nat) (x : Value) (s y : Operand)
    {K : Act → World → Prop} {F : Prop} (hgd : o.guard = none)
    (ho : o.op = .call { callee := .builtin .append, args := #[s, y], argTypes := #[t, t] }) (hs : a.eval s = v)
    (hx : a.eval y = .slice (some ⟨g0, 0, none⟩) 1 1) (hn : w.heap[g0]? = some (.cells #[x] e (0, 0))) (h1 : x.oneCell' = true)
    (hl : (xs.length + 1) * (bytes + 1) ≤ 140737488355328) (hB : B ≤ w.heap.size)
    (h : ∀ g cap w', App w B e v xs x g cap w' → K (a.put o.dst (.slice (some ⟨g, 0, none⟩) (xs.length + 1) cap)) w') :
    if Region.wanted o (yielded ops a.tmps) = true then Oper.wp P o a w K Q else F := by
  obtain ⟨i, z, i1, i2, i3, i4, i5⟩ := E.info
  rw [Nat.mul_add] at hl
  refine step_append_lies w hgd s y t ho B e i z 1 bytes E.ht i1 i2 i3 i4 i5 (by omega) v xs.length xs hs hown ⟨g0, 0, none⟩ 1 1 [x] hx rfl (news_one hn) (by simpa using h1) (by omega) (by unfold maxLen; omega) (by omega) hB _ rfl ?_
  intro g cap w' k1 k2 k3 k4
  exact h g cap w' ⟨by simpa [Own] using k1, k2, k3, k4⟩

/-- At the list of a plain region's operations. -/
theorem list_app (E : ElemOk P t e bytes) (B : Nat) (v : Value) (xs : List Value) (hown : Own w B e v xs) (g0 : Nat) (x : Value) (s y : Operand)
    {rest : List Oper} (hgd : o.guard = none)
    (ho : o.op = .call { callee := .builtin .append, args := #[s, y], argTypes := #[t, t] }) (hs : a.eval s = v)
    (hx : a.eval y = .slice (some ⟨g0, 0, none⟩) 1 1) (hn : w.heap[g0]? = some (.cells #[x] e (0, 0))) (h1 : x.oneCell' = true)
    (hl : (xs.length + 1) * (bytes + 1) ≤ 140737488355328) (hB : B ≤ w.heap.size)
    (h : ∀ g cap w', App w B e v xs x g cap w' → wpList P ops Q rest (a.put o.dst (.slice (some ⟨g, 0, none⟩) (xs.length + 1) cap)) w') :
    wpList P ops Q (o :: rest) a w := by
  obtain ⟨i, z, i1, i2, i3, i4, i5⟩ := E.info
  rw [Nat.mul_add] at hl
  refine wpList_append_lies w hgd s y t ho B e i z 1 bytes E.ht i1 i2 i3 i4 i5 (by omega) v xs.length xs hs hown ⟨g0, 0, none⟩ 1 1 [x] hx rfl (news_one hn) (by simpa using h1) (by omega) (by unfold maxLen; omega) (by omega) hB _ rfl ?_
  intro g cap w' k1 k2 k3 k4
  exact h g cap w' ⟨by simpa [Own] using k1, k2, k3, k4⟩
end

/-- A block below B is as it was behind the append. -/
theorem App.block {w w' : World} {B : Nat} {e : TypeId} {v : Value} {xs : List Value} {x : Value} {g cap : Nat} (h : App w B e v xs x g cap w') (ho : Own w B e v xs) {X : Nat} (hX : X < B) (hl : X < w.heap.size) : w'.heap[X]? = w.heap[X]? :=
  h.grown.block X hl (by intro e; have := (World.ownsRow.lt ho X e.symm).1; omega)
theorem App.below {w w' : World} {B : Nat} {e : TypeId} {v : Value} {xs : List Value} {x : Value} {g cap : Nat} (h : App w B e v xs x g cap w') (ho : Own w B e v xs) (hB : B ≤ w.heap.size) : Below B w w' :=
  ⟨h.grown.os, h.grown.tape, h.grown.output, h.grown.size, fun X hX => h.block ho hX (by omega)⟩
section
variable {P : Program} {t e : TypeId} {bytes : Nat} {w : World} {ops : Array Oper} {o : Oper} {a : Act} {Q : Exit → Act → World → Prop}

theorem madeOne (z : Value) (n : Nat) : madeCells #[z] n = Array.replicate n z := by
  apply Array.toList_inj.1
  rw [toList_madeCells_one]; simp

theorem run_make_cells (E : ElemOk P t e bytes) (z : Value) (hz : (P.info? e).bind (·.zero) = some z) (hz1 : z.cells = #[z]) (kl kc : IntKind) (n : Nat) (hl : n * bytes ≤ 140737488355328) (hn : n ≤ 9223372036854775807) :
    (Instr.makeSlice t (.int kl (n : Int)) (.int kc (n : Int))).run P w = .ok (.slice (some ⟨w.heap.size, 0, none⟩) n n) (w.alloc (.cells (Array.replicate n z) e)) := by
  obtain ⟨i, z', i1, i2, i3, i4, i5⟩ := E.info
  have hzz : z' = z := by rw [i1] at hz; simp [i2] at hz; exact hz
  subst hzz
  have hb : (i.bytes : Int) * (n : Int) ≤ 281474976710656 := by
    have h : ((n * bytes : Nat) : Int) ≤ 140737488355328 := by omega
    rw [Int.natCast_mul] at h
    rw [i4, Int.mul_comm]; omega
  have hr := run_make (P := P) w t e i z' E.ht i1 i2 kl kc n n (by omega) (Int.le_refl _) hb (by omega)
  rw [hz1, i3, Nat.mul_one, Int.toNat_natCast, madeOne] at hr
  exact hr

/-- A row of n times z, behind a name. -/
def mkRow (n : Nat) (z : Value) : Array Value := Array.replicate n z
theorem run_make_row1 (E : ElemOk P t e bytes) (z : Value) (hz : (P.info? e).bind (·.zero) = some z) (hz1 : z.cells = #[z]) (n : Nat) (hl : n * bytes ≤ 140737488355328) (hn : n ≤ 9223372036854775807) (w : World) :
    (Instr.makeSlice t (.int .i64 (n : Int)) (.int .i64 (n : Int))).run P w = .ok (.slice (some ⟨w.heap.size, 0, none⟩) n n) (w.alloc (.cells (mkRow n z) e)) :=
  run_make_cells E z hz hz1 .i64 .i64 n hl hn
theorem mkRow_hid (n : Nat) (z : Value) : Hid (mkRow n z = Array.replicate n z) := Lib.hid rfl

/-- 'make([]T, n)' at the list of a plain region. -/
theorem list_make (E : ElemOk P t e bytes) (z : Value) (hz : (P.info? e).bind (·.zero) = some z) (hz1 : z.cells = #[z]) (n : Nat) (l c : Operand) {rest : List Oper} (hgd : o.guard = none)
    (ho : o.op = Op.makeSlice t l c) (N : Int) (hlv : a.eval l = .int .i64 N) (hcv : a.eval c = .int .i64 N) (hN : N = (n : Int)) (hl : n * bytes ≤ 140737488355328) (hn : n ≤ 9223372036854775807)
    (h : ∀ cs, Hid (cs = Array.replicate n z) → wpList P ops Q rest (a.put o.dst (.slice (some ⟨w.heap.size, 0, none⟩) n n)) (w.alloc (.cells cs e))) :
    wpList P ops Q (o :: rest) a w := by
  refine wpList_plain hgd fun K hK' => ?_
  have hrun := run_make_cells (w := w) E z hz hz1 .i64 .i64 n hl hn
  subst hN
  unfold Oper.wp
  simp [execOp, ho, hlv, hcv, hrun, Result.andThen]
  exact hK' _ _ (h _ (Lib.hid rfl))

/-- The same at a step of a region that draws its order. -/
theorem step_make (E : ElemOk P t e bytes) (z : Value) (hz : (P.info? e).bind (·.zero) = some z) (hz1 : z.cells = #[z]) (n : Nat) (l c : Operand) {K : Act → World → Prop} {F : Prop} (hgd : o.guard = none)
    (ho : o.op = Op.makeSlice t l c) (N : Int) (hlv : a.eval l = .int .i64 N) (hcv : a.eval c = .int .i64 N) (hN : N = (n : Int)) (hl : n * bytes ≤ 140737488355328) (hn : n ≤ 9223372036854775807)
    (h : ∀ cs, Hid (cs = Array.replicate n z) → K (a.put o.dst (.slice (some ⟨w.heap.size, 0, none⟩) n n)) (w.alloc (.cells cs e))) :
    if Region.wanted o (yielded ops a.tmps) = true then Oper.wp P o a w K Q else F := by
  have hw : Region.wanted o (yielded ops a.tmps) = true := by simp [Region.wanted, hgd]
  rw [if_pos hw]
  have hrun := run_make_cells (w := w) E z hz hz1 .i64 .i64 n hl hn
  subst hN
  unfold Oper.wp
  simp [execOp, ho, hlv, hcv, hrun, Result.andThen]
  exact h _ (Lib.hid rfl)
end

theorem Own.made {w : World} {B : Nat} {e : TypeId} {n : Nat} {z : Value} {cs : Array Value} (hc : Hid (cs = Array.replicate n z)) (hB : B ≤ w.heap.size) (hn : n ≤ 9223372036854775807) :
    Own (w.alloc (.cells cs e)) B e (.slice (some ⟨w.heap.size, 0, none⟩) n n) (List.replicate n z) := by
  have h := hc.out
  subst h
  have := World.ownsRow_lit (size := 1) (e := e) w (Array.replicate n z) n hB (by unfold maxLen; omega) (by simp)
  simpa [Own] using this

theorem two_new (w : World) (o1 o2 : Obj) : ((w.alloc o1).alloc o2).drew.heap[w.heap.size]? = some o1 ∧ ((w.alloc o1).alloc o2).drew.heap[w.heap.size + 1]? = some o2 := by
  refine ⟨?_, ?_⟩
  · show ((w.alloc o1).alloc o2).heap[w.heap.size]? = _
    rw [heap_alloc_old _ _ (by simp)]; exact heap_alloc_new _ _
  · have h := heap_alloc_new (w.alloc o1) o2
    rw [World.size_alloc] at h
    exact h
theorem heap_drew (w : World) : w.drew.heap = w.heap := rfl
theorem Own.drew {w : World} {B : Nat} {e : TypeId} {v : Value} {xs : List Value} (h : Own w B e v xs) : Own w.drew B e v xs := h
theorem Own.alloc {w : World} {B : Nat} {e : TypeId} {v : Value} {xs : List Value} (h : Own w B e v xs) (o : Obj) : Own (w.alloc o) B e v xs := World.ownsRow.alloc h o
theorem Own.grown {w w' : World} {B : Nat} {e : TypeId} {v : Value} {xs : List Value} {row : Option Nat} (h : Own w B e v xs) (hg : w.grownBy w' row) (hr : ∀ k, row = some k → k < B) : Own w' B e v xs := by
  refine World.ownsRow.kept h hg ?_
  cases hv : v.ownBlock with
  | none => exact .inl rfl
  | some k =>
    right
    intro e
    have := hr k e.symm
    have := (World.ownsRow.lt h k hv).1
    omega
theorem Own.below {w w' : World} {B : Nat} {e : TypeId} {v : Value} {xs : List Value} (h : Own w B e v xs) (hb : Below w.heap.size w w') : Own w' B e v xs :=
  h.grown (row := none) ⟨hb.os, hb.tape, hb.output, hb.size, fun k hk _ => hb.block k hk⟩ (by simp)
theorem Own.drewN {w : World} {B : Nat} {e : TypeId} {v : Value} {xs : List Value} (h : Own w B e v xs) (n : Nat) : Own (w.drewN n) B e v xs := h
theorem cell_far {w : World} {b o b' o' : Nat} {s : Option Nat} {v x : Value} (h : w.cell? ⟨b', o', none⟩ = some x) (hne : b' ≠ b) : (w.setCell ⟨b, o, s⟩ v).cell? ⟨b', o', none⟩ = some x := by
  rw [← h]; exact World.cell?_of_block (heap_setCell_other w ⟨b, o, s⟩ b' v hne)
theorem Own.setCell {w : World} {B : Nat} {e : TypeId} {v : Value} {xs : List Value} (h : Own w B e v xs) {b o : Nat} {s : Option Nat} (hb : b < B) (u : Value) : Own (w.setCell ⟨b, o, s⟩ u) B e v xs :=
  h.grown (row := some b) ⟨rfl, rfl, rfl, by simp, fun k _ hk => heap_setCell_other w ⟨b, o, s⟩ k u (fun e => hk (by simp [e]))⟩ (by simp; exact hb)
/-- The block of a slice of the call's own. -/
theorem Own.block {w : World} {B : Nat} {e : TypeId} {g n c : Nat} {xs : List Value} (h : Own w B e (.slice (some ⟨g, 0, none⟩) n c) xs) :
    ∃ cur, w.heap[g]? = some (.cells cur e (0, 0)) ∧ B ≤ g ∧ n = xs.length ∧ cur.toList.take n = xs := by
  obtain ⟨h0, h⟩ := h
  simp only [Nat.mul_one] at h0 h
  rcases h with ⟨h, _⟩ | ⟨g', cap, cur, h, hb, hg, h1, h2, h3, h4⟩
  · simp at h
  · simp only [Value.slice.injEq, Option.some.injEq, Addr.mk.injEq, and_true] at h
    obtain ⟨rfl, hn, rfl⟩ := h
    exact ⟨cur, hg, hb, hn, by rw [hn]; exact h4⟩
theorem Own.cell {w : World} {B : Nat} {e : TypeId} {g n c : Nat} {xs : List Value} (h : Own w B e (.slice (some ⟨g, 0, none⟩) n c) xs) (j : Nat) (hj : j < n) :
    w.cell? ⟨g, j, none⟩ = xs[j]? ∧ w.frozen? ⟨g, j, none⟩ = false ∧ g < w.heap.size := by
  obtain ⟨cur, hg, _, hn, ht⟩ := h.block
  refine ⟨?_, frozen_of_row w g j _ _ hg, lt_of_heap hg⟩
  subst hn
  rw [cell_of_row w g j cur e (0, 0) hg]
  have := take_getElem ht j hj
  rw [List.getElem?_eq_getElem hj, ← this]; simp
theorem Own.there {w : World} {B : Nat} {e : TypeId} {g n c : Nat} {xs : List Value} (h : Own w B e (.slice (some ⟨g, 0, none⟩) n c) xs) (j : Nat) (hj : j < n) :
    ∃ u, w.cell? ⟨g, j, none⟩ = some u ∧ w.frozen? ⟨g, j, none⟩ = false ∧ g < w.heap.size := by
  obtain ⟨h1, h2, h3⟩ := h.cell j hj
  obtain ⟨_, _, _, hn, _⟩ := h.block
  exact ⟨xs[j]'(by omega), by rw [h1]; exact List.getElem?_eq_getElem (by omega), h2, h3⟩
theorem Own.stored {w : World} {B : Nat} {e : TypeId} {g n c : Nat} {xs : List Value} (h : Own w B e (.slice (some ⟨g, 0, none⟩) n c) xs) (j : Nat) (u : Value) :
    Own (w.setCell ⟨g, j, none⟩ u) B e (.slice (some ⟨g, 0, none⟩) n c) (xs.set j u) := by
  obtain ⟨cur, hg, _, hn, ht⟩ := h.block
  subst hn
  have := (World.ownsRow.stored h j u).1
  simpa [Own] using this

/-- A list that is filled from the front. -/
def fillL {α : Type} (f : Nat → α) (z : α) (n k : Nat) : List α := (List.range n).map fun i => if i < k then f i else z
theorem fillL_length {α : Type} (f : Nat → α) (z : α) (n k : Nat) : (fillL f z n k).length = n := by simp [fillL]
theorem fillL_zero {α : Type} (f : Nat → α) (z : α) (n : Nat) : fillL f z n 0 = List.replicate n z := by
  apply List.ext_getElem <;> simp [fillL]
theorem fillL_full {α : Type} (f : Nat → α) (z : α) (n : Nat) : fillL f z n n = (List.range n).map f := by
  unfold fillL
  refine List.map_congr_left fun i hi => ?_
  rw [if_pos (by simpa using hi)]
theorem fillL_set {α : Type} (f : Nat → α) (z : α) (n k : Nat) : (fillL f z n k).set k (f k) = fillL f z n (k + 1) := by
  apply List.ext_getElem
  · simp [fillL]
  · intro i h1 h2
    simp only [fillL, List.getElem_set, List.getElem_map, List.getElem_range]
    by_cases e : k = i
    · subst e; simp
    · rw [if_neg e]
      by_cases h : i < k
      · rw [if_pos h, if_pos (by omega)]
      · rw [if_neg h, if_neg (by omega)]
theorem fillL_map {α β : Type} (f : Nat → α) (z : α) (n k : Nat) (q : α → β) : (fillL f z n k).map q = fillL (fun i => q (f i)) (q z) n k := by
  simp only [fillL, List.map_map]
  refine List.map_congr_left fun i _ => ?_
  simp only [Function.comp]; split <;> rfl
theorem fillL_get {α : Type} (f : Nat → α) (z : α) (n k j : Nat) (hj : j < n) (hk : k ≤ j) : (fillL f z n k)[j]? = some z := by
  simp [fillL, hj]; omega

theorem Own.mono {w : World} {B B' : Nat} {e : TypeId} {v : Value} {xs : List Value} (h : Own w B e v xs) (hB : B' ≤ B) : Own w B' e v xs := by
  refine ⟨h.1, ?_⟩
  rcases h.2 with h | ⟨g, cap, cur, hv, hb, r⟩
  · exact .inl h
  · exact .inr ⟨g, cap, cur, hv, by omega, r⟩
theorem own_from {w : World} {B B' : Nat} {e : TypeId} {g n c : Nat} {xs : List Value} (h : Own w B e (.slice (some ⟨g, 0, none⟩) n c) xs) (hg : B' ≤ g) : Own w B' e (.slice (some ⟨g, 0, none⟩) n c) xs := by
  refine ⟨h.1, ?_⟩
  rcases h.2 with h | ⟨g', cap, cur, hv, hb, r⟩
  · exact .inl h
  · refine .inr ⟨g', cap, cur, hv, ?_, r⟩
    simp at hv; omega
theorem Own.sl {w : World} {B : Nat} {e : TypeId} {v : Value} {xs : List Value} (h : Own w B e v xs) : Sl w v xs := (Ow.of_owns h).sl
theorem Own.nil (w : World) (B : Nat) (e : TypeId) : Own w B e (.slice none 0 0) [] := World.ownsRow_nil w B e 1

theorem grown_trans {a b c : World} {row : Option Nat} (h : a.grownBy b row) (k : b.grownBy c row) : a.grownBy c row :=
  ⟨k.os.trans h.os, k.tape.trans h.tape, k.output.trans h.output, Nat.le_trans h.size k.size, fun i hi hne => (k.block i (Nat.lt_of_lt_of_le hi h.size) hne).trans (h.block i hi hne)⟩
/-- Writing to a block that was not there is no writing. -/
theorem grown_new {a b c : World} {row row' : Option Nat} (h : a.grownBy b row) (k : b.grownBy c row') (hr : ∀ i, row' = some i → row' ≠ row → a.heap.size ≤ i) : a.grownBy c row :=
  ⟨k.os.trans h.os, k.tape.trans h.tape, k.output.trans h.output, Nat.le_trans h.size k.size, fun i hi hne => (k.block i (Nat.lt_of_lt_of_le hi h.size) (by
      intro e
      by_cases e2 : row' = row
      · exact hne (e.trans e2)
      · have := hr i e.symm e2; omega)).trans (h.block i hi hne)⟩
theorem grown_alloc {w w' : World} {row : Option Nat} (h : w.grownBy w' row) (o : Obj) : w.grownBy (w'.alloc o) row := grown_trans h (World.grownBy_alloc w' o row)
theorem grown_refl (w : World) (row : Option Nat) : w.grownBy w row := ⟨rfl, rfl, rfl, Nat.le_refl _, fun _ _ _ => rfl⟩
theorem grown_setCell (w : World) (b o : Nat) (s : Option Nat) (v : Value) : w.grownBy (w.setCell ⟨b, o, s⟩ v) (some b) :=
  ⟨rfl, rfl, rfl, by simp, fun k _ hk => heap_setCell_other w ⟨b, o, s⟩ k v (fun e => hk (by simp [e]))⟩
theorem grown_drewN {w w' : World} {row : Option Nat} (h : w.grownBy w' row) (n : Nat) : w.grownBy (w'.drewN n) row := ⟨h.os, h.tape, h.output, h.size, h.block⟩
theorem grown_drew {w w' : World} {row : Option Nat} (h : w.grownBy w' row) : w.grownBy w'.drew row := ⟨h.os, h.tape, h.output, h.size, h.block⟩
theorem grown_below {w w' : World} (h : Below w.heap.size w w') (row : Option Nat) : w.grownBy w' row := ⟨h.os, h.tape, h.output, h.size, fun i hi _ => h.block i hi⟩
theorem below_grown {w w' : World} {row : Option Nat} {B : Nat} (h : w.grownBy w' row) (hB : B ≤ w.heap.size) (hr : ∀ i, row = some i → B ≤ i) : Below B w w' :=
  ⟨h.os, h.tape, h.output, h.size, fun i hi => h.block i (by omega) (by intro e; have := hr i e.symm; omega)⟩

theorem bel_dn {B : Nat} {a w : World} (h : Below B a w) (n : Nat) : Below B a (w.drewN n) := ⟨h.os, h.tape, h.output, h.size, h.block⟩

/-- A block of three cells that is not frozen. -/
theorem three_cells {w : World} {g : Nat} {x y z : Value} {t : TypeId} (h : w.heap[g]? = some (.cells #[x, y, z] t (0, 0))) :
    w.cell? ⟨g, 0, none⟩ = some x ∧ w.cell? ⟨g, 1, none⟩ = some y ∧ w.cell? ⟨g, 2, none⟩ = some z ∧ w.frozen? ⟨g, 0, none⟩ = false ∧ w.frozen? ⟨g, 1, none⟩ = false ∧ w.frozen? ⟨g, 2, none⟩ = false :=
  ⟨by rw [cell_of_row w g 0 _ _ _ h]; rfl, by rw [cell_of_row w g 1 _ _ _ h]; rfl, by rw [cell_of_row w g 2 _ _ _ h]; rfl, frozen_of_row w g 0 _ _ h, frozen_of_row w g 1 _ _ h, frozen_of_row w g 2 _ _ h⟩

/-- The cells of two blocks. -/
theorem six_cells {w : World} {g g' : Nat} {x y z x' y' z' : Value} {t t' : TypeId} (h : w.heap[g]? = some (.cells #[x, y, z] t (0, 0))) (k : w.heap[g']? = some (.cells #[x', y', z'] t' (0, 0))) :
    w.cell? ⟨g, 0, none⟩ = some x ∧ w.cell? ⟨g, 1, none⟩ = some y ∧ w.cell? ⟨g, 2, none⟩ = some z ∧ w.cell? ⟨g', 0, none⟩ = some x' ∧ w.cell? ⟨g', 1, none⟩ = some y' ∧ w.cell? ⟨g', 2, none⟩ = some z' :=
  ⟨(three_cells h).1, (three_cells h).2.1, (three_cells h).2.2.1, (three_cells k).1, (three_cells k).2.1, (three_cells k).2.2.1⟩
/-- Three stores into a block of three cells. -/
theorem put3 {w : World} {g : Nat} {x y z x' y' z' : Value} {t : TypeId} (h : w.heap[g]? = some (.cells #[x, y, z] t (0, 0))) :
    (((w.setCell ⟨g, 0, none⟩ x').setCell ⟨g, 1, none⟩ y').setCell ⟨g, 2, none⟩ z').heap[g]? = some (.cells #[x', y', z'] t (0, 0)) := by
  have h1 := heap_setCell_same w g 0 _ t x' h
  have h2 := heap_setCell_same _ g 1 _ t y' h1
  have h3 := heap_setCell_same _ g 2 _ t z' h2
  rw [h3]; rfl

/-- A list of bools does not lie in a block that holds an empty region. -/
theorem bl_put3 {w : World} {A : Nat} {s : Value} {l : List Bool} {t : TypeId} (h : Bl w s l) (hA : w.heap[A]? = some (.cells #[.int .i64 0, .int .i64 0, .slice none 0 0] t (0, 0))) (x y z : Value) :
    Bl (((w.setCell ⟨A, 0, none⟩ x).setCell ⟨A, 1, none⟩ y).setCell ⟨A, 2, none⟩ z) s l := by
  obtain ⟨a, cap, rfl, h1, h2, h3⟩ := h
  refine ⟨a, cap, rfl, h1, h2, ?_⟩
  rcases h3 with h3 | ⟨b, off, rfl, hl, hc⟩
  · exact .inl h3
  · by_cases h0 : l.map Value.bool = []
    · exact .inl h0
    have hpos : 0 < (l.map Value.bool).length := List.length_pos_iff.2 h0
    have hne : b ≠ A := by
      intro e; subst e
      have := hc 0 hpos
      rw [cell_of_row w b (off + 0) _ _ _ hA] at this
      simp only [List.getElem_map, Nat.add_zero] at this
      match off, this with
      | 0, this => simp at this
      | 1, this => simp at this
      | 2, this => simp at this
      | n + 3, this => simp at this
    refine .inr ⟨b, off, rfl, by simpa using hl, fun i hi => ?_⟩
    exact cell_far (cell_far (cell_far (hc i hi) hne) hne) hne

theorem reg_done {w w' : World} {A : Nat} {s : Value} {x y : Int} {l : List Bool} {t : TypeId} (hb : Below w.heap.size w w') (hs : Bl w' s l)
    (hA : w'.heap[A]? = some (.cells #[.int .i64 0, .int .i64 0, .slice none 0 0] t (0, 0))) (hwA : w.heap.size ≤ A) :
    RetR ⟨x, y, l⟩ w (.returned (.agg #[.int .i64 x, .int .i64 y, s])) (((w'.setCell ⟨A, 0, none⟩ (.int .i64 x)).setCell ⟨A, 1, none⟩ (.int .i64 y)).setCell ⟨A, 2, none⟩ s) :=
  ⟨_, rfl, ⟨_, rfl, bl_put3 hs hA _ _ _⟩, ((hb.setCell (by simpa using hwA) _).setCell (by simpa using hwA) _).setCell (by simpa using hwA) _⟩
theorem regB_done {w w' : World} {A : Nat} {s : Value} {x y : Int} {l : List Bool} {t : TypeId} {c : Bool} (hb : Below w.heap.size w w') (hs : Bl w' s l)
    (hA : w'.heap[A]? = some (.cells #[.int .i64 0, .int .i64 0, .slice none 0 0] t (0, 0))) (hwA : w.heap.size ≤ A) :
    RetRB (⟨x, y, l⟩, c) w (.returned (.tuple #[.agg #[.int .i64 x, .int .i64 y, s], .bool c])) (((w'.setCell ⟨A, 0, none⟩ (.int .i64 x)).setCell ⟨A, 1, none⟩ (.int .i64 y)).setCell ⟨A, 2, none⟩ s) :=
  ⟨_, rfl, ⟨_, rfl, bl_put3 hs hA _ _ _⟩, ((hb.setCell (by simpa using hwA) _).setCell (by simpa using hwA) _).setCell (by simpa using hwA) _⟩

end Domi

/- Two regions of one field, joined cell by cell. -/
set_option linter.unusedVariables false
namespace Domi
open Go Go.RowKit

def Reg.fits (a b : Reg) : Bool := a.valid && b.valid && (a.wide == b.wide) && (a.tall == b.tall)
def Reg.both (f : Bool → Bool → Bool) (a b : Reg) : Reg := ⟨a.wide, a.tall, (List.range a.cells.length).map fun k => f (a.cells.getD k false) (b.cells.getD k false)⟩
def combR (f : Bool → Bool → Bool) (a b : Reg) : Reg × Bool := if a.fits b && (Reg.both f a b).valid then (Reg.both f a b, true) else (Reg.zero, false)
theorem comb_yes {f : Bool → Bool → Bool} {a b : Reg} (h : a.fits b = true) (hv : (Reg.both f a b).valid = true) : combR f a b = (Reg.both f a b, true) := by simp [combR, h, hv]
theorem comb_no {f : Bool → Bool → Bool} {a b : Reg} (h : a.fits b = false) : combR f a b = (Reg.zero, false) := by simp [combR, h]
theorem comb_bad {f : Bool → Bool → Bool} {a b : Reg} (hv : (Reg.both f a b).valid = false) : combR f a b = (Reg.zero, false) := by simp [combR, hv]

/-- The boxes of both regions, and that of the result. -/
structure Pair (w : World) (t : TypeId) (a b : Reg) (aa ab : Option Addr) (ca cb : Nat) (wr : World) : Prop where
  g : Below w.heap.size w wr
  x : wr.heap[w.heap.size]? = some (.cells #[.int .i64 a.wide, .int .i64 a.tall, .slice aa a.cells.length ca] t (0, 0))
  y : wr.heap[w.heap.size + 1]? = some (.cells #[.int .i64 b.wide, .int .i64 b.tall, .slice ab b.cells.length cb] t (0, 0))
  z : wr.heap[w.heap.size + 2]? = some (.cells #[.int .i64 0, .int .i64 0, .slice none 0 0] t (0, 0))
theorem Pair.on {w : World} {t : TypeId} {a b : Reg} {aa ab : Option Addr} {ca cb : Nat} {w1 w2 : World} (h : Pair w t a b aa ab ca cb w1) (h2 : Below w1.heap.size w1 w2) : Pair w t a b aa ab ca cb w2 :=
  ⟨h.g.trans (h2.mono h.g.size), by rw [h2.block _ (lt_of_heap h.x)]; exact h.x, by rw [h2.block _ (lt_of_heap h.y)]; exact h.y, by rw [h2.block _ (lt_of_heap h.z)]; exact h.z⟩
theorem Pair.start (w : World) (t : TypeId) (a b : Reg) (aa ab : Option Addr) (ca cb : Nat) :
    Pair w t a b aa ab ca cb (((w.alloc (.cells #[.int .i64 a.wide, .int .i64 a.tall, .slice aa a.cells.length ca] t)).alloc (.cells #[.int .i64 b.wide, .int .i64 b.tall, .slice ab b.cells.length cb] t)).alloc (.cells #[.int .i64 0, .int .i64 0, .slice none 0 0] t)) := by
  refine ⟨by go_grown, ?_, ?_, ?_⟩
  · rw [heap_alloc_old _ _ (by simp; omega), heap_alloc_old _ _ (by simp)]; exact heap_alloc_new _ _
  · rw [heap_alloc_old _ _ (by simp)]; have := heap_alloc_new (w.alloc (.cells #[.int .i64 a.wide, .int .i64 a.tall, .slice aa a.cells.length ca] t)) (.cells #[.int .i64 b.wide, .int .i64 b.tall, .slice ab b.cells.length cb] t); simpa using this
  · have := heap_alloc_new ((w.alloc (.cells #[.int .i64 a.wide, .int .i64 a.tall, .slice aa a.cells.length ca] t)).alloc (.cells #[.int .i64 b.wide, .int .i64 b.tall, .slice ab b.cells.length cb] t)) (.cells #[.int .i64 0, .int .i64 0, .slice none 0 0] t); simpa using this
/-- The result, where there is none. -/
theorem Pair.none {w : World} {t : TypeId} {a b : Reg} {aa ab : Option Addr} {ca cb : Nat} {w1 : World} (h : Pair w t a b aa ab ca cb w1) :
    RetRB (Reg.zero, false) w (.returned (.tuple #[.agg #[.int .i64 0, .int .i64 0, .slice none 0 0], .bool false])) (((w1.setCell ⟨w.heap.size + 2, 0, none⟩ (.int .i64 0)).setCell ⟨w.heap.size + 2, 1, none⟩ (.int .i64 0)).setCell ⟨w.heap.size + 2, 2, none⟩ (.slice none 0 0)) :=
  regB_done (l := []) h.g (Sl.nil w1) h.z (by omega)

/-- At the head of the loop's round: so many cells are joined. -/
def CombS (w : World) (t e : TypeId) (a b : Reg) (aa ab : Option Addr) (ca cb : Nat) (f : Nat → Bool) (X g n : Nat) (i : Value) (wr : World) : Prop :=
  ∃ k : Nat, i = .int .i64 k ∧ k ≤ n ∧ Pair w t a b aa ab ca cb wr ∧ wr.heap[X]? = some (.cells #[.int .i64 a.wide, .int .i64 a.tall, .slice (some ⟨g, 0, none⟩) n n] t (0, 0)) ∧
    Own wr (w.heap.size + 3) e (.slice (some ⟨g, 0, none⟩) n n) ((fillL f false n k).map Value.bool)
theorem combS_next {w wr wx : World} {t e : TypeId} {a b : Reg} {aa ab : Option Addr} {ca cb : Nat} {f : Nat → Bool} {X g n k : Nat} (h : Pair w t a b aa ab ca cb wr)
    (hX : wr.heap[X]? = some (.cells #[.int .i64 a.wide, .int .i64 a.tall, .slice (some ⟨g, 0, none⟩) n n] t (0, 0)))
    (ho : Own wr (w.heap.size + 3) e (.slice (some ⟨g, 0, none⟩) n n) ((fillL f false n k).map Value.bool)) (hg : w.heap.size + 3 ≤ g) (hgX : g < X) (hk : k < n) (hx : Below wr.heap.size wr wx) :
    CombS w t e a b aa ab ca cb f X g n (.int .i64 ((k : Int) + 1)) (wx.setCell ⟨g, k, none⟩ (.bool (f k))) := by
  have h' := h.on hx
  refine ⟨k + 1, by simp, by omega, ⟨h'.g.setCell (by simp; omega) _, ?_, ?_, ?_⟩, ?_, ?_⟩
  · rw [heap_setCell_other _ _ _ _ (by simp; omega)]; exact h'.x
  · rw [heap_setCell_other _ _ _ _ (by simp; omega)]; exact h'.y
  · rw [heap_setCell_other _ _ _ _ (by simp; omega)]; exact h'.z
  · rw [heap_setCell_other _ _ _ _ (by simp; omega), hx.block _ (lt_of_heap hX)]; exact hX
  · have := (ho.below hx).stored k (.bool (f k))
    rw [← List.map_set, fillL_set] at this
    exact this

end Domi

/- Regions that draw their order: every operation up to number n gives one value in every world of a class, the others follow in one forced order. No program is named here. -/
set_option linter.unusedVariables false
namespace Domi
open Go Go.RowKit

section
variable {P : Program} {md : Region.Mode} {ops : Array Oper} {C : World → Prop}

/-- The first f steps, in whatever order: each is an operation before n, quiet in C; then L. -/
def Phase (P : Program) (md : Region.Mode) (ops : Array Oper) (C : World → Prop) (n : Nat) (L : Array Bool → Act → Prop) : Nat → Array Bool → Act → Prop
  | 0, listed, a => L listed a
  | f + 1, listed, a => Region.ready md ops listed ≠ [] ∧ ∀ i ∈ Region.ready md ops listed, i < n ∧ qOp P ops C i (Phase P md ops C n L f (listed.setIfInBounds i true)) a

/-- Phase leads to wpAny. -/
theorem Phase.run {n g : Nat} {L : Array Bool → Act → Prop} {R : Exit → Act → World → Prop} (hL : ∀ listed a w, C w → L listed a → wpAny P md ops R g listed a w) :
    ∀ (f : Nat) (listed : Array Bool) (a : Act) (w : World), C w → Phase P md ops C n L f listed a → wpAny P md ops R (f + g) listed a w := by
  intro f
  induction f with
  | zero => intro listed a w hw h; rw [Nat.zero_add]; exact hL _ _ _ hw h
  | succ f ih =>
    intro listed a w hw h
    rw [Nat.add_right_comm]
    exact ⟨fun e => absurd e h.1, fun i hi => wpOp_of_qOp hw (fun a' w' hw' hp => ih _ a' w' hw' hp) (h.2 i hi).2⟩

/-- An operation that is ready and apart from all that is open may be taken ahead. -/
theorem Phase.take {n i : Nat} {o : Oper} {v : Value} {L : Array Bool → Act → Prop} (ho : ops[i]? = some o) (hsel : ∀ (j : Nat) (o : Oper) cs b, ops[j]? = some o → o.op ≠ .select cs b)
    (hs : Region.sinkB md ops n = true) (hc : Region.chainB md ops n = true) (hn : n < ops.size) (hin : i < n)
    (hdone : ∀ listed a, L listed a → ∀ j ∈ Region.ready md ops listed, n ≤ j) :
    ∀ (f : Nat) (listed : Array Bool) (a : Act), HeadInv md ops n listed →
      (∀ j oj, ops[j]? = some oj → j ≠ i → listed.getD j true = false → (∀ e ∈ oj.after, Region.binds md e = true → e.on ≠ i) → o.apart ops oj = true) →
      i ∈ Region.ready md ops listed → YieldsIn P ops C o v a →
      Phase P md ops C n L f (listed.setIfInBounds i true) (a.put o.dst v) → Phase P md ops C n L (f + 1) listed a := by
  intro f
  induction f with
  | zero =>
    intro listed a inv _ hr hy H
    have hopen := (mem_ready.1 hr).1
    refine ⟨List.ne_nil_of_mem hr, fun j hj => ?_⟩
    have hjn : j < n := Nat.lt_of_not_le fun h => tail_waits hs hc hn inv _ i rfl hin hopen j h hj
    by_cases e : j = i
    · subst e; exact ⟨hjn, hy.qOp ho H⟩
    · have := hdone _ _ H j (ready_mono hj e); omega
  | succ f ih =>
    intro listed a inv hfree hr hy H
    have hopen := (mem_ready.1 hr).1
    refine ⟨List.ne_nil_of_mem hr, fun j hj => ?_⟩
    have hjn : j < n := Nat.lt_of_not_le fun h => tail_waits hs hc hn inv _ i rfl hin hopen j h hj
    refine ⟨hjn, ?_⟩
    by_cases e : j = i
    · subst e; exact hy.qOp ho H
    · obtain ⟨jopen, oj, hoj, hall⟩ := mem_ready.1 hj
      have hnot : ∀ x ∈ oj.after, Region.binds md x = true → x.on ≠ i := fun x hx hb hxi => by
        have := hall x hx hb
        rw [hxi, getD_both hopen] at this
        cases this
      have h2 := qOp_put hoj (hfree j oj hoj e jopen hnot) (fun cs b => hsel i o cs b ho) (fun cs b => hsel j oj cs b hoj) hy (H.2 j (ready_mono hj e)).2
      refine qOp_mono (fun a' h3 => ih (listed.setIfInBounds j true) a' (inv.set hj hjn) (fun k ok hk hki hun hno => ?_) (ready_mono hr (Ne.symm e)) h3.1 ?_) h2
      · refine hfree k ok hk hki ?_ hno
        by_cases hjk : j = k
        · subst hjk; exact jopen
        · rwa [getD_set_ne true hjk] at hun
      · rw [Array.setIfInBounds_comm _ _ e]; exact h3.2

/-- In the text's order. -/
theorem Phase.text {n g : Nat} {Lq : Act → Prop} (hsel : Region.noSelect ops = true) (hs : Region.sinkB md ops n = true) (hc : Region.chainB md ops n = true) (hn : n < ops.size) (l : List Oper) :
    ∀ (k : Nat) (listed : Array Bool) (a : Act), (∀ j, j < l.length → l[j]? = ops[k + j]?) → k + l.length = n → HeadInv md ops n listed →
    Region.lexHead md ops g l.length k listed = true → wpQuiet P ops C Lq l a → Phase P md ops C n (fun d a' => Region.seqB md ops g n d = true ∧ Lq a') l.length listed a := by
  induction l with
  | nil =>
    intro k listed a _ hk _ hB h
    obtain rfl : k = n := by simpa using hk
    exact ⟨by simpa [Region.lexHead] using hB, h⟩
  | cons o l ih =>
    intro k listed a hl hk inv hB h
    have h0 : ops[k]? = some o := by simpa using (hl 0 (by simp)).symm
    simp only [List.length_cons, Region.lexHead, Bool.and_eq_true] at hB
    have hkn : k < n := by simp only [List.length_cons] at hk; omega
    have hr : k ∈ Region.ready md ops listed := by simpa using hB.1.1
    have hq : qOp P ops C k (wpQuiet P ops C Lq l) a := by unfold qOp; simp only [h0]; exact h
    obtain ⟨v, hy, hK⟩ := yieldsIn_of_qOp h0 hq
    refine Phase.take h0 (Region.noSelect_spec hsel) hs hc hn hkn (fun d a' hL => seqB_ready hL.1) l.length listed a inv (Region.free_spec h0 hB.1.2) hr hy ?_
    exact ih (k + 1) _ _ (fun j hj => by have := hl (j + 1) (by simp; omega); simpa [Nat.add_assoc, Nat.add_comm 1 j] using this) (by simp only [List.length_cons] at hk; omega) (inv.set hr hkn) hB.2 hK

/-- The region: the first n operations quiet in C, in the text's order; the others one after the other, in any world of C. -/
theorem wp_region_phase {id : Nat} {Q : Exit → Act → World → Prop} {a : Act} {w : World} {l : List Oper} (n : Nat) (hm : P.follows .mixedOrders = true) (hB : Region.lexTailB .any l.toArray n = true) (hC : C w.drew)
    (h : wpQuiet P l.toArray C (fun a' => ∀ w', C w' → wpList P l.toArray Q (l.drop n) a' w') (l.take n) a) : (Code.region id l.toArray true).wp P Q a w := by
  simp only [Region.lexTailB, Bool.and_eq_true, decide_eq_true_eq] at hB
  obtain ⟨⟨⟨⟨hsel, hn⟩, hs⟩, hc⟩, hlex⟩ := hB
  have hn' : n < l.length := by simpa using hn
  have htl : (l.take n).length = n := by simp; omega
  have hdl : (l.drop n).length = l.toArray.size - n := by simp
  have inv0 : HeadInv .any l.toArray n (Array.replicate l.toArray.size false) :=
    ⟨by simp, fun j oj _ hl => (by rw [getD_replicate_false] at hl; cases hl), fun t _ ht => getD_in (by simpa using ht) (getD_replicate_false _ _)⟩
  have H := Phase.text (md := .any) (g := l.toArray.size - n) hsel hs hc hn (l.take n) 0 _ a (fun j hj => by
    have hj' : j < n := by rw [htl] at hj; exact hj
    simp [hj']) (by simpa using htl) inv0 (by rw [htl]; exact hlex) h
  refine wp_region_any hm ?_
  have := Phase.run (R := Q) (g := l.toArray.size - n) (fun listed a' w' hw hL => by
    have := wpAny_of_seq (md := .any) (Q' := Q) (l.drop n) n listed a' w' (fun j => by simp [List.getElem?_drop]) (by rw [hdl]; exact hL.1) (hL.2 w' hw)
    rwa [hdl] at this) _ _ _ _ hC H
  rw [htl, show n + (l.toArray.size - n) = l.toArray.size by omega] at this
  exact this
end

/-- A world in which nothing of w's has turned. -/
structure Later (w : World) where
  x : World
  h : Below w.heap.size w x
def Later.now (w : World) : Later w := ⟨w, Below.refl _ _⟩
instance later_is (w : World) : Nonempty (Later w) := ⟨Later.now w⟩
theorem Later.cell {w : World} (L : Later w) (b o : Nat) (h : b < w.heap.size) : L.x.cell? ⟨b, o, none⟩ = w.cell? ⟨b, o, none⟩ := L.h.cell (p := ⟨b, o, none⟩) h
theorem Later.frozen {w : World} (L : Later w) (b o : Nat) (h : b < w.heap.size) : L.x.frozen? ⟨b, o, none⟩ = w.frozen? ⟨b, o, none⟩ := L.h.frozen (p := ⟨b, o, none⟩) h
theorem Later.block {w : World} (L : Later w) {b : Nat} {o : Obj} (h : w.heap[b]? = some o) : L.x.heap[b]? = some o := by rw [L.h.block b (lt_of_heap h)]; exact h
def Later.on {w : World} (L : Later w) {y : World} (h : Below L.x.heap.size L.x y) : Later w := ⟨y, L.h.trans (h.mono L.h.size)⟩

section
variable {P : Program} {id : Nat} {Q : Exit → Act → World → Prop} {a : Act} {w : World} {l : List Oper}
theorem wp_region_later (n : Nat) (hm : P.follows .mixedOrders = true) (hB : Region.lexTailB .any l.toArray n = true)
    (h : wpQuiet P l.toArray (fun x => ∃ L : Later w, x = L.x) (fun a' => ∀ L : Later w, wpList P l.toArray Q (l.drop n) a' L.x) (l.take n) a) : (Code.region id l.toArray true).wp P Q a w := by
  refine wp_region_phase (C := fun x => ∃ L : Later w, x = L.x) n hm hB ⟨⟨w.drew, (Below.refl _ _).drew⟩, rfl⟩ ?_
  have e : (fun a' : Act => ∀ w', (∃ L : Later w, w' = L.x) → wpList P l.toArray Q (l.drop n) a' w') = (fun a' : Act => ∀ L : Later w, wpList P l.toArray Q (l.drop n) a' L.x) := by
    funext a'; exact propext ⟨fun h L => h _ ⟨L, rfl⟩, fun h w' ⟨L, hL⟩ => hL ▸ h L⟩
  rw [e]; exact h
theorem wp_region_later_all (hm : P.follows .mixedOrders = true) (hB : Region.lexB .any l.toArray = true)
    (h : wpQuiet P l.toArray (fun x => ∃ L : Later w, x = L.x) (fun a' => ∀ L : Later w, Q .normal a' L.x) l a) : (Code.region id l.toArray true).wp P Q a w := by
  refine wp_region_quiet (C := fun x => ∃ L : Later w, x = L.x) hm hB ⟨⟨w.drew, (Below.refl _ _).drew⟩, rfl⟩ ?_
  have e : (fun a' : Act => ∀ w', (∃ L : Later w, w' = L.x) → Q .normal a' w') = (fun a' : Act => ∀ L : Later w, Q .normal a' L.x) := by
    funext a'; exact propext ⟨fun h L => h _ ⟨L, rfl⟩, fun h w' ⟨L, hL⟩ => hL ▸ h L⟩
  rw [e]; exact h
/-- A callee that makes memory and gives one value. -/
theorem calls_later {f : FuncId} {args : Array Value} {v : Value} (L : Later w) (h : Calls P f args L.x fun e w' => e = .returned v ∧ Below L.x.heap.size L.x w') :
    Calls P f args L.x fun e w' => e = .returned v ∧ ∃ K : Later w, w' = K.x :=
  h.mono fun _ w' ⟨he, hb⟩ => ⟨he, L.on hb, rfl⟩
end

end Domi

/- Two regions of one field, joined by appends. -/
set_option linter.unusedVariables false
namespace Domi
open Go Go.RowKit

section
variable {w wr w5 : World} {t e : TypeId} {a b : Reg} {aa ab : Option Addr} {ca cb : Nat} {f : Nat → Bool} {X n k : Nat} {v u : Value} {g cap : Nat} {c : Bool} {o : Obj} {xs : List Value}
theorem Pair.onB {B : Nat} (h : Pair w t a b aa ab ca cb wr) (hB : w.heap.size + 2 < B) (h2 : Below B wr w5) : Pair w t a b aa ab ca cb w5 :=
  ⟨h.g.trans (h2.mono (by omega)), by rw [h2.block _ (by omega)]; exact h.x, by rw [h2.block _ (by omega)]; exact h.y, by rw [h2.block _ (by omega)]; exact h.z⟩
/-- Behind an append, all below it is as it was. -/
theorem app_below (ho : Own wr (X + 1) e v xs) (hXl : X < wr.heap.size) (A5 : App (wr.drew.alloc o) (X + 1) e v xs u g cap w5) : Below (X + 1) wr w5 :=
  Below.trans (((Below.refl _ _).drew).alloc (by show X + 1 ≤ wr.heap.size; omega) o) (A5.below (Own.alloc (w := wr.drew) ho o) (by have : X < wr.drew.heap.size := hXl; simp; omega))

def SpecS (w : World) (t e : TypeId) (a b : Reg) (aa ab : Option Addr) (ca cb : Nat) (f : Nat → Bool) (X n : Nat) (i : Value) (wr : World) : Prop :=
  ∃ (k : Nat) (va : Option Addr) (vc : Nat), i = .int .i64 k ∧ k ≤ n ∧ Pair w t a b aa ab ca cb wr ∧ wr.heap[X]? = some (.cells #[.int .i64 a.wide, .int .i64 a.tall, .slice va k vc] t (0, 0)) ∧
    Own wr (X + 1) e (.slice va k vc) (((List.range k).map f).map Value.bool)
theorem specS_app (ho : Own wr (X + 1) e v xs) (hX : wr.heap[X]? = some (.cells #[.int .i64 a.wide, .int .i64 a.tall, v] t (0, 0)))
    (A5 : App (wr.drew.alloc o) (X + 1) e v xs u g cap w5) : w5.heap[X]? = some (.cells #[.int .i64 a.wide, .int .i64 a.tall, v] t (0, 0)) := by
  rw [(app_below ho (lt_of_heap hX) A5).block X (by omega)]; exact hX
theorem specS_next {va : Option Addr} {vc : Nat} (h : Pair w t a b aa ab ca cb wr) (hX : wr.heap[X]? = some (.cells #[.int .i64 a.wide, .int .i64 a.tall, .slice va k vc] t (0, 0)))
    (ho : Own wr (X + 1) e (.slice va k vc) (((List.range k).map f).map Value.bool)) (hX2 : w.heap.size + 2 < X)
    (A5 : App (wr.drew.alloc o) (X + 1) e (.slice va k vc) (((List.range k).map f).map Value.bool) (.bool (f k)) g cap w5) (hk : k < n) :
    SpecS w t e a b aa ab ca cb f X n (.int .i64 ((k : Int) + 1)) (w5.setCell ⟨X, 2, none⟩ (.slice (some ⟨g, 0, none⟩) (k + 1) cap)) := by
  have B5 := app_below ho (lt_of_heap hX) A5
  have E5 := specS_app ho hX A5
  have P5 := h.onB (by omega) B5
  refine ⟨k + 1, some ⟨g, 0, none⟩, cap, by simp, by omega, ⟨P5.g.setCell (by simp; omega) _, ?_, ?_, ?_⟩, ?_, ?_⟩
  · rw [heap_setCell_other _ _ _ _ (by simp; omega)]; exact P5.x
  · rw [heap_setCell_other _ _ _ _ (by simp; omega)]; exact P5.y
  · rw [heap_setCell_other _ _ _ _ (by simp; omega)]; exact P5.z
  · rw [heap_setCell_same w5 X 2 _ _ _ E5]; rfl
  · have := A5.own
    simp only [List.length_map, List.length_range] at this
    have h2 := Own.setCell (b := X) (o := 2) (s := none) this (by omega) (.slice (some ⟨g, 0, none⟩) (k + 1) cap)
    rw [List.range_succ, List.map_append, List.map_append]
    exact h2
/-- The same, in the world u itself. -/
theorem specS_put {va : Option Addr} {vc : Nat} {uu : World} (h : Pair w t a b aa ab ca cb uu) (hX : uu.heap[X]? = some (.cells #[.int .i64 a.wide, .int .i64 a.tall, .slice va k vc] t (0, 0)))
    (ho : Own uu (X + 1) e (.slice va k vc) (((List.range k).map f).map Value.bool)) (hX2 : w.heap.size + 2 < X)
    (A5 : App uu (X + 1) e (.slice va k vc) (((List.range k).map f).map Value.bool) (.bool (f k)) g cap w5) (hk : k < n) :
    SpecS w t e a b aa ab ca cb f X n (.int .i64 ((k : Int) + 1)) (w5.setCell ⟨X, 2, none⟩ (.slice (some ⟨g, 0, none⟩) (k + 1) cap)) := by
  have B5 := A5.below ho (by have := lt_of_heap hX; omega)
  have E5 : w5.heap[X]? = some (.cells #[.int .i64 a.wide, .int .i64 a.tall, .slice va k vc] t (0, 0)) := by rw [B5.block X (by omega)]; exact hX
  have P5 := h.onB (by omega) B5
  refine ⟨k + 1, some ⟨g, 0, none⟩, cap, by simp, by omega, ⟨P5.g.setCell (by simp; omega) _, ?_, ?_, ?_⟩, ?_, ?_⟩
  · rw [heap_setCell_other _ _ _ _ (by simp; omega)]; exact P5.x
  · rw [heap_setCell_other _ _ _ _ (by simp; omega)]; exact P5.y
  · rw [heap_setCell_other _ _ _ _ (by simp; omega)]; exact P5.z
  · rw [heap_setCell_same w5 X 2 _ _ _ E5]; rfl
  · have := A5.own
    simp only [List.length_map, List.length_range] at this
    have h2 := Own.setCell (b := X) (o := 2) (s := none) this (by omega) (.slice (some ⟨g, 0, none⟩) (k + 1) cap)
    rw [List.range_succ, List.map_append, List.map_append]
    exact h2
theorem app_at {v : Value} {uu : World} (hX : uu.heap[X]? = some (.cells #[.int .i64 a.wide, .int .i64 a.tall, v] t (0, 0))) (ho : Own uu (X + 1) e v xs) (A5 : App uu (X + 1) e v xs u g cap w5) :
    w5.heap[X]? = some (.cells #[.int .i64 a.wide, .int .i64 a.tall, v] t (0, 0)) := by
  rw [(A5.below ho (by have := lt_of_heap hX; omega)).block X (by omega)]; exact hX
end

/-- All that was there is so behind a later world's new block. -/
theorem below_after {x : World} {o : Obj} {B : Nat} (V : Later (x.alloc o)) (hB : B ≤ x.heap.size) : Below B x V.x :=
  ((Below.refl B x).alloc hB o).trans (V.h.mono (by simp; omega))
theorem cnt_meet (l m : List Bool) (n : Nat) : cnt ((List.range n).map fun k => l.getD k false && m.getD k false) ≤ cnt ((List.range n).map fun k => l.getD k false) := by
  induction n with
  | zero => simp
  | succ n ih =>
    rw [List.range_succ, List.map_append, List.map_append]
    simp only [List.map_cons, List.map_nil]
    rw [cnt_snoc, cnt_snoc]
    generalize cnt ((List.range n).map fun k => l.getD k false && m.getD k false) = A at *
    generalize cnt ((List.range n).map fun k => l.getD k false) = B at *
    cases l.getD n false <;> cases m.getD n false <;> simp <;> omega
theorem range_getD (l : List Bool) : (List.range l.length).map (fun k => l.getD k false) = l := by
  apply List.ext_getElem
  · simp
  · intro i h1 h2
    simp [List.getD_eq_getElem?_getD, h2]
theorem fits_iff {a b : Reg} : a.fits b = true ↔ a.valid = true ∧ b.valid = true ∧ a.wide = b.wide ∧ a.tall = b.tall := by
  simp [Reg.fits, and_assoc]
theorem meet_valid {a b : Reg} (h : a.fits b = true) : (Reg.both (fun p q => p && q) a b).valid = true := by
  obtain ⟨h1, h2, h3, h4⟩ := fits_iff.1 h
  obtain ⟨v1, v2, v3, v4⟩ := Reg.valid_iff.1 h1
  refine Reg.valid_iff.2 ⟨v1, v2, by simpa [Reg.both] using v3, ?_⟩
  have := cnt_meet a.cells b.cells a.cells.length
  rw [range_getD] at this
  exact Int.le_trans this v4

end Domi

/- Plain laws of meet and join. -/
set_option linter.unusedVariables false
namespace Domi
open Go Go.RowKit

def meetR (a b : Reg) : Reg × Bool := combR (fun p q => p && q) a b
def joinR (a b : Reg) : Reg × Bool := combR (fun p q => p || q) a b
theorem comb_cases (f : Bool → Bool → Bool) (a b : Reg) : (combR f a b = (Reg.both f a b, true) ∧ a.fits b = true ∧ (Reg.both f a b).valid = true) ∨ combR f a b = (Reg.zero, false) := by
  unfold combR
  by_cases h : (a.fits b && (Reg.both f a b).valid) = true
  · rw [if_pos h]
    simp at h
    exact .inl ⟨rfl, h⟩
  · rw [if_neg h]; exact .inr rfl
theorem fits_len {a b : Reg} (h : a.fits b = true) : a.cells.length = b.cells.length := by
  obtain ⟨h1, h2, h3, h4⟩ := fits_iff.1 h
  obtain ⟨_, _, v3, _⟩ := Reg.valid_iff.1 h1
  obtain ⟨_, _, u3, _⟩ := Reg.valid_iff.1 h2
  rw [h3, h4] at v3; omega
theorem both_len (f : Bool → Bool → Bool) (a b : Reg) : (Reg.both f a b).cells.length = a.cells.length := by simp [Reg.both]
theorem both_get (f : Bool → Bool → Bool) (a b : Reg) (k : Nat) (hk : k < a.cells.length) : (Reg.both f a b).cells.getD k false = f (a.cells.getD k false) (b.cells.getD k false) := by
  simp [Reg.both, List.getD_eq_getElem?_getD, hk]
theorem reg_ext {a b : Reg} (h1 : a.wide = b.wide) (h2 : a.tall = b.tall) (h3 : a.cells.length = b.cells.length) (h4 : ∀ k, k < a.cells.length → a.cells.getD k false = b.cells.getD k false) : a = b := by
  cases a; cases b
  simp only at h1 h2 h3 h4
  subst h1; subst h2
  congr 1
  apply List.ext_getElem h3
  intro i hi hj
  have := h4 i hi
  rwa [← get_at _ _ _ hi, ← get_at _ _ _ hj] at this
theorem meet_comm {a b : Reg} (h : (meetR a b).2 = true) : (meetR b a).1 = (meetR a b).1 := by
  rcases comb_cases (fun p q => p && q) a b with ⟨h1, h2, h3⟩ | h1
  · obtain ⟨f1, f2, f3, f4⟩ := fits_iff.1 h2
    have f : b.fits a = true := fits_iff.2 ⟨f2, f1, f3.symm, f4.symm⟩
    unfold meetR
    rw [h1, comb_yes f (meet_valid f)]
    refine reg_ext f3.symm f4.symm ?_ fun k hk => ?_
    · rw [both_len, both_len]; exact (fits_len h2).symm
    · rw [both_len] at hk
      rw [both_get _ _ _ _ hk, both_get _ _ _ _ (by rw [fits_len h2]; exact hk), Bool.and_comm]
  · unfold meetR at h; rw [h1] at h; cases h
theorem meet_self {a b : Reg} (h : (meetR a b).2 = true) : (meetR a a).1 = a := by
  rcases comb_cases (fun p q => p && q) a b with ⟨h1, h2, h3⟩ | h1
  · obtain ⟨f1, f2, f3, f4⟩ := fits_iff.1 h2
    have f : a.fits a = true := fits_iff.2 ⟨f1, f1, rfl, rfl⟩
    unfold meetR
    rw [comb_yes f (meet_valid f)]
    refine reg_ext rfl rfl (both_len _ _ _) fun k hk => ?_
    rw [both_len] at hk
    rw [both_get _ _ _ _ hk, Bool.and_self]
  · unfold meetR at h; rw [h1] at h; cases h
theorem meet_no {a b : Reg} (h : (meetR a b).2 = false) : (meetR a b).1.wide = 0 := by
  rcases comb_cases (fun p q => p && q) a b with ⟨h1, _⟩ | h1
  · unfold meetR at h; rw [h1] at h; cases h
  · unfold meetR; rw [h1]; rfl
theorem join_no {a b : Reg} (h : (joinR a b).2 = false) : (joinR a b).1.wide = 0 := by
  rcases comb_cases (fun p q => p || q) a b with ⟨h1, _⟩ | h1
  · unfold joinR at h; rw [h1] at h; cases h
  · unfold joinR; rw [h1]; rfl
theorem meet_get {a b : Reg} (h : (meetR a b).2 = true) : a.valid = true ∧ b.valid = true ∧ (meetR a b).1.cells.length = a.cells.length ∧ b.cells.length = a.cells.length ∧ ∀ k, k < a.cells.length → (meetR a b).1.cells.getD k false = (a.cells.getD k false && b.cells.getD k false) := by
  rcases comb_cases (fun p q => p && q) a b with ⟨h1, h2, h3⟩ | h1
  · obtain ⟨f1, f2, f3, f4⟩ := fits_iff.1 h2
    unfold meetR
    rw [h1]
    exact ⟨f1, f2, both_len _ _ _, (fits_len h2).symm, fun k hk => both_get _ _ _ _ hk⟩
  · unfold meetR at h; rw [h1] at h; cases h

theorem cnt_both (l m : List Bool) (n : Nat) : cnt ((List.range n).map fun k => l.getD k false || m.getD k false) + cnt ((List.range n).map fun k => l.getD k false && m.getD k false)
    = cnt ((List.range n).map fun k => l.getD k false) + cnt ((List.range n).map fun k => m.getD k false) := by
  induction n with
  | zero => simp
  | succ n ih =>
    rw [List.range_succ, List.map_append, List.map_append, List.map_append, List.map_append]
    simp only [List.map_cons, List.map_nil]
    rw [cnt_snoc, cnt_snoc, cnt_snoc, cnt_snoc]
    generalize cnt ((List.range n).map fun k => l.getD k false && m.getD k false) = A at *
    generalize cnt ((List.range n).map fun k => l.getD k false || m.getD k false) = B at *
    generalize cnt ((List.range n).map fun k => l.getD k false) = C at *
    generalize cnt ((List.range n).map fun k => m.getD k false) = D at *
    cases l.getD n false <;> cases m.getD n false <;> simp <;> omega

theorem join_meet {a b : Reg} (h : (joinR a b).2 = true) : (meetR a b).2 = true ∧ (joinR a b).1.many + (meetR a b).1.many = a.many + b.many ∧ (joinR a (meetR a b).1).1 = a := by
  rcases comb_cases (fun p q => p || q) a b with ⟨h1, h2, h3⟩ | h1
  · obtain ⟨f1, f2, f3, f4⟩ := fits_iff.1 h2
    have hm := comb_yes h2 (meet_valid h2)
    unfold joinR meetR
    rw [h1, hm]
    refine ⟨rfl, ?_, ?_⟩
    · simp only
      rw [Reg.many_yes h3, Reg.many_yes (meet_valid h2), Reg.many_yes f1, Reg.many_yes f2]
      have := cnt_both a.cells b.cells a.cells.length
      rw [range_getD] at this
      have e : (List.range a.cells.length).map (fun k => b.cells.getD k false) = b.cells := by rw [fits_len h2]; exact range_getD _
      rw [e] at this
      exact this
    · simp only
      have f : a.fits (Reg.both (fun p q => p && q) a b) = true := fits_iff.2 ⟨f1, meet_valid h2, rfl, rfl⟩
      have e : Reg.both (fun p q => p || q) a (Reg.both (fun p q => p && q) a b) = a := by
        refine reg_ext rfl rfl (both_len _ _ _) fun k hk => ?_
        rw [both_len] at hk
        rw [both_get _ _ _ _ hk, both_get _ _ _ _ hk]
        cases a.cells.getD k false <;> simp
      rw [comb_yes f (by rw [e]; exact f1), e]
  · unfold joinR at h; rw [h1] at h; cases h

end Domi

/- Cells by column and row, and the cell in a direction: plain part. -/
set_option linter.unusedVariables false
namespace Domi
open Go Go.RowKit

/-- Does the cell in column x and row y belong to the region? -/
def Reg.at_ (r : Reg) (x y : Int) : Bool := inB x 0 (r.wide - 1) && inB y 0 (r.tall - 1) && r.g x y
/-- The cell in a direction, or -1. -/
def stepI (r : Reg) (c way : Int) : Int :=
  if way = 1 then (if c % r.wide < r.wide - 1 then c + 1 else -1)
  else if way = 2 then (if c / r.wide < r.tall - 1 then c + r.wide else -1)
  else if way = 3 then (if 0 < c % r.wide then c - 1 else -1)
  else if way = 4 then (if 0 < c / r.wide then c - r.wide else -1) else -1

theorem cell_xy {r : Reg} {c : Int} (hw : 1 ≤ r.wide) (h0 : 0 ≤ c) (h : c < r.wide * r.tall) : 0 ≤ c % r.wide ∧ c % r.wide < r.wide ∧ 0 ≤ c / r.wide ∧ c / r.wide < r.tall ∧ c / r.wide * r.wide + c % r.wide = c := by
  have := div_lt_of hw h
  exact ⟨Int.emod_nonneg c (by omega), Int.emod_lt_of_pos c (by omega), Int.ediv_nonneg h0 (by omega), by omega, of_xy (by omega)⟩

theorem stepI_in {r : Reg} {c way : Int} (hw : 1 ≤ r.wide) (h0 : 0 ≤ c) (h : c < r.wide * r.tall) : stepI r c way = -1 ∨ (0 ≤ stepI r c way ∧ stepI r c way < r.wide * r.tall) := by
  obtain ⟨a1, a2, a3, a4, a5⟩ := cell_xy hw h0 h
  unfold stepI
  split
  · split
    · right
      have := xy_lt (w := r.wide) (t := r.tall) (x := c % r.wide + 1) (y := c / r.wide) (by omega) (by omega) a3 a4
      omega
    · exact .inl rfl
  · split
    · split
      · right
        have := xy_lt (w := r.wide) (t := r.tall) (x := c % r.wide) (y := c / r.wide + 1) (by omega) (by omega) (by omega) (by omega)
        rw [Int.add_mul] at this
        omega
      · exact .inl rfl
    · split
      · split
        · right
          have := xy_lt (w := r.wide) (t := r.tall) (x := c % r.wide - 1) (y := c / r.wide) (by omega) (by omega) a3 a4
          omega
        · exact .inl rfl
      · split
        · split
          · right
            have := xy_lt (w := r.wide) (t := r.tall) (x := c % r.wide) (y := c / r.wide - 1) (by omega) (by omega) (by omega) (by omega)
            rw [Int.sub_mul] at this
            omega
          · exact .inl rfl
        · exact .inl rfl

/-- One step back from there leads here. -/
theorem stepI_back {r : Reg} {c way : Int} (hw : 1 ≤ r.wide) (h0 : 0 ≤ c) (h : c < r.wide * r.tall) (h1 : 1 ≤ way) (h4 : way ≤ 4) (hs : 0 ≤ stepI r c way) : stepI r (stepI r c way) ((way + 1) % 4 + 1) = c := by
  obtain ⟨a1, a2, a3, a4, a5⟩ := cell_xy hw h0 h
  have hway : way = 1 ∨ way = 2 ∨ way = 3 ∨ way = 4 := by omega
  rcases hway with rfl | rfl | rfl | rfl
  · unfold stepI at hs ⊢
    simp only [if_true] at hs ⊢
    split at hs
    · rename_i hx
      have := xy_of (w := r.wide) (x := c % r.wide + 1) (y := c / r.wide) (by omega) (by omega)
      rw [show c / r.wide * r.wide + (c % r.wide + 1) = c + 1 by omega] at this
      simp only [hx, if_true]
      rw [if_neg (by decide), if_neg (by decide), if_pos (by decide), this.1, if_pos (by omega)]; omega
    · omega
  · unfold stepI at hs ⊢
    simp only [show (2 : Int) = 1 ↔ False from by decide, if_false, if_true] at hs ⊢
    split at hs
    · rename_i hx
      have := xy_of (w := r.wide) (x := c % r.wide) (y := c / r.wide + 1) (by omega) (by omega)
      rw [show (c / r.wide + 1) * r.wide + c % r.wide = c + r.wide by rw [Int.add_mul]; omega] at this
      simp only [hx, if_true]
      rw [if_neg (by decide), if_neg (by decide), if_neg (by decide), if_pos (by decide), this.2, if_pos (by omega)]; omega
    · omega
  · unfold stepI at hs ⊢
    simp only [show (3 : Int) = 1 ↔ False from by decide, show (3 : Int) = 2 ↔ False from by decide, if_false, if_true] at hs ⊢
    split at hs
    · rename_i hx
      have := xy_of (w := r.wide) (x := c % r.wide - 1) (y := c / r.wide) (by omega) (by omega)
      rw [show c / r.wide * r.wide + (c % r.wide - 1) = c - 1 by omega] at this
      simp only [hx, if_true]
      rw [if_pos (by decide), this.1, if_pos (by omega)]; omega
    · omega
  · unfold stepI at hs ⊢
    simp only [show (4 : Int) = 1 ↔ False from by decide, show (4 : Int) = 2 ↔ False from by decide, show (4 : Int) = 3 ↔ False from by decide, if_false, if_true] at hs ⊢
    split at hs
    · rename_i hx
      have := xy_of (w := r.wide) (x := c % r.wide) (y := c / r.wide - 1) (by omega) (by omega)
      rw [show (c / r.wide - 1) * r.wide + c % r.wide = c - r.wide by rw [Int.sub_mul]; omega] at this
      simp only [hx, if_true]
      rw [if_neg (by decide), if_pos (by decide), this.2, if_pos (by omega)]; omega
    · omega

/-- By column and row: one step. -/
def dX (way : Int) : Int := if way = 1 then 1 else if way = 3 then -1 else 0
def dY (way : Int) : Int := if way = 2 then 1 else if way = 4 then -1 else 0
theorem stepI_xy {r : Reg} {c way : Int} (hw : 1 ≤ r.wide) (h0 : 0 ≤ c) (h : c < r.wide * r.tall) (h1 : 1 ≤ way) (h4 : way ≤ 4) :
    stepI r c way = if inB (c % r.wide + dX way) 0 (r.wide - 1) && inB (c / r.wide + dY way) 0 (r.tall - 1) then (c / r.wide + dY way) * r.wide + (c % r.wide + dX way) else -1 := by
  obtain ⟨a1, a2, a3, a4, a5⟩ := cell_xy hw h0 h
  have hway : way = 1 ∨ way = 2 ∨ way = 3 ∨ way = 4 := by omega
  rcases hway with rfl | rfl | rfl | rfl
  · simp only [stepI, dX, dY, if_true, show (1 : Int) = 2 ↔ False from by decide, show (1 : Int) = 4 ↔ False from by decide, if_false, Int.add_zero]
    by_cases hx : c % r.wide < r.wide - 1
    · rw [if_pos hx, if_pos (by simp [inB]; omega)]; omega
    · rw [if_neg hx, if_neg (by simp [inB]; omega)]
  · simp only [stepI, dX, dY, if_true, show (2 : Int) = 1 ↔ False from by decide, show (2 : Int) = 3 ↔ False from by decide, if_false, Int.add_zero]
    by_cases hx : c / r.wide < r.tall - 1
    · rw [if_pos hx, if_pos (by simp [inB]; omega), Int.add_mul]; omega
    · rw [if_neg hx, if_neg (by simp [inB]; omega)]
  · simp only [stepI, dX, dY, if_true, show (3 : Int) = 1 ↔ False from by decide, show (3 : Int) = 2 ↔ False from by decide, show (3 : Int) = 4 ↔ False from by decide, if_false, Int.add_zero]
    by_cases hx : 0 < c % r.wide
    · rw [if_pos hx, if_pos (by simp [inB]; omega)]; omega
    · rw [if_neg hx, if_neg (by simp [inB]; omega)]
  · simp only [stepI, dX, dY, if_true, show (4 : Int) = 1 ↔ False from by decide, show (4 : Int) = 2 ↔ False from by decide, show (4 : Int) = 3 ↔ False from by decide, if_false, Int.add_zero]
    by_cases hx : 0 < c / r.wide
    · rw [if_pos hx, if_pos (by simp [inB]; omega), Int.add_mul]; omega
    · rw [if_neg hx, if_neg (by simp [inB]; omega)]
theorem stepI_other {r : Reg} {c way : Int} (h : way < 1 ∨ 4 < way) : stepI r c way = -1 := by
  unfold stepI
  rw [if_neg (by omega), if_neg (by omega), if_neg (by omega), if_neg (by omega)]
theorem at_cell {r : Reg} {x y : Int} (hx : inB x 0 (r.wide - 1) = true) (hy : inB y 0 (r.tall - 1) = true) : r.at_ x y = r.cells.getD (y * r.wide + x).toNat false := by
  simp [Reg.at_, hx, hy, Reg.g]

end Domi

/- Cells that hang together: the least one of each part, and how relaxation finds it. Plain. -/
set_option linter.unusedVariables false
namespace Domi

/-- b is reached from a over neighbours. -/
inductive Conn (E : Nat → Nat → Prop) : Nat → Nat → Prop
  | refl (a : Nat) : Conn E a a
  | step {a b c : Nat} : Conn E a b → E b c → Conn E a c

section
variable {E : Nat → Nat → Prop}
theorem Conn.one {a b : Nat} (h : E a b) : Conn E a b := .step (.refl a) h
theorem Conn.trans {a b c : Nat} (h : Conn E a b) (g : Conn E b c) : Conn E a c := by
  induction g with
  | refl => exact h
  | step _ e ih => exact .step ih e
theorem Conn.symm (hs : ∀ a b, E a b → E b a) {a b : Nat} (h : Conn E a b) : Conn E b a := by
  induction h with
  | refl => exact .refl _
  | step _ e ih => exact (Conn.one (hs _ _ e)).trans ih
theorem Conn.mono {F : Nat → Nat → Prop} (hs : ∀ a b, E a b → F a b) {a b : Nat} (h : Conn E a b) : Conn F a b := by
  induction h with
  | refl => exact .refl _
  | step _ e ih => exact .step ih (hs _ _ e)
/-- A place that is closed under neighbours is not left. -/
theorem Conn.stays {Q : Nat → Prop} (hQ : ∀ a b, E a b → Q a → Q b) {a b : Nat} (h : Conn E a b) (ha : Q a) : Q b := by
  induction h with
  | refl => exact ha
  | step _ e ih => exact hQ _ _ e ih

theorem exists_least (Q : Nat → Prop) (k : Nat) (hk : Q k) : ∃ m, Q m ∧ ∀ j, Q j → m ≤ j := by
  induction k using Nat.strongRecOn with
  | _ k ih =>
    by_cases h : ∃ j, j < k ∧ Q j
    · obtain ⟨j, hj, hQ⟩ := h
      exact ih j hj hQ
    · refine ⟨k, hk, fun j hj => ?_⟩
      rcases Nat.lt_or_ge j k with hl | hl
      · exact absurd ⟨j, hl, hj⟩ h
      · exact hl
variable (E) in
/-- The least cell that is reached from k. -/
noncomputable def least (k : Nat) : Nat := Classical.choose (exists_least (Conn E k) k (.refl k))
variable (E) in
theorem least_conn (k : Nat) : Conn E k (least E k) := (Classical.choose_spec (exists_least (Conn E k) k (.refl k))).1
theorem least_le {k j : Nat} (h : Conn E k j) : least E k ≤ j := (Classical.choose_spec (exists_least (Conn E k) k (.refl k))).2 j h
theorem least_self (k : Nat) : least E k ≤ k := least_le (.refl k)
theorem least_eq (hs : ∀ a b, E a b → E b a) {k j : Nat} (h : Conn E k j) : least E k = least E j :=
  Nat.le_antisymm (least_le (h.trans (least_conn E j))) (least_le ((h.symm hs).trans (least_conn E k)))
theorem least_idem (hs : ∀ a b, E a b → E b a) (k : Nat) : least E (least E k) = least E k := (least_eq hs (least_conn E k)).symm
theorem least_is {k m : Nat} (h : Conn E k m) (hm : ∀ j, Conn E k j → m ≤ j) : least E k = m := Nat.le_antisymm (least_le h) (hm _ (least_conn E k))
theorem conn_iff (hs : ∀ a b, E a b → E b a) {k j : Nat} : Conn E k j ↔ least E k = least E j :=
  ⟨least_eq hs, fun h => (least_conn E k).trans (h ▸ (least_conn E j).symm hs)⟩

/-! ### counting -/
open Classical in
/-- How many numbers less than n have a property. -/
noncomputable def num (n : Nat) (Q : Nat → Prop) : Nat := ((List.range n).filter fun k => decide (Q k)).length
theorem num_zero (Q : Nat → Prop) : num 0 Q = 0 := rfl
theorem num_succ (n : Nat) (Q : Nat → Prop) : num (n + 1) Q = num n Q + (open Classical in if Q n then 1 else 0) := by
  unfold num
  rw [List.range_succ, List.filter_append]
  simp only [List.filter_cons, List.filter_nil, List.length_append]
  by_cases h : Q n <;> simp [h]
theorem num_le (n : Nat) (Q : Nat → Prop) : num n Q ≤ n := by
  induction n with
  | zero => simp [num_zero]
  | succ n ih => rw [num_succ]; split <;> omega
theorem num_mono {n : Nat} {Q R : Nat → Prop} (h : ∀ k, k < n → Q k → R k) : num n Q ≤ num n R := by
  induction n with
  | zero => simp [num_zero]
  | succ n ih =>
    rw [num_succ, num_succ]
    have := ih fun k hk => h k (by omega)
    by_cases hq : Q n
    · rw [if_pos hq, if_pos (h n (by omega) hq)]; omega
    · rw [if_neg hq]; omega
theorem num_lt {n : Nat} {Q R : Nat → Prop} (h : ∀ k, k < n → Q k → R k) {j : Nat} (hj : j < n) (hq : ¬ Q j) (hr : R j) : num n Q < num n R := by
  induction n with
  | zero => omega
  | succ n ih =>
    rw [num_succ, num_succ]
    by_cases e : j = n
    · subst e
      rw [if_neg hq, if_pos hr]
      have := num_mono (n := j) fun k hk => h k (by omega)
      omega
    · have := ih (fun k hk => h k (by omega)) (by omega)
      by_cases hq' : Q n
      · rw [if_pos hq', if_pos (h n (by omega) hq')]; omega
      · rw [if_neg hq']; omega
theorem num_all {n : Nat} {Q : Nat → Prop} (h : n ≤ num n Q) : ∀ k, k < n → Q k := by
  intro k hk
  rcases Classical.em (Q k) with h1 | h1
  · exact h1
  · have := num_lt (n := n) (Q := Q) (R := fun _ => True) (fun _ _ _ => trivial) hk h1 trivial
    have := num_le n fun _ => True
    omega
theorem num_congr {n : Nat} {Q R : Nat → Prop} (h : ∀ k, k < n → (Q k ↔ R k)) : num n Q = num n R :=
  Nat.le_antisymm (num_mono fun k hk => (h k hk).1) (num_mono fun k hk => (h k hk).2)
theorem num_or {n : Nat} {Q R : Nat → Prop} (h : ∀ k, k < n → Q k → R k → False) : num n (fun k => Q k ∨ R k) = num n Q + num n R := by
  induction n with
  | zero => simp [num_zero]
  | succ n ih =>
    rw [num_succ, num_succ, num_succ, ih fun k hk => h k (by omega)]
    by_cases hq : Q n
    · by_cases hr : R n
      · exact (h n (by omega) hq hr).elim
      · rw [if_pos (Or.inl hq), if_pos hq, if_neg hr]; omega
    · by_cases hr : R n
      · rw [if_pos (Or.inr hr), if_neg hq, if_pos hr]; omega
      · rw [if_neg (by simp [hq, hr]), if_neg hq, if_neg hr]; omega
theorem num_one {n j : Nat} (hj : j < n) : num n (fun k => k = j) = 1 := by
  induction n with
  | zero => omega
  | succ n ih =>
    rw [num_succ]
    by_cases e : n = j
    · subst e
      rw [if_pos rfl]
      have : num n (fun k => k = n) = 0 := by
        have h : num n (fun k => k = n) = num n (fun _ => False) := num_congr fun k hk => ⟨fun e => by omega, fun e => e.elim⟩
        rw [h]
        clear h ih hj
        induction n with
        | zero => rfl
        | succ n ih => rw [num_succ, ih]; simp
      omega
    · rw [if_neg e, ih (by omega)]
theorem num_none {n : Nat} {Q : Nat → Prop} (h : ∀ k, k < n → ¬ Q k) : num n Q = 0 := by
  induction n with
  | zero => rfl
  | succ n ih => rw [num_succ, ih fun k hk => h k (by omega), if_neg (h n (by omega))]
/-- A map that keeps what is different apart. -/
theorem num_inj {n m : Nat} {Q R : Nat → Prop} (f : Nat → Nat) (hf : ∀ k, k < n → Q k → f k < m ∧ R (f k)) (hi : ∀ k j, k < n → j < n → Q k → Q j → f k = f j → k = j) : num n Q ≤ num m R := by
  induction n generalizing R with
  | zero => simp [num_zero]
  | succ n ih =>
    rw [num_succ]
    by_cases hq : Q n
    · rw [if_pos hq]
      obtain ⟨h1, h2⟩ := hf n (by omega) hq
      have h3 := ih (R := fun k => R k ∧ k ≠ f n) (fun k hk hqk => ⟨(hf k (by omega) hqk).1, (hf k (by omega) hqk).2, fun e => by have := hi k n (by omega) (by omega) hqk hq e; omega⟩) (fun k j hk hj => hi k j (by omega) (by omega))
      have h4 : num m (fun k => (R k ∧ k ≠ f n) ∨ k = f n) = num m (fun k => R k ∧ k ≠ f n) + num m (fun k => k = f n) := num_or fun k _ h e => h.2 e
      rw [num_one h1] at h4
      have h5 : num m (fun k => (R k ∧ k ≠ f n) ∨ k = f n) ≤ num m R := num_mono fun k _ h => h.elim (·.1) (fun e => e ▸ h2)
      omega
    · rw [if_neg hq]
      exact ih (fun k hk => hf k (by omega)) (fun k j hk hj => hi k j (by omega) (by omega))

/-! ### relaxation -/
/-- One round: more cells know their least one, if not all did. -/
theorem relax_round (hs : ∀ a b, E a b → E b a) {n t : Nat} (hE : ∀ a b, E a b → a < n ∧ b < n) {p q : Nat → Nat} (hp : ∀ k, Conn E k (p k) ∧ p k ≤ k) (hq : ∀ k, Conn E k (q k)) (hm : ∀ k, q k ≤ p k) (he : ∀ k j, E k j → q k ≤ p j)
    (ht : min t n ≤ num n (fun k => p k = least E k)) : min (t + 1) n ≤ num n (fun k => q k = least E k) := by
  have keep : ∀ k, p k = least E k → q k = least E k := fun k h => Nat.le_antisymm (h ▸ hm k) (least_le (hq k))
  by_cases hall : ∀ k, k < n → p k = least E k
  · have h1 : num n (fun k => q k = least E k) = num n (fun _ => True) := num_congr fun k hk => ⟨fun _ => trivial, fun _ => keep k (hall k hk)⟩
    have h2 : n ≤ num n (fun _ => True) := by
      have : ∀ m, num m (fun _ => True) = m := by
        intro m; induction m with
        | zero => rfl
        | succ m ih => rw [num_succ, ih]; simp
      rw [this]; exact Nat.le_refl n
    omega
  · obtain ⟨k, hk⟩ : ∃ k, ¬ (k < n → p k = least E k) := Classical.not_forall.1 hall
    have hkn : k < n := Classical.byContradiction fun h => hk fun h' => absurd h' h
    have hk2 : ¬ p k = least E k := fun h => hk fun _ => h
    -- from the least cell, which knows itself, to k there is an edge at which knowing ends
    have h0 : p (least E k) = least E (least E k) := by
      rw [least_idem hs]
      refine Nat.le_antisymm (hp _).2 ?_
      have := least_le ((least_conn E k).trans (hp (least E k)).1)
      exact this
    obtain ⟨b, hbn, hb, hb2⟩ : ∃ b, b < n ∧ ¬ p b = least E b ∧ q b = least E b := by
      obtain ⟨m, hc, hm0⟩ : ∃ m, Conn E m k ∧ p m = least E m := ⟨_, (least_conn E k).symm hs, h0⟩
      clear hk hall ht h0
      induction hc with
      | refl => exact absurd hm0 hk2
      | @step b c _ e ih =>
        by_cases hb : p b = least E b
        · refine ⟨c, (hE _ _ e).2, hk2, ?_⟩
          have h1 := he c b (hs _ _ e)
          rw [hb, least_eq hs (Conn.one e)] at h1
          exact Nat.le_antisymm h1 (least_le (hq c))
        · exact ih (hE _ _ e).1 hb
    have := num_lt (n := n) (Q := fun k => p k = least E k) (R := fun k => q k = least E k) (fun k _ h => keep k h) hbn hb hb2
    omega
theorem relax_done {n : Nat} {p : Nat → Nat} (h : min n n ≤ num n (fun k => p k = least E k)) : ∀ k, k < n → p k = least E k := num_all (by simpa using h)
end

end Domi

/- Sides shared by two: plain law. -/
set_option linter.unusedVariables false
namespace Domi
open Go Go.RowKit

def sumI (g : Nat → Int) : Nat → Int
  | 0 => 0
  | n + 1 => sumI g n + g n
theorem sumI_add (g h : Nat → Int) (n : Nat) : sumI (fun k => g k + h k) n = sumI g n + sumI h n := by
  induction n with
  | zero => rfl
  | succ n ih => simp only [sumI, ih]; omega
theorem sumI_mul (c : Int) (g : Nat → Int) (n : Nat) : sumI (fun k => c * g k) n = c * sumI g n := by
  induction n with
  | zero => simp [sumI]
  | succ n ih => simp only [sumI, ih, Int.mul_add]
theorem sumI_congr {g h : Nat → Int} {n : Nat} (e : ∀ k, k < n → g k = h k) : sumI g n = sumI h n := by
  induction n with
  | zero => rfl
  | succ n ih => simp only [sumI, ih fun k hk => e k (by omega), e n (by omega)]
theorem sumI_num (Q : Nat → Bool) (n : Nat) : sumI (fun k => if Q k then 1 else 0) n = (num n (fun k => Q k = true) : Int) := by
  induction n with
  | zero => rfl
  | succ n ih => rw [sumI, ih, num_succ]; by_cases h : Q n = true <;> simp [h]
theorem sumI_bd {g : Nat → Int} {n : Nat} {c : Int} (h : ∀ k, k < n → 0 ≤ g k ∧ g k ≤ c) : 0 ≤ sumI g n ∧ sumI g n ≤ c * n := by
  induction n with
  | zero => simp [sumI]
  | succ n ih =>
    have h1 := ih fun k hk => h k (by omega)
    have h2 := h n (by omega)
    have h3 : c * ((n + 1 : Nat) : Int) = c * n + c := by rw [Int.natCast_add, Int.mul_add]; simp
    rw [sumI, h3]
    omega

def Reg.f (r : Reg) (k : Nat) : Bool := r.cells.getD k false
/-- Is there a cell of the region in this direction? -/
def nbr (r : Reg) (k : Nat) (way : Int) : Bool := decide (0 ≤ stepI r k way) && r.f (stepI r k way).toNat
def sides (r : Reg) (k : Nat) (m : Nat) : Int := sumI (fun j => if nbr r k ((j : Int) + 1) then 0 else 1) m
def bordTo (r : Reg) (n : Nat) : Int := sumI (fun k => if r.f k then sides r k 4 else 0) n
def Reg.bord (r : Reg) : Int := if r.valid then bordTo r r.cells.length else -1
def pairTo (r : Reg) (n : Nat) : Int := sumI (fun k => (if r.f k && nbr r k 1 then 1 else 0) + (if r.f k && nbr r k 2 then 1 else 0)) n

theorem sides_bd (r : Reg) (k m : Nat) : 0 ≤ sides r k m ∧ sides r k m ≤ m := by
  have := sumI_bd (g := fun j => if nbr r k ((j : Int) + 1) then 0 else 1) (n := m) (c := 1) (fun j _ => by split <;> omega)
  unfold sides; omega
theorem sides_succ (r : Reg) (k m : Nat) : sides r k (m + 1) = sides r k m + (if nbr r k ((m : Int) + 1) then 0 else 1) := rfl
theorem bordTo_bd (r : Reg) (n : Nat) : 0 ≤ bordTo r n ∧ bordTo r n ≤ 4 * n :=
  sumI_bd fun k _ => by
    have := sides_bd r k 4
    split <;> omega
theorem bordTo_succ (r : Reg) (n : Nat) : bordTo r (n + 1) = bordTo r n + (if r.f n then sides r n 4 else 0) := rfl
theorem pairTo_bd (r : Reg) (n : Nat) : 0 ≤ pairTo r n ∧ pairTo r n ≤ 2 * n := sumI_bd fun k _ => by split <;> split <;> omega
theorem pairTo_succ (r : Reg) (n : Nat) : pairTo r (n + 1) = pairTo r n + ((if r.f n && nbr r n 1 then 1 else 0) + (if r.f n && nbr r n 2 then 1 else 0)) := rfl

theorem f_lt {r : Reg} {k : Nat} (h : r.f k = true) : k < r.cells.length := by
  rcases Nat.lt_or_ge k r.cells.length with h1 | h1
  · exact h1
  · simp [Reg.f, h1] at h
theorem nbr_iff {r : Reg} {k : Nat} {way : Int} : nbr r k way = true ↔ 0 ≤ stepI r k way ∧ r.f (stepI r k way).toNat = true := by simp [nbr]
theorem num_cnt (r : Reg) : (num r.cells.length (fun k => r.f k = true) : Int) = cnt r.cells := by
  have key : ∀ n, n ≤ r.cells.length → (num n (fun k => r.f k = true) : Int) = cnt (r.cells.take n) := by
    intro n
    induction n with
    | zero => intro _; simp [num_zero, cnt]
    | succ n ih =>
      intro hn
      rw [take_snoc r.cells false n (by omega), cnt_snoc, num_succ, ← ih (by omega)]
      unfold Reg.f
      split <;> rename_i h <;> simp
  have := key r.cells.length (Nat.le_refl _)
  rwa [List.take_length] at this

/-- As many have a neighbour in one direction as in the opposite one. -/
theorem way_le {r : Reg} (hv : r.valid = true) (way : Int) (h1 : 1 ≤ way) (h4 : way ≤ 4) :
    num r.cells.length (fun k => (r.f k && nbr r k way) = true) ≤ num r.cells.length (fun k => (r.f k && nbr r k ((way + 1) % 4 + 1)) = true) := by
  obtain ⟨v1, v2, v3, _⟩ := Reg.valid_iff.1 hv
  have hb : ∀ k : Nat, k < r.cells.length → (r.f k && nbr r k way) = true → 0 ≤ stepI r k way ∧ stepI r (stepI r k way) ((way + 1) % 4 + 1) = k ∧ r.f (stepI r k way).toNat = true ∧ r.f k = true := by
    intro k hk h
    simp only [Bool.and_eq_true] at h
    obtain ⟨h2, h3⟩ := nbr_iff.1 h.2
    exact ⟨h2, stepI_back (by omega) (by omega) (by omega) h1 h4 h2, h3, h.1⟩
  refine num_inj (fun k => (stepI r k way).toNat) (fun k hk h => ?_) (fun k j hk hj h g e => ?_)
  · obtain ⟨a, b, c, d⟩ := hb k hk h
    refine ⟨f_lt c, ?_⟩
    simp only [Bool.and_eq_true]
    refine ⟨c, nbr_iff.2 ?_⟩
    rw [Int.toNat_of_nonneg a, b]
    exact ⟨by omega, by simpa using d⟩
  · obtain ⟨a, b, _, _⟩ := hb k hk h
    obtain ⟨a', b', _, _⟩ := hb j hj g
    have e' : stepI r k way = stepI r j way := by change Int.toNat _ = Int.toNat _ at e; omega
    rw [e', b'] at b
    omega
theorem way_eq {r : Reg} (hv : r.valid = true) (way : Int) (h1 : 1 ≤ way) (h2 : way ≤ 2) :
    num r.cells.length (fun k => (r.f k && nbr r k way) = true) = num r.cells.length (fun k => (r.f k && nbr r k (way + 2)) = true) := by
  have a := way_le hv way h1 (by omega)
  have b := way_le hv (way + 2) (by omega) (by omega)
  have e1 : (way + 1) % 4 + 1 = way + 2 := by omega
  have e2 : (way + 2 + 1) % 4 + 1 = way := by omega
  rw [e1] at a
  rw [e2] at b
  omega

/-- Border and twice the pairs side by side are four times the cells. -/
theorem border_law {r : Reg} (hv : r.valid = true) : bordTo r r.cells.length + 2 * pairTo r r.cells.length = 4 * cnt r.cells := by
  have e1 : bordTo r r.cells.length + (sumI (fun k => if (r.f k && nbr r k 1) then 1 else 0) r.cells.length + sumI (fun k => if (r.f k && nbr r k 2) then 1 else 0) r.cells.length
      + (sumI (fun k => if (r.f k && nbr r k 3) then 1 else 0) r.cells.length + sumI (fun k => if (r.f k && nbr r k 4) then 1 else 0) r.cells.length)) = 4 * sumI (fun k => if r.f k then 1 else 0) r.cells.length := by
    unfold bordTo
    rw [← sumI_mul, ← sumI_add, ← sumI_add, ← sumI_add, ← sumI_add]
    refine sumI_congr fun k _ => ?_
    cases r.f k
    · rfl
    · simp only [sides, sumI, if_true, Bool.true_and]
      have z : ((0 : Nat) : Int) + 1 = 1 := rfl
      have o : ((1 : Nat) : Int) + 1 = 2 := rfl
      have t : ((2 : Nat) : Int) + 1 = 3 := rfl
      have q : ((3 : Nat) : Int) + 1 = 4 := rfl
      rw [z, o, t, q]
      cases nbr r k 1 <;> cases nbr r k 2 <;> cases nbr r k 3 <;> cases nbr r k 4 <;> rfl
  have e2 : pairTo r r.cells.length = sumI (fun k => if (r.f k && nbr r k 1) then 1 else 0) r.cells.length + sumI (fun k => if (r.f k && nbr r k 2) then 1 else 0) r.cells.length := by
    unfold pairTo; rw [sumI_add]
  have w1 := way_eq hv 1 (by omega) (by omega)
  have w2 := way_eq hv 2 (by omega) (by omega)
  simp only [show (1 : Int) + 2 = 3 from rfl, show (2 : Int) + 2 = 4 from rfl] at w1 w2
  rw [sumI_num, sumI_num, sumI_num, sumI_num, sumI_num, num_cnt] at e1
  rw [sumI_num, sumI_num] at e2
  omega

/-- The neighbour by column and row. -/
theorem nbr_at {r : Reg} (hv : r.valid = true) {k : Nat} (hk : k < r.cells.length) {way : Int} (h1 : 1 ≤ way) (h4 : way ≤ 4) : nbr r k way = r.at_ ((k : Int) % r.wide + dX way) ((k : Int) / r.wide + dY way) := by
  obtain ⟨v1, v2, v3, _⟩ := Reg.valid_iff.1 hv
  have hs := stepI_xy (r := r) (c := (k : Int)) (way := way) (by omega) (by omega) (by omega) h1 h4
  unfold nbr Reg.at_ Reg.g Reg.f
  rw [hs]
  by_cases hx : (inB ((k : Int) % r.wide + dX way) 0 (r.wide - 1) && inB ((k : Int) / r.wide + dY way) 0 (r.tall - 1)) = true
  · rw [if_pos hx, hx]
    simp only [Bool.and_eq_true] at hx
    have a := inB_iff.1 hx.1
    have b := inB_iff.1 hx.2
    have := xy_lt (w := r.wide) (t := r.tall) (x := (k : Int) % r.wide + dX way) (y := (k : Int) / r.wide + dY way) (by omega) (by omega) (by omega) (by omega)
    rw [decide_eq_true this.1]
  · rw [if_neg hx]
    have hx' : (inB ((k : Int) % r.wide + dX way) 0 (r.wide - 1) && inB ((k : Int) / r.wide + dY way) 0 (r.tall - 1)) = false := by simpa using hx
    rw [hx']; rfl
theorem at_here {r : Reg} (hv : r.valid = true) {k : Nat} (hk : k < r.cells.length) : r.at_ ((k : Int) % r.wide) ((k : Int) / r.wide) = r.f k := by
  obtain ⟨v1, v2, v3, _⟩ := Reg.valid_iff.1 hv
  obtain ⟨a1, a2, a3, a4, a5⟩ := cell_xy (r := r) (c := (k : Int)) (by omega) (by omega) (by omega)
  rw [at_cell (inB_iff.2 (by omega)) (inB_iff.2 (by omega)), a5]; rfl

end Domi

/- Lists that lay dominoes: plain. -/
set_option linter.unusedVariables false
namespace Domi
open Go Go.RowKit

def backI (way : Int) : Int := (way + 1) % 4 + 1
/-- What the list says of cell k fits what it says of its neighbours. -/
def okAt (r : Reg) (L : List Int) (k : Nat) : Bool :=
  decide (L.getD k 0 = 0) || (decide (0 ≤ stepI r k (L.getD k 0)) && r.f k && r.f (stepI r k (L.getD k 0)).toNat && decide (L.getD (stepI r k (L.getD k 0)).toNat 0 = backI (L.getD k 0)))
def laysB (r : Reg) (L : List Int) : Bool := decide (L.length = r.cells.length) && (List.range L.length).all (okAt r L)
def laidOk (r : Reg) (L : List Int) : Bool := r.valid && laysB r L
def fullB (r : Reg) (L : List Int) : Bool := (List.range r.cells.length).all fun k => !r.f k || !decide (L.getD k 0 = 0)
def tilingOk (r : Reg) (L : List Int) : Bool := laidOk r L && fullB r L

theorem stepI_way {r : Reg} {c way : Int} (h : 0 ≤ stepI r c way) : 1 ≤ way ∧ way ≤ 4 := by
  by_cases e : 1 ≤ way ∧ way ≤ 4
  · exact e
  · rw [stepI_other (by omega)] at h; omega

theorem okAt_zero {r : Reg} {L : List Int} {k : Nat} (h : L.getD k 0 = 0) : okAt r L k = true := by unfold okAt; rw [decide_eq_true h]; rfl
theorem okAt_iff {r : Reg} {L : List Int} {k : Nat} : okAt r L k = true ↔ L.getD k 0 = 0 ∨ (0 ≤ stepI r k (L.getD k 0) ∧ r.f k = true ∧ r.f (stepI r k (L.getD k 0)).toNat = true ∧ L.getD (stepI r k (L.getD k 0)).toNat 0 = backI (L.getD k 0)) := by
  unfold okAt; simp [and_assoc]
theorem okAt_no {r : Reg} {L : List Int} {k : Nat} (h0 : L.getD k 0 ≠ 0) (h : ¬ (0 ≤ stepI r k (L.getD k 0) ∧ r.f k = true ∧ r.f (stepI r k (L.getD k 0)).toNat = true ∧ L.getD (stepI r k (L.getD k 0)).toNat 0 = backI (L.getD k 0))) : okAt r L k = false := by
  cases e : okAt r L k
  · rfl
  · rcases okAt_iff.1 e with e | e
    · exact absurd e h0
    · exact absurd e h
theorem okAt_bad {r : Reg} {L : List Int} {k : Nat} {x s : Int} (hx : L.getD k 0 = x) (h0 : x ≠ 0) (hs : stepI r k x = s) (h : ¬ (0 ≤ s ∧ r.f k = true ∧ r.f s.toNat = true ∧ L.getD s.toNat 0 = backI x)) : okAt r L k = false := by
  subst hx; subst hs; exact okAt_no h0 h
theorem okAt_good {r : Reg} {L : List Int} {k : Nat} {x s : Int} (hx : L.getD k 0 = x) (hs : stepI r k x = s) (h1 : 0 ≤ s) (h2 : r.f k = true) (h3 : r.f s.toNat = true) (h4 : L.getD s.toNat 0 = backI x) : okAt r L k = true := by
  subst hx; subst hs; exact okAt_iff.2 (.inr ⟨h1, h2, h3, h4⟩)
theorem ok_snoc {r : Reg} {L : List Int} {k : Nat} (h : ∀ j, j < k → okAt r L j = true) (hk : okAt r L k = true) : ∀ j, j < k + 1 → okAt r L j = true := fun j hj => by
  by_cases e : j = k
  · subst e; exact hk
  · exact h j (by omega)
theorem laysB_iff {r : Reg} {L : List Int} : laysB r L = true ↔ L.length = r.cells.length ∧ ∀ k, k < L.length → okAt r L k = true := by
  unfold laysB; simp [List.all_eq_true]
theorem laidOk_iff {r : Reg} {L : List Int} : laidOk r L = true ↔ r.valid = true ∧ L.length = r.cells.length ∧ ∀ k, k < L.length → okAt r L k = true := by
  unfold laidOk; rw [Bool.and_eq_true, laysB_iff]
theorem laidOk_no1 {r : Reg} {L : List Int} (h : r.valid = false) : laidOk r L = false := by unfold laidOk; rw [h]; rfl
theorem laysB_no2 {r : Reg} {L : List Int} (h : L.length ≠ r.cells.length) : laysB r L = false := by unfold laysB; rw [decide_eq_false h]; rfl
theorem laidOk_no2 {r : Reg} {L : List Int} (h : L.length ≠ r.cells.length) : laidOk r L = false := by unfold laidOk; rw [laysB_no2 h, Bool.and_false]
theorem laysB_no3 {r : Reg} {L : List Int} {k : Nat} (hk : k < L.length) (h : okAt r L k = false) : laysB r L = false := by
  cases e : laysB r L
  · rfl
  · rw [(laysB_iff.1 e).2 k hk] at h; cases h
theorem laidOk_no3 {r : Reg} {L : List Int} {k : Nat} (hk : k < L.length) (h : okAt r L k = false) : laidOk r L = false := by unfold laidOk; rw [laysB_no3 hk h, Bool.and_false]
/-- What a list that lays dominoes says of a cell. -/
structure LaidAt (r : Reg) (L : List Int) (k : Nat) : Prop where
  way : 1 ≤ L.getD k 0 ∧ L.getD k 0 ≤ 4
  here : r.f k = true
  dest : 0 ≤ stepI r k (L.getD k 0) ∧ stepI r k (L.getD k 0) < L.length
  there : r.f (stepI r k (L.getD k 0)).toNat = true
  back : L.getD (stepI r k (L.getD k 0)).toNat 0 = backI (L.getD k 0)
theorem laidOk_at {r : Reg} {L : List Int} (h : laidOk r L = true) {k : Nat} (hk : k < L.length) (h0 : L.getD k 0 ≠ 0) : LaidAt r L k := by
  obtain ⟨_, h2, h3⟩ := laidOk_iff.1 h
  rcases okAt_iff.1 (h3 k hk) with e | ⟨e1, e2, e3, e4⟩
  · exact absurd e h0
  · exact ⟨stepI_way e1, e2, ⟨e1, by have := f_lt e3; omega⟩, e3, e4⟩
theorem laidOk_bd {r : Reg} {L : List Int} (h : laidOk r L = true) (k : Nat) : 0 ≤ L.getD k 0 ∧ L.getD k 0 ≤ 4 := by
  by_cases hk : k < L.length
  · by_cases h0 : L.getD k 0 = 0
    · rw [h0]; omega
    · have := (laidOk_at h hk h0).way; omega
  · rw [List.getD_eq_getElem?_getD, List.getElem?_eq_none (by omega)]; simp

/-! ### laying and lifting -/
def free (r : Reg) (L : List Int) (c way : Int) : Bool :=
  inB c 0 (r.cells.length - 1) && (decide (0 ≤ stepI r c way) && r.f c.toNat && r.f (stepI r c way).toNat && decide (L.getD c.toNat 0 = 0) && decide (L.getD (stepI r c way).toNat 0 = 0))
def layL (r : Reg) (L : List Int) (c way : Int) : List Int := (L.set c.toNat way).set (stepI r c way).toNat (backI way)
def liftL (r : Reg) (L : List Int) (c : Int) : List Int := (L.set (stepI r c (L.getD c.toNat 0)).toNat 0).set c.toNat 0
def layOne (r : Reg) (L : List Int) (c way : Int) : List Int × Bool := if laidOk r L then (if free r L c way then (layL r L c way, true) else (L, false)) else ([], false)
def liftOk (L : List Int) (c : Int) : Bool := inB c 0 (L.length - 1) && !decide (L.getD c.toNat 0 = 0)
def liftOne (r : Reg) (L : List Int) (c : Int) : List Int × Bool := if laidOk r L then (if liftOk L c then (liftL r L c, true) else (L, false)) else ([], false)
def stepTo (r : Reg) (c way : Int) : Int := if r.valid && inB c 0 (r.cells.length - 1) && inB way 1 4 then stepI r c way else -1
def bareL (r : Reg) : List Int := if r.valid then List.replicate r.cells.length 0 else []
def wayN (p : Int → Bool) (L : List Int) : Int := ((L.filter p).length : Nat)
def isLow (x : Int) : Bool := decide (x = 1) || decide (x = 2)
def isEast (x : Int) : Bool := decide (x = 1)
def laidMany (r : Reg) (L : List Int) : Int := if laidOk r L then wayN isLow L else -1
def flatMany (r : Reg) (L : List Int) : Int := if laidOk r L then wayN isEast L else -1
theorem wayN_le (p : Int → Bool) (L : List Int) : 0 ≤ wayN p L ∧ wayN p L ≤ L.length := by
  unfold wayN; have := List.length_filter_le p L; omega
theorem wayN_snoc (p : Int → Bool) (L : List Int) (x : Int) : wayN p (L ++ [x]) = wayN p L + if p x then 1 else 0 := by
  unfold wayN; rw [List.filter_append]; cases h : p x <;> simp [h]
theorem wayN_take {p : Int → Bool} {L : List Int} {k : Nat} (hk : k < L.length) : wayN p (L.take (k + 1)) = wayN p (L.take k) + if p (L.getD k 0) then 1 else 0 := by
  rw [take_snoc L 0 k hk, wayN_snoc]

theorem layOne_no {r : Reg} {L : List Int} {c way : Int} (h : laidOk r L = false) : layOne r L c way = ([], false) := by unfold layOne; rw [h]; rfl
theorem layOne_same {r : Reg} {L : List Int} {c way : Int} (h : laidOk r L = true) (hf : free r L c way = false) : layOne r L c way = (L, false) := by unfold layOne; rw [h, hf]; rfl
theorem layOne_yes {r : Reg} {L : List Int} {c way : Int} (h : laidOk r L = true) (hf : free r L c way = true) : layOne r L c way = (layL r L c way, true) := by unfold layOne; rw [h, hf]; rfl
theorem liftOne_no {r : Reg} {L : List Int} {c : Int} (h : laidOk r L = false) : liftOne r L c = ([], false) := by unfold liftOne; rw [h]; rfl
theorem liftOne_same {r : Reg} {L : List Int} {c : Int} (h : laidOk r L = true) (hf : liftOk L c = false) : liftOne r L c = (L, false) := by unfold liftOne; rw [h, hf]; rfl
theorem liftOne_yes {r : Reg} {L : List Int} {c : Int} (h : laidOk r L = true) (hf : liftOk L c = true) : liftOne r L c = (liftL r L c, true) := by unfold liftOne; rw [h, hf]; rfl
theorem free_iff {r : Reg} {L : List Int} {c way : Int} : free r L c way = true ↔ (0 ≤ c ∧ c < r.cells.length) ∧ 0 ≤ stepI r c way ∧ r.f c.toNat = true ∧ r.f (stepI r c way).toNat = true ∧ L.getD c.toNat 0 = 0 ∧ L.getD (stepI r c way).toNat 0 = 0 := by
  unfold free; simp [inB_iff, and_assoc]; omega
theorem liftOk_iff {L : List Int} {c : Int} : liftOk L c = true ↔ (0 ≤ c ∧ c < L.length) ∧ L.getD c.toNat 0 ≠ 0 := by
  unfold liftOk; simp [inB_iff]; omega
theorem stepTo_no {r : Reg} {c way : Int} (h : r.valid = false ∨ inB c 0 (r.cells.length - 1) = false ∨ inB way 1 4 = false) : stepTo r c way = -1 := by
  unfold stepTo; rcases h with h | h | h <;> simp [h]
theorem stepTo_yes {r : Reg} {c way : Int} (h1 : r.valid = true) (h2 : inB c 0 (r.cells.length - 1) = true) (h3 : inB way 1 4 = true) : stepTo r c way = stepI r c way := by
  unfold stepTo; rw [h1, h2, h3]; rfl
theorem bareL_no {r : Reg} (h : r.valid = false) : bareL r = [] := by unfold bareL; rw [h]; rfl
theorem bareL_yes {r : Reg} (h : r.valid = true) : bareL r = List.replicate r.cells.length 0 := by unfold bareL; rw [if_pos h]
end Domi

/- Texts of fields: rows of signs with slashes between them; how they are cut. Plain. -/
set_option linter.unusedVariables false
namespace Domi
open Go Go.RowKit

/-! ### bytes -/
def bs (l : List UInt8) : ByteArray := ⟨l.toArray⟩
theorem bs_data (l : List UInt8) : (bs l).data.toList = l := rfl
theorem bs_of (b : ByteArray) : bs b.data.toList = b := rfl
theorem bs_size (l : List UInt8) : (bs l).size = l.length := rfl
theorem bs_inj {a b : List UInt8} : bs a = bs b ↔ a = b := ⟨fun h => by have := congrArg (fun x : ByteArray => x.data.toList) h; exact this, fun h => by rw [h]⟩
theorem bs_app (a b : List UInt8) : bs a ++ bs b = bs (a ++ b) := by
  have e : ∀ x : ByteArray, bs x.data.toList = x := fun x => rfl
  rw [← e (bs a ++ bs b)]
  congr 1

/-! ### rows and texts -/
def rowU (sg : Nat → UInt8) (w y n : Nat) : List UInt8 := (List.range n).map fun i => sg (y * w + i)
def rowsU (sg : Nat → UInt8) (w t n : Nat) : List (List UInt8) := (List.range n).map fun j => rowU sg w (t - 1 - j) w
def textU (sg : Nat → UInt8) (w t : Nat) : List UInt8 := Lib.join (rowsU sg w t t) [47]
section
variable (sg : Nat → UInt8) (w t : Nat)
theorem rowU_succ (y n : Nat) : rowU sg w y (n + 1) = rowU sg w y n ++ [sg (y * w + n)] := by unfold rowU; rw [List.range_succ, List.map_append]; rfl
theorem rowU_len (y n : Nat) : (rowU sg w y n).length = n := by simp [rowU]
theorem rowsU_succ (n : Nat) : rowsU sg w t (n + 1) = rowsU sg w t n ++ [rowU sg w (t - 1 - n) w] := by unfold rowsU; rw [List.range_succ, List.map_append]; rfl
theorem rowsU_len (n : Nat) : (rowsU sg w t n).length = n := by simp [rowsU]
theorem join_snoc (R : List (List UInt8)) (h : R ≠ []) (x : List UInt8) : Lib.join (R ++ [x]) [47] = Lib.join R [47] ++ [47] ++ x := by
  cases R with
  | nil => exact absurd rfl h
  | cons a R =>
    rw [List.cons_append, Lib.join_cons, Lib.join_cons]
    simp [Lib.joinTail]
/-- The text, as far as it is written when the rows are appended one by one. -/
def accU : Nat → List UInt8
  | 0 => []
  | n + 1 => accU n ++ rowU sg w (t - 1 - n) w ++ if n + 1 < t then [47] else []
theorem acc_join : ∀ n, 1 ≤ n → n ≤ t → accU sg w t n = Lib.join (rowsU sg w t n) [47] ++ if n < t then [47] else []
  | 0, h, _ => by omega
  | 1, _, h => by
    unfold accU rowsU
    simp [accU, Lib.join_one]
  | n + 2, _, h => by
    rw [accU, acc_join (n + 1) (by omega) (by omega), rowsU_succ sg w t (n + 1), join_snoc _ (by unfold rowsU; simp), if_pos (by omega : n + 1 < t)]
theorem acc_all (h : 1 ≤ t) : accU sg w t t = textU sg w t := by
  rw [acc_join sg w t t h (Nat.le_refl _), if_neg (Nat.lt_irrefl _), List.append_nil]; rfl
theorem acc_len (n : Nat) : (accU sg w t n).length ≤ n * (w + 1) := by
  induction n with
  | zero => simp [accU]
  | succ n ih =>
    rw [accU, List.length_append, List.length_append, rowU_len, Nat.add_mul, Nat.one_mul]
    split <;> simp <;> omega
theorem text_len (h : 1 ≤ t) : (textU sg w t).length ≤ t * (w + 1) := by rw [← acc_all sg w t h]; exact acc_len sg w t t
end
theorem rowU_congr {sg sg' : Nat → UInt8} {w y n : Nat} (h : ∀ i, i < n → sg (y * w + i) = sg' (y * w + i)) : rowU sg w y n = rowU sg' w y n := List.map_congr_left fun i hi => h i (List.mem_range.1 hi)
theorem text_congr {sg sg' : Nat → UInt8} {w t : Nat} (h : ∀ k, k < w * t → sg k = sg' k) : textU sg w t = textU sg' w t := by
  unfold textU rowsU
  congr 1
  refine List.map_congr_left fun j hj => rowU_congr fun i hi => h _ ?_
  have hj := List.mem_range.1 hj
  have : (t - 1 - j + 1) * w ≤ t * w := Nat.mul_le_mul_right w (by omega)
  rw [Nat.add_mul, Nat.one_mul] at this
  rw [Nat.mul_comm w t]; omega

/-! ### cutting at slashes -/
def spl : List UInt8 → List (List UInt8)
  | [] => [[]]
  | c :: s => if c = 47 then [] :: spl s else match spl s with
    | [] => [[c]]
    | x :: r => (c :: x) :: r
theorem spl_ne : ∀ s, spl s ≠ []
  | [] => by simp [spl]
  | c :: s => by
    unfold spl
    split
    · simp
    · split <;> simp
theorem spl_cut (s : List UInt8) : spl (47 :: s) = [] :: spl s := by rw [spl, if_pos rfl]
theorem spl_on {c : UInt8} (h : c ≠ 47) (s : List UInt8) : ∃ x r, spl s = x :: r ∧ spl (c :: s) = (c :: x) :: r := by
  cases e : spl s with
  | nil => exact absurd e (spl_ne s)
  | cons x r => exact ⟨x, r, rfl, by rw [spl, if_neg h, e]⟩
theorem join_spl : ∀ s, Lib.join (spl s) [47] = s
  | [] => rfl
  | c :: s => by
    have ih := join_spl s
    by_cases h : c = 47
    · subst h
      rw [spl_cut]
      cases e : spl s with
      | nil => exact absurd e (spl_ne s)
      | cons x r =>
        rw [e] at ih
        rw [Lib.join_cons] at ih ⊢
        simp only [Lib.joinTail, List.map_cons, List.flatten_cons, List.nil_append]
        rw [List.append_assoc, ← Lib.joinTail, ih]; rfl
    · obtain ⟨x, r, e1, e2⟩ := spl_on h s
      rw [e1, Lib.join_cons] at ih
      rw [e2, Lib.join_cons, List.cons_append, ih]
theorem spl_no : ∀ s, ∀ x ∈ spl s, (47 : UInt8) ∉ x
  | [], x, h => by simp [spl] at h; rw [h]; simp
  | c :: s, x, h => by
    by_cases hc : c = 47
    · subst hc
      rw [spl_cut, List.mem_cons] at h
      rcases h with rfl | h
      · simp
      · exact spl_no s x h
    · obtain ⟨y, r, e1, e2⟩ := spl_on hc s
      rw [e2, List.mem_cons] at h
      have ih := spl_no s
      rw [e1] at ih
      rcases h with rfl | h
      · have := ih y (by simp)
        simp only [List.mem_cons, not_or]
        exact ⟨fun e => hc e.symm, this⟩
      · exact ih x (by simp [h])
theorem spl_row : ∀ x : List UInt8, (47 : UInt8) ∉ x → ∀ s, spl (x ++ 47 :: s) = x :: spl s
  | [], _, s => spl_cut s
  | c :: x, h, s => by
    simp only [List.mem_cons, not_or] at h
    have ih := spl_row x h.2 s
    obtain ⟨y, r, e1, e2⟩ := spl_on (fun e => h.1 e.symm) (x ++ 47 :: s)
    rw [List.cons_append, e2]
    rw [ih] at e1
    injection e1 with a b
    rw [← a, ← b]
theorem spl_one : ∀ x : List UInt8, (47 : UInt8) ∉ x → spl x = [x]
  | [], _ => rfl
  | c :: x, h => by
    simp only [List.mem_cons, not_or] at h
    obtain ⟨y, r, e1, e2⟩ := spl_on (fun e => h.1 e.symm) x
    rw [spl_one x h.2] at e1
    injection e1 with a b
    rw [e2, ← a, ← b]
theorem spl_join : ∀ R : List (List UInt8), R ≠ [] → (∀ x ∈ R, (47 : UInt8) ∉ x) → spl (Lib.join R [47]) = R
  | [], h, _ => absurd rfl h
  | [x], _, h => by rw [Lib.join_one]; exact spl_one x (h x (by simp))
  | x :: y :: R, _, h => by
    have ih := spl_join (y :: R) (by simp) fun z hz => h z (by simp only [List.mem_cons] at hz ⊢; exact .inr hz)
    rw [Lib.join_cons]
    have e : x ++ Lib.joinTail [47] (y :: R) = x ++ 47 :: Lib.join (y :: R) [47] := by
      rw [Lib.join_cons]; simp [Lib.joinTail]
    rw [e, spl_row x (h x (by simp)), ih]
theorem spl_snoc : ∀ s, spl (s ++ [47]) = spl s ++ [[]]
  | [] => rfl
  | c :: s => by
    have ih := spl_snoc s
    by_cases h : c = 47
    · subst h
      rw [List.cons_append, spl_cut, spl_cut, ih]; rfl
    · obtain ⟨x, r, e1, e2⟩ := spl_on h s
      obtain ⟨x', r', e1', e2'⟩ := spl_on h (s ++ [47])
      rw [List.cons_append, e2', e2]
      rw [ih, e1] at e1'
      injection e1' with a b
      rw [← a, ← b]; rfl
/-- What the library's Split cuts. -/
theorem count_slash (s : List UInt8) : (spl s).length = s.count 47 + 1 := by
  induction s with
  | nil => rfl
  | cons c s ih =>
    by_cases h : c = 47
    · subst h; rw [spl_cut, List.length_cons, ih, List.count_cons_self]
    · obtain ⟨x, r, e1, e2⟩ := spl_on h s
      rw [e2, List.length_cons, List.count_cons_of_ne (by simpa using h), ← ih, e1]; rfl

/-! ### fields -/
/-- The signs of a text in the cells' order: the last row is the south. -/
def sigs (s : List UInt8) : List UInt8 := (spl s).reverse.flatten
def wideU (s : List UInt8) : Nat := ((spl s).headD []).length
def tallU (s : List UInt8) : Nat := (spl s).length
def fitU (s : List UInt8) : Bool := decide (1 ≤ wideU s) && decide (wideU s ≤ 6) && decide (tallU s ≤ 6) && (spl s).all fun x => decide (x.length = wideU s)
theorem fitU_iff {s : List UInt8} : fitU s = true ↔ (1 ≤ wideU s ∧ wideU s ≤ 6) ∧ tallU s ≤ 6 ∧ ∀ x ∈ spl s, x.length = wideU s := by
  unfold fitU
  simp only [Bool.and_eq_true, decide_eq_true_eq, List.all_eq_true]
  exact ⟨fun h => ⟨h.1.1, h.1.2, h.2⟩, fun h => ⟨⟨h.1, h.2.1⟩, h.2.2⟩⟩
theorem wide_le (s : List UInt8) : wideU s ≤ s.length := by
  unfold wideU
  cases e : spl s with
  | nil => exact absurd e (spl_ne s)
  | cons x r =>
    have h := join_spl s
    rw [e, Lib.join_cons] at h
    have := congrArg List.length h
    rw [List.length_append] at this
    simp only [List.headD_cons]
    omega
theorem tallU_pos (s : List UInt8) : 1 ≤ tallU s := by
  unfold tallU
  cases e : spl s with
  | nil => exact absurd e (spl_ne s)
  | cons _ _ => simp
theorem flat_len {R : List (List UInt8)} {w : Nat} (h : ∀ x ∈ R, x.length = w) : R.flatten.length = w * R.length := by
  induction R with
  | nil => simp
  | cons x R ih => rw [List.flatten_cons, List.length_append, ih fun y hy => h y (by simp [hy]), h x (by simp), List.length_cons, Nat.mul_add]; omega
theorem flat_get {R : List (List UInt8)} {w : Nat} (h : ∀ x ∈ R, x.length = w) {j i : Nat} (hj : j < R.length) (hi : i < w) : R.flatten.getD (j * w + i) 0 = (R.getD j []).getD i 0 := by
  induction R generalizing j with
  | nil => simp at hj
  | cons x R ih =>
    have hx := h x (by simp)
    cases j with
    | zero =>
      rw [List.flatten_cons, Nat.zero_mul, Nat.zero_add, List.getD_eq_getElem?_getD, List.getElem?_append_left (by omega)]
      rfl
    | succ j =>
      rw [List.flatten_cons, List.getD_eq_getElem?_getD, List.getElem?_append_right (by rw [Nat.add_mul]; omega), hx, show (j + 1) * w + i - w = j * w + i by rw [Nat.add_mul]; omega, ← List.getD_eq_getElem?_getD, ih (fun y hy => h y (by simp [hy])) (by simpa using hj)]
      rfl
theorem sigs_len {s : List UInt8} (h : fitU s = true) : (sigs s).length = wideU s * tallU s := by
  obtain ⟨_, _, h3⟩ := fitU_iff.1 h
  unfold sigs
  rw [flat_len (w := wideU s) fun x hx => h3 x (by simpa using hx), List.length_reverse]; rfl
theorem rev_getD {α : Type} (l : List α) (d : α) {j : Nat} (h : j < l.length) : l.reverse.getD (l.length - 1 - j) d = l.getD j d := by
  simp only [List.getD_eq_getElem?_getD]
  rw [List.getElem?_reverse (by omega), show l.length - 1 - (l.length - 1 - j) = j by omega]
theorem sigs_get {s : List UInt8} (h : fitU s = true) {j i : Nat} (hj : j < tallU s) (hi : i < wideU s) : (sigs s).getD ((tallU s - 1 - j) * wideU s + i) 0 = ((spl s).getD j []).getD i 0 := by
  obtain ⟨_, _, h3⟩ := fitU_iff.1 h
  unfold sigs
  rw [flat_get (w := wideU s) (fun x hx => h3 x (by simpa using hx)) (by rw [List.length_reverse]; unfold tallU at hj ⊢; omega) hi]
  congr 1
  exact rev_getD _ _ hj
/-- A text that fits is the text of its signs. -/
theorem fit_text {s : List UInt8} (h : fitU s = true) : textU (fun k => (sigs s).getD k 0) (wideU s) (tallU s) = s := by
  obtain ⟨_, _, h3⟩ := fitU_iff.1 h
  have e : rowsU (fun k => (sigs s).getD k 0) (wideU s) (tallU s) (tallU s) = spl s := by
    refine List.ext_getElem (by rw [rowsU_len]; rfl) fun j h1 h2 => ?_
    have hj : j < tallU s := h2
    have hl := h3 (spl s)[j] (List.getElem_mem _)
    simp only [rowsU, List.getElem_map, List.getElem_range]
    refine List.ext_getElem (by rw [rowU_len]; exact hl.symm) fun i g1 g2 => ?_
    simp only [rowU, List.getElem_map, List.getElem_range]
    rw [sigs_get h hj (by omega)]
    simp only [List.getD_eq_getElem?_getD, List.getElem?_eq_getElem h2, List.getElem?_eq_getElem g2, Option.getD_some]
  unfold textU
  rw [e, join_spl]
/-- The text of signs fits, and these are its signs. -/
theorem text_fit {sg : Nat → UInt8} {w t : Nat} (hw : 1 ≤ w ∧ w ≤ 6) (ht : 1 ≤ t ∧ t ≤ 6) (hs : ∀ k, k < w * t → sg k ≠ 47) :
    fitU (textU sg w t) = true ∧ wideU (textU sg w t) = w ∧ tallU (textU sg w t) = t ∧ sigs (textU sg w t) = (List.range (w * t)).map sg := by
  have hlt : ∀ j i, j < t → i < w → (t - 1 - j) * w + i < w * t := fun j i hj hi => by
    have : (t - 1 - j + 1) * w ≤ t * w := Nat.mul_le_mul_right w (by omega)
    rw [Nat.add_mul, Nat.one_mul] at this
    rw [Nat.mul_comm w t]; omega
  have hsp : spl (textU sg w t) = rowsU sg w t t := by
    refine spl_join _ (by intro e; have := congrArg List.length e; rw [rowsU_len] at this; simp at this; omega) fun x hx => ?_
    unfold rowsU at hx
    obtain ⟨j, hj, rfl⟩ := List.mem_map.1 hx
    have hj := List.mem_range.1 hj
    intro h47
    unfold rowU at h47
    obtain ⟨i, hi, e⟩ := List.mem_map.1 h47
    exact hs _ (hlt j i hj (List.mem_range.1 hi)) e
  have hW : wideU (textU sg w t) = w := by
    unfold wideU
    rw [hsp]
    obtain ⟨n, rfl⟩ : ∃ n, t = n + 1 := ⟨t - 1, by omega⟩
    simp [rowsU, List.range_succ_eq_map, rowU_len]
  have hT : tallU (textU sg w t) = t := by unfold tallU; rw [hsp, rowsU_len]
  have hF : fitU (textU sg w t) = true := by
    refine fitU_iff.2 ⟨by rw [hW]; exact hw, by rw [hT]; exact ht.2, fun x hx => ?_⟩
    rw [hsp] at hx
    unfold rowsU at hx
    obtain ⟨j, _, rfl⟩ := List.mem_map.1 hx
    rw [rowU_len, hW]
  refine ⟨hF, hW, hT, ?_⟩
  have hl := sigs_len hF
  rw [hW, hT] at hl
  refine List.ext_getElem (by rw [hl]; simp) fun k h1 h2 => ?_
  rw [hl] at h1
  rw [List.getElem_map, List.getElem_range]
  have hw0 : 0 < w := by omega
  have hkw : k / w < t := Nat.div_lt_of_lt_mul h1
  have hm := Nat.mod_lt k hw0
  have hd := Nat.div_add_mod k w
  rw [Nat.mul_comm] at hd
  generalize k / w = y at *
  generalize k % w = x at *
  have hyy : t - 1 - (t - 1 - y) = y := by omega
  have := sigs_get hF (j := t - 1 - y) (i := x) (by rw [hT]; omega) (by rw [hW]; exact hm)
  rw [hT, hW, hsp, hyy, hd] at this
  rw [List.getD_eq_getElem?_getD, List.getElem?_eq_getElem (by rw [hl]; exact h1), Option.getD_some] at this
  rw [this]
  have hj : t - 1 - y < t := by omega
  simp only [rowsU, rowU, List.getD_eq_getElem?_getD, List.getElem?_map, List.getElem?_range hj, Option.map_some, Option.getD_some]
  rw [List.getElem?_range hm, hyy]
  simp [hd]
theorem fit_nonempty {s : List UInt8} (h : fitU s = true) : s ≠ [] := fun e => by
  obtain ⟨h1, _⟩ := fitU_iff.1 h
  subst e
  simp [wideU, spl] at h1
theorem fit_snoc {s : List UInt8} (h : fitU s = true) : fitU (s ++ [47]) = false := by
  cases e : fitU (s ++ [47])
  · rfl
  · obtain ⟨h1, _, _⟩ := fitU_iff.1 h
    obtain ⟨_, _, g3⟩ := fitU_iff.1 e
    have := g3 [] (by rw [spl_snoc]; simp)
    have hw : wideU (s ++ [47]) = wideU s := by
      unfold wideU
      rw [spl_snoc]
      cases e2 : spl s with
      | nil => exact absurd e2 (spl_ne s)
      | cons _ _ => rfl
    rw [hw] at this
    simp at this
    omega
end Domi

/- Texts of regions: what is read of them. Plain. -/
set_option linter.unusedVariables false
namespace Domi
open Go Go.RowKit

/-! ### the library's Split -/
theorem splitK_slash : ∀ s : List UInt8, Lib.splitK [47] 0 (s.count 47) s = spl s
  | [] => rfl
  | c :: s => by
    by_cases h : c = 47
    · subst h
      have hix : Lib.index (47 :: s) [47] = 0 := by rw [Lib.index]; simp [List.isPrefixOf]
      rw [List.count_cons_self, Lib.splitK, hix, spl_cut]
      simp [splitK_slash s]
    · have hp : ([47] : List UInt8).isPrefixOf (c :: s) = false := by simp [List.isPrefixOf]; exact fun e => h e.symm
      have hix : Lib.index (c :: s) [47] = if Lib.index s [47] == -1 then -1 else Lib.index s [47] + 1 := by rw [Lib.index, hp]; simp
      rw [List.count_cons_of_ne (by simpa using h)]
      obtain ⟨x, r, e1, e2⟩ := spl_on h s
      have ih := splitK_slash s
      rw [e2]
      cases hk : s.count 47 with
      | zero =>
        rw [hk] at ih
        rw [e1] at ih
        simp only [Lib.splitK] at ih ⊢
        injection ih with a b
        rw [← a, ← b]
      | succ k =>
        rw [hk] at ih
        rw [e1] at ih
        have hne : Lib.index s [47] ≠ -1 := by
          intro e
          have hm := Lib.count_miss (s := s) (sub := [47]) e
          rw [Lib.count_one] at hm
          omega
        have hge := Lib.index_ge s [47]
        obtain ⟨j, hj⟩ : ∃ j : Nat, Lib.index s [47] = j := ⟨(Lib.index s [47]).toNat, by omega⟩
        have hix' : Lib.index (c :: s) [47] = ((j + 1 : Nat) : Int) := by rw [hix, if_neg (fun e => hne (beq_iff_eq.1 e)), hj]; push_cast; rfl
        rw [Lib.splitK, hj, if_neg (by simp)] at ih
        rw [Lib.splitK, hix', if_neg (by simp; omega)]
        injection ih with a b
        have t1 : ((j : Int).toNat + 0) = j := by omega
        have t2 : (((j + 1 : Nat) : Int).toNat + 0) = j + 1 := by omega
        have t3 : ((j : Int).toNat + ([47] : List UInt8).length) = j + 1 := by simp
        have t4 : (((j + 1 : Nat) : Int).toNat + ([47] : List UInt8).length) = j + 1 + 1 := by simp
        rw [t1] at a
        rw [t3] at b
        rw [t2, t4, List.take_succ_cons, List.drop_succ_cons, a, b]
/-- The pieces of a text in memory. -/
theorem split_bs (s : ByteArray) : Lib.countB s (bs [47]) + 1 = (spl s.data.toList).length ∧ Lib.splitB (bs [47]) 0 (Lib.countB s (bs [47])) s = (spl s.data.toList).map bs := by
  have hc : Lib.countB s (bs [47]) = s.data.toList.count 47 := by
    rw [← Lib.count_one]; rfl
  have hd := Lib.splitB_data (bs [47]) 0 (Lib.countB s (bs [47])) s
  rw [hc] at hd ⊢
  have e : (bs [47]).data.toList = [47] := rfl
  rw [e, splitK_slash] at hd
  refine ⟨(count_slash _).symm, ?_⟩
  rw [← hd, List.map_map]
  have : (bs ∘ fun x : ByteArray => x.data.toList) = id := rfl
  rw [this, List.map_id]

/-! ### regions -/
def okR (c : UInt8) : Bool := c == 35 || c == 46
def outR (s : List UInt8) : Reg := ⟨wideU s, tallU s, (sigs s).map fun c => c != 46⟩
def goodU (ok : UInt8 → Bool) (s : List UInt8) : Bool := fitU s && (sigs s).all ok
def readR (s : List UInt8) : Reg × Bool := if goodU okR s && (outR s).valid then (outR s, true) else (Reg.zero, false)
def sgnR (r : Reg) (k : Nat) : UInt8 := if r.f k then 35 else 46
def rgText (r : Reg) : List UInt8 := if r.valid then textU (sgnR r) r.wide.toNat r.tall.toNat else []
theorem rgText_no {r : Reg} (h : r.valid = false) : rgText r = [] := by unfold rgText; rw [h]; rfl
theorem rgText_yes {r : Reg} (h : r.valid = true) : rgText r = textU (sgnR r) r.wide.toNat r.tall.toNat := by unfold rgText; rw [if_pos h]
theorem goodU_iff {ok : UInt8 → Bool} {s : List UInt8} : goodU ok s = true ↔ fitU s = true ∧ ∀ c ∈ sigs s, ok c = true := by
  unfold goodU; rw [Bool.and_eq_true, List.all_eq_true]
theorem readR_yes {s : List UInt8} (h : goodU okR s = true) (hv : (outR s).valid = true) : readR s = (outR s, true) := by unfold readR; rw [h, hv]; rfl
theorem readR_no {s : List UInt8} (h : goodU okR s = false ∨ (outR s).valid = false) : readR s = (Reg.zero, false) := by
  unfold readR
  rcases h with h | h <;> rw [h] <;> simp
theorem readR_cases (s : List UInt8) : goodU okR s = true ∧ (outR s).valid = true ∧ readR s = (outR s, true) ∨ (goodU okR s = false ∨ (outR s).valid = false) ∧ readR s = (Reg.zero, false) := by
  cases h : goodU okR s
  · exact .inr ⟨.inl rfl, readR_no (.inl h)⟩
  · cases hv : (outR s).valid
    · exact .inr ⟨.inr rfl, readR_no (.inr hv)⟩
    · exact .inl ⟨rfl, rfl, readR_yes h hv⟩
theorem text_of_signs {s : List UInt8} (h : fitU s = true) {sg : Nat → UInt8} (hs : ∀ k, k < wideU s * tallU s → sg k = (sigs s).getD k 0) : textU sg (wideU s) (tallU s) = s := by
  rw [text_congr hs]; exact fit_text h
theorem out_f (s : List UInt8) {k : Nat} (hk : k < (sigs s).length) : (outR s).f k = ((sigs s).getD k 0 != 46) := by
  unfold Reg.f outR
  simp only [List.getD_eq_getElem?_getD, List.getElem?_map, List.getElem?_eq_getElem hk, Option.map_some, Option.getD_some]
theorem good_text {s : List UInt8} (h : goodU okR s = true) (hv : (outR s).valid = true) : rgText (outR s) = s := by
  obtain ⟨hf, hc⟩ := goodU_iff.1 h
  rw [rgText_yes hv]
  have hl := sigs_len hf
  have hw : (outR s).wide.toNat = wideU s := by unfold outR; simp
  have ht : (outR s).tall.toNat = tallU s := by unfold outR; simp
  rw [hw, ht]
  refine text_of_signs hf fun k hk => ?_
  rw [← hl] at hk
  have hm : (sigs s).getD k 0 ∈ sigs s := by rw [List.getD_eq_getElem?_getD, List.getElem?_eq_getElem hk]; exact List.getElem_mem _
  have hok := hc _ hm
  unfold sgnR
  rw [out_f s hk]
  generalize (sigs s).getD k 0 = c at *
  unfold okR at hok
  simp only [Bool.or_eq_true, beq_iff_eq] at hok
  rcases hok with rfl | rfl <;> rfl
theorem text_good {r : Reg} (hv : r.valid = true) : goodU okR (rgText r) = true ∧ outR (rgText r) = r := by
  obtain ⟨v1, v2, v3, _⟩ := Reg.valid_iff.1 hv
  rw [rgText_yes hv]
  obtain ⟨h1, h2, h3, h4⟩ := text_fit (sg := sgnR r) (w := r.wide.toNat) (t := r.tall.toNat) (by omega) (by omega) fun k _ => by
    unfold sgnR; split <;> decide
  refine ⟨goodU_iff.2 ⟨h1, fun c hc => ?_⟩, ?_⟩
  · rw [h4] at hc
    obtain ⟨k, _, rfl⟩ := List.mem_map.1 hc
    unfold sgnR; split <;> rfl
  · unfold outR
    rw [h2, h3, h4]
    have hlen : r.cells.length = r.wide.toNat * r.tall.toNat := by
      have hw : r.wide = (r.wide.toNat : Int) := by omega
      have ht : r.tall = (r.tall.toNat : Int) := by omega
      rw [hw, ht, ← Int.natCast_mul] at v3
      omega
    have hc : ((List.range (r.wide.toNat * r.tall.toNat)).map (sgnR r)).map (fun c => c != 46) = r.cells := by
      rw [List.map_map]
      refine List.ext_getElem (by simp [hlen]) fun k h5 h6 => ?_
      simp only [List.getElem_map, List.getElem_range, Function.comp]
      unfold sgnR Reg.f
      rw [List.getD_eq_getElem?_getD, List.getElem?_eq_getElem h6, Option.getD_some]
      cases r.cells[k] <;> rfl
    rw [hc]
    have hw : ((r.wide.toNat : Nat) : Int) = r.wide := by omega
    have ht : ((r.tall.toNat : Nat) : Int) = r.tall := by omega
    rw [hw, ht]
theorem read_text {r : Reg} (hv : r.valid = true) : readR (rgText r) = (r, true) := by
  obtain ⟨h1, h2⟩ := text_good hv
  rw [readR_yes h1 (by rw [h2]; exact hv), h2]
/-- The reference's region. -/
def specR (s : List UInt8) : Reg := ⟨wideU s, tallU s, (sigs s).map fun c => c == 35⟩
theorem spec_read (s : List UInt8) : readR s = if s = [] ∨ rgText (specR s) ≠ s then (Reg.zero, false) else (specR s, true) := by
  rcases readR_cases s with ⟨h1, h2, h3⟩ | ⟨h1, h3⟩
  · obtain ⟨hf, hc⟩ := goodU_iff.1 h1
    have e : specR s = outR s := by
      unfold specR outR
      congr 1
      refine List.map_congr_left fun c hm => ?_
      have := hc c hm
      unfold okR at this
      simp only [Bool.or_eq_true, beq_iff_eq] at this
      rcases this with rfl | rfl <;> rfl
    rw [h3, e, if_neg]
    rintro (g | g)
    · exact fit_nonempty hf g
    · exact g (good_text h1 h2)
  · rw [h3]
    by_cases g : s = [] ∨ rgText (specR s) ≠ s
    · rw [if_pos g]
    · exfalso
      have g1 : s ≠ [] := fun e => g (.inl e)
      have g2 : rgText (specR s) = s := Classical.byContradiction fun e => g (.inr e)
      have hv : (specR s).valid = true := by
        cases hv : (specR s).valid
        · rw [rgText_no hv] at g2; exact absurd g2.symm g1
        · rfl
      obtain ⟨h4, h5⟩ := text_good hv
      rw [g2] at h4 h5
      rcases h1 with h | h
      · rw [h4] at h; cases h
      · rw [h5, hv] at h; cases h
/-- What was read, with a slash behind it. -/
theorem read_more {s : List UInt8} (h : (readR s).2 = true) : rgText (readR s).1 = s ∧ readR (s ++ [47]) = (Reg.zero, false) := by
  rcases readR_cases s with ⟨h1, h2, h3⟩ | ⟨_, h3⟩
  · rw [h3]
    refine ⟨good_text h1 h2, readR_no (.inl ?_)⟩
    unfold goodU
    rw [fit_snoc (goodU_iff.1 h1).1]; rfl
  · rw [h3] at h; cases h
end Domi

/- Blocks of the call's own, as one list of items with one law for each kind of change. No program is named here. -/
set_option linter.unusedVariables false
namespace Domi
open Go Go.RowKit

/-- A block that is known whole, or a slice of the call's own. -/
inductive It
  | box (g : Nat) (cs : Array Value) (t : TypeId)
  | row (e : TypeId) (v : Value) (xs : List Value)
def It.id : It → Option Nat
  | .box g _ _ => some g
  | .row _ v _ => v.ownBlock
def It.on : It → World → Prop
  | .box g cs t, w => w.heap[g]? = some (.cells cs t (0, 0))
  | .row e v xs, w => Own w 0 e v xs

theorem It.lt {p : It} {w : World} (h : p.on w) {k : Nat} (hk : p.id = some k) : k < w.heap.size := by
  cases p with
  | box g cs t => simp [It.id] at hk; subst hk; exact lt_of_heap h
  | row e v xs => exact (World.ownsRow.lt h k hk).2
theorem It.kept {p : It} {w w' : World} {r : Option Nat} (h : p.on w) (hg : w.grownBy w' r) (hne : ∀ k, p.id = some k → r ≠ some k) : p.on w' := by
  cases p with
  | box g cs t =>
    show w'.heap[g]? = _
    rw [hg.block g (lt_of_heap h) (fun e => hne g rfl e.symm)]; exact h
  | row e v xs =>
    refine World.ownsRow.kept h hg ?_
    cases hv : v.ownBlock with
    | none => exact .inl rfl
    | some k => exact .inr (fun e => hne k hv e.symm)

/-- Since w0 none of what was there has turned but the block 'row'; the items lie apart from each other, and from what was there. -/
structure Sep (w0 : World) (row : Option Nat) (w : World) (S : List It) : Prop where
  g : w0.grownBy w row
  dist : ∀ (i j : Nat) (p q : It) (k : Nat), i ≠ j → S[i]? = some p → S[j]? = some q → p.id = some k → q.id = some k → False
  at_ : ∀ (i : Nat) (p : It), S[i]? = some p → p.on w
  new : ∀ (i : Nat) (p : It) (k : Nat), S[i]? = some p → p.id = some k → w0.heap.size ≤ k

section
variable {w0 w w' : World} {row : Option Nat} {S : List It}

theorem Sep.start (w0 : World) (row : Option Nat) : Sep w0 row w0 [] :=
  ⟨grown_refl w0 row, fun i j p q k _ h => by simp at h, fun i p h => by simp at h, fun i p k h => by simp at h⟩

/-- The one law: item i, whose block alone may have turned, becomes p'. -/
theorem Sep.change (h : Sep w0 row w S) (i : Nat) {p p' : It} (hi : S[i]? = some p) (hg : w.grownBy w' p.id) (hp : p'.on w') (hid : ∀ k, p'.id = some k → p.id = some k ∨ w.heap.size ≤ k) : Sep w0 row w' (S.set i p') := by
  have hget : ∀ (j : Nat) (q : It), (S.set i p')[j]? = some q → (j = i ∧ q = p') ∨ (j ≠ i ∧ S[j]? = some q) := by
    intro j q hq
    by_cases e : i = j
    · subst e
      rw [List.getElem?_set_self (by exact (List.getElem?_eq_some_iff.1 hi).1)] at hq
      exact .inl ⟨rfl, (Option.some.inj hq).symm⟩
    · rw [List.getElem?_set_ne e] at hq; exact .inr ⟨fun e' => e e'.symm, hq⟩
  have hold : ∀ (j : Nat) (q : It) (k : Nat), j ≠ i → S[j]? = some q → q.id = some k → p'.id = some k → False := by
    intro j q k hj hq h1 h2
    rcases hid k h2 with h3 | h3
    · exact h.dist j i q p k hj hq hi h1 h3
    · have := It.lt (h.at_ j q hq) h1; omega
  refine ⟨?_, ?_, ?_, ?_⟩
  · refine grown_new h.g hg (fun k hk _ => h.new i p k hi hk)
  · intro j l q u k hjl hq hu h1 h2
    rcases hget j q hq with ⟨a1, a2⟩ | ⟨hj, hq'⟩ <;> rcases hget l u hu with ⟨b1, b2⟩ | ⟨hl, hu'⟩
    · exact hjl (a1.trans b1.symm)
    · exact hold l u k hl hu' h2 (a2 ▸ h1)
    · exact hold j q k hj hq' h1 (b2 ▸ h2)
    · exact h.dist j l q u k hjl hq' hu' h1 h2
  · intro j q hq
    rcases hget j q hq with ⟨rfl, rfl⟩ | ⟨hj, hq⟩
    · exact hp
    · exact It.kept (h.at_ j q hq) hg (fun k hk e => h.dist j i q p k hj hq hi hk e)
  · intro j q k hq hk
    rcases hget j q hq with ⟨rfl, rfl⟩ | ⟨hj, hq⟩
    · rcases hid k hk with h3 | h3
      · exact h.new _ p k hi h3
      · exact Nat.le_trans h.g.size h3
    · exact h.new j q k hq hk

/-- Nothing of the items has turned. -/
theorem Sep.kept (h : Sep w0 row w S) (hg : w.grownBy w' none) : Sep w0 row w' S :=
  ⟨grown_new h.g hg (fun k hk _ => by cases hk), h.dist, fun i p hi => It.kept (h.at_ i p hi) hg (fun k _ e => by cases e), h.new⟩
/-- The block 'row' alone may have turned. -/
theorem Sep.keptRow (h : Sep w0 row w S) (hg : w.grownBy w' row) (hr : ∀ k, row = some k → k < w0.heap.size) : Sep w0 row w' S :=
  ⟨grown_trans h.g hg, h.dist, fun i p hi => It.kept (h.at_ i p hi) hg (fun k hk e => by have := h.new i p k hi hk; have := hr k e; omega), h.new⟩
/-- A block that came later than the items. -/
theorem Sep.far {wx : World} (h : Sep w0 row w S) (hx : Sep w0 row wx S) {b : Nat} (hb : wx.heap.size ≤ b) (hg : w.grownBy w' (some b)) : Sep w0 row w' S :=
  ⟨grown_new h.g hg (fun k hk _ => by cases hk; exact Nat.le_trans hx.g.size hb), h.dist, fun i p hi => It.kept (h.at_ i p hi) hg (fun k hk e => by cases e; have := It.lt (hx.at_ i p hi) hk; omega), h.new⟩
theorem Sep.below (h : Sep w0 row w S) (hb : Below w.heap.size w w') : Sep w0 row w' S := h.kept (grown_below hb none)
theorem Sep.drew (h : Sep w0 row w S) : Sep w0 row w.drew S := h.kept (grown_drew (grown_refl w none))
theorem Sep.drewN (h : Sep w0 row w S) (n : Nat) : Sep w0 row (w.drewN n) S := h.kept (grown_drewN (grown_refl w none) n)
theorem Sep.later (h : Sep w0 row w S) (L : Later w) : Sep w0 row L.x S := h.below L.h

/-- One item more. -/
theorem Sep.more (h : Sep w0 row w S) {p : It} (hp : p.on w) (hid : ∀ k, p.id = some k → w0.heap.size ≤ k ∧ ∀ (j : Nat) (q : It), S[j]? = some q → q.id ≠ some k) : Sep w0 row w (S ++ [p]) := by
  have hget : ∀ (j : Nat) (q : It), (S ++ [p])[j]? = some q → (j = S.length ∧ q = p) ∨ (j < S.length ∧ S[j]? = some q) := by
    intro j q hq
    rcases Nat.lt_or_ge j S.length with hl | hl
    · rw [List.getElem?_append_left hl] at hq; exact .inr ⟨hl, hq⟩
    · rw [List.getElem?_append_right hl] at hq
      obtain ⟨hj, hq⟩ := List.getElem?_eq_some_iff.1 hq
      simp at hj hq
      exact .inl ⟨by omega, hq.symm⟩
  refine ⟨h.g, ?_, ?_, ?_⟩
  · intro i j q u k hij hq hu h1 h2
    rcases hget i q hq with ⟨a1, a2⟩ | ⟨hi, hq'⟩ <;> rcases hget j u hu with ⟨b1, b2⟩ | ⟨hj, hu'⟩
    · exact hij (a1.trans b1.symm)
    · exact (hid k (a2 ▸ h1)).2 j u hu' h2
    · exact (hid k (b2 ▸ h2)).2 i q hq' h1
    · exact h.dist i j q u k hij hq' hu' h1 h2
  · intro i q hq
    rcases hget i q hq with ⟨rfl, rfl⟩ | ⟨_, hq⟩
    · exact hp
    · exact h.at_ i q hq
  · intro i q k hq hk
    rcases hget i q hq with ⟨rfl, rfl⟩ | ⟨_, hq⟩
    · exact (hid k hk).1
    · exact h.new i q k hq hk
theorem Sep.fresh (h : Sep w0 row w S) {k : Nat} (hk : w.heap.size ≤ k) : w0.heap.size ≤ k ∧ ∀ (j : Nat) (q : It), S[j]? = some q → q.id ≠ some k :=
  ⟨Nat.le_trans h.g.size hk, fun j q hq e => by have := It.lt (h.at_ j q hq) e; omega⟩
theorem Sep.alloc (h : Sep w0 row w S) (o : Obj) : Sep w0 row (w.alloc o) S := h.kept (World.grownBy_alloc w o none)
theorem Sep.box (h : Sep w0 row w S) (cs : Array Value) (t : TypeId) : Sep w0 row (w.alloc (.cells cs t)) (S ++ [.box w.heap.size cs t]) :=
  (h.alloc _).more (heap_alloc_new w _) (fun k hk => by
    have hk' : w.heap.size = k := by simpa [It.id] using hk
    subst hk'
    exact ⟨h.g.size, fun j q hq e => by have := It.lt (h.at_ j q hq) e; omega⟩)
theorem Sep.nil (h : Sep w0 row w S) (e : TypeId) : Sep w0 row w (S ++ [.row e (.slice none 0 0) []]) :=
  h.more (Own.nil w 0 e) (fun k hk => by simp [It.id, Value.ownBlock] at hk)
theorem Sep.made (h : Sep w0 row w S) {e : TypeId} {n : Nat} {z : Value} {cs : Array Value} (hc : Hid (cs = Array.replicate n z)) (hn : n ≤ 9223372036854775807) :
    Sep w0 row (w.alloc (.cells cs e)) (S ++ [.row e (.slice (some ⟨w.heap.size, 0, none⟩) n n) (List.replicate n z)]) :=
  (h.alloc _).more (Own.made hc (Nat.zero_le _) hn) (fun k hk => by
    have hk' : w.heap.size = k := by simpa [It.id, Value.ownBlock] using hk
    subst hk'
    exact ⟨h.g.size, fun j q hq e => by have := It.lt (h.at_ j q hq) e; omega⟩)
theorem Sep.lit (h : Sep w0 row w S) (e : TypeId) (cs : Array Value) (n : Nat) (hs : cs.size = n) (hn : n ≤ 9223372036854775807) :
    Sep w0 row (w.alloc (.cells cs e)) (S ++ [.row e (.slice (some ⟨w.heap.size, 0, none⟩) n n) cs.toList]) :=
  (h.alloc _).more (by
    have := World.ownsRow_lit (base := 0) (size := 1) (e := e) w cs n (Nat.zero_le _) (by unfold maxLen; omega) (by simpa using hs)
    have e2 : cs.toList.length = n := by simpa using hs
    show World.ownsRow _ _ _ _ _ cs.toList.length cs.toList
    rw [e2]; exact this) (fun k hk => by
    have hk' : w.heap.size = k := by simpa [It.id, Value.ownBlock] using hk
    subst hk'
    exact ⟨h.g.size, fun j q hq e => by have := It.lt (h.at_ j q hq) e; omega⟩)

/-- A store into a block that is known whole. -/
theorem Sep.put (h : Sep w0 row w S) (i : Nat) {g : Nat} {cs : Array Value} {t : TypeId} (hi : S[i]? = some (.box g cs t)) (k : Nat) (v : Value) :
    Sep w0 row (w.setCell ⟨g, k, none⟩ v) (S.set i (.box g (cs.setIfInBounds k v) t)) :=
  h.change i hi (grown_setCell w g k none v) (heap_setCell_same w g k cs t v (h.at_ i _ hi)) (fun _ hk => .inl hk)
theorem Sep.put3 (h : Sep w0 row w S) (i : Nat) {g : Nat} {x y z : Value} {t : TypeId} (hi : S[i]? = some (.box g #[x, y, z] t)) (x' y' z' : Value) :
    Sep w0 row (((w.setCell ⟨g, 0, none⟩ x').setCell ⟨g, 1, none⟩ y').setCell ⟨g, 2, none⟩ z') (S.set i (.box g #[x', y', z'] t)) :=
  h.change i hi (grown_trans (grown_trans (grown_setCell w g 0 none x') (grown_setCell _ g 1 none y')) (grown_setCell _ g 2 none z')) (Domi.put3 (h.at_ i _ hi)) (fun _ hk => .inl hk)
/-- A block that a call has turned. -/
theorem Sep.turned (h : Sep w0 row w S) (i : Nat) {g : Nat} {cs cs' : Array Value} {t t' : TypeId} (hi : S[i]? = some (.box g cs t)) (hg : w.grownBy w' (some g)) (hb : w'.heap[g]? = some (.cells cs' t' (0, 0))) :
    Sep w0 row w' (S.set i (.box g cs' t')) := h.change i hi hg hb (fun _ hk => .inl hk)
/-- A store into a slice of the call's own. -/
theorem Sep.set (h : Sep w0 row w S) (i : Nat) {e : TypeId} {g n c : Nat} {xs : List Value} (hi : S[i]? = some (.row e (.slice (some ⟨g, 0, none⟩) n c) xs)) (j : Nat) (u : Value) :
    Sep w0 row (w.setCell ⟨g, j, none⟩ u) (S.set i (.row e (.slice (some ⟨g, 0, none⟩) n c) (xs.set j u))) :=
  h.change i hi (grown_setCell w g j none u) (Own.stored (h.at_ i _ hi) j u) (fun _ hk => .inl hk)
/-- An append to a slice of the call's own. -/
theorem Sep.app (h : Sep w0 row w S) (i : Nat) {e : TypeId} {v : Value} {xs : List Value} {x : Value} {B g cap : Nat} (hi : S[i]? = some (.row e v xs)) (A : App w B e v xs x g cap w') :
    Sep w0 row w' (S.set i (.row e (.slice (some ⟨g, 0, none⟩) (xs.length + 1) cap) (xs ++ [x]))) := by
  refine h.change i hi A.grown ?_ ?_
  · have := Own.mono A.own (Nat.zero_le _)
    show Own _ _ _ _ _
    simpa [Own] using this
  · intro k hk
    have hk' : g = k := by simpa [It.id, Value.ownBlock] using hk
    subst hk'
    rcases A.lies with h1 | h1
    · exact .inl h1
    · exact .inr (by omega)
/-- Some of the items, in another order. -/
theorem Sep.pick (h : Sep w0 row w S) (is : List Nat) (hn : is.Nodup) (hl0 : (is.all fun i => decide (i < S.length)) = true) : Sep w0 row w (is.filterMap fun i => S[i]?) := by
  have key : ∀ (is : List Nat), is.Nodup → (∀ i ∈ is, i < S.length) → ∀ (j : Nat) (p : It), (is.filterMap fun i => S[i]?)[j]? = some p → ∃ i, is[j]? = some i ∧ S[i]? = some p := by
    intro is
    induction is with
    | nil => intro _ _ j p hp; simp at hp
    | cons a l ih =>
      intro hn hl j p hp
      have ha : a < S.length := hl a (by simp)
      have hsa : S[a]? = some S[a] := List.getElem?_eq_getElem ha
      rw [List.filterMap_cons, hsa] at hp
      cases j with
      | zero => exact ⟨a, by simp, by rw [hsa]; simpa using hp⟩
      | succ j => exact ih (List.nodup_cons.1 hn).2 (fun i hi => hl i (by simp [hi])) j p (by simpa using hp)
  have hl : ∀ i ∈ is, i < S.length := fun i hi => by simpa using List.all_eq_true.1 hl0 i hi
  refine ⟨h.g, ?_, ?_, ?_⟩
  · intro i j p q k hij hp hq h1 h2
    obtain ⟨a, ha, hpa⟩ := key is hn hl i p hp
    obtain ⟨b, hb, hqb⟩ := key is hn hl j q hq
    refine h.dist a b p q k ?_ hpa hqb h1 h2
    intro e; subst e
    obtain ⟨hi', e1⟩ := List.getElem?_eq_some_iff.1 ha
    obtain ⟨hj', e2⟩ := List.getElem?_eq_some_iff.1 hb
    exact hij (List.getElem_inj hn |>.1 (e1.trans e2.symm))
  · intro i p hp
    obtain ⟨a, _, hpa⟩ := key is hn hl i p hp
    exact h.at_ a p hpa
  · intro i p k hp hk
    obtain ⟨a, _, hpa⟩ := key is hn hl i p hp
    exact h.new a p k hpa hk

/-- A slice that came later than the items. -/
theorem Sep.add {wx : World} (h : Sep w0 row w S) (hx : Sep w0 row wx S) {e : TypeId} {v : Value} {xs : List Value} (ho : Own w wx.heap.size e v xs) : Sep w0 row w (S ++ [.row e v xs]) :=
  h.more (Own.mono ho (Nat.zero_le _)) (fun k hk => hx.fresh (World.ownsRow.lt ho k hk).1)
theorem Sep.blk (h : Sep w0 row w S) (i : Nat) {g : Nat} {cs : Array Value} {t : TypeId} (hi : S[i]? = some (.box g cs t)) : w.heap[g]? = some (.cells cs t (0, 0)) := h.at_ i _ hi
theorem Sep.own (h : Sep w0 row w S) (i : Nat) {e : TypeId} {v : Value} {xs : List Value} (hi : S[i]? = some (.row e v xs)) : Own w 0 e v xs := h.at_ i _ hi
theorem Sep.ne (h : Sep w0 row w S) (i j : Nat) {p q : It} {a b : Nat} (hi : S[i]? = some p) (hj : S[j]? = some q) (hij : i ≠ j) (ha : p.id = some a) (hb : q.id = some b) : a ≠ b := fun e => h.dist i j p q a hij hi hj ha (e ▸ hb)
theorem Sep.ge (h : Sep w0 row w S) (i : Nat) {p : It} {a : Nat} (hi : S[i]? = some p) (ha : p.id = some a) : w0.heap.size ≤ a := h.new i p a hi ha
theorem Sep.lt (h : Sep w0 row w S) (i : Nat) {p : It} {a : Nat} (hi : S[i]? = some p) (ha : p.id = some a) : a < w.heap.size := It.lt (h.at_ i p hi) ha
theorem Sep.bel (h : Sep w0 none w S) : Below w0.heap.size w0 w := below_grown h.g (Nat.le_refl _) (fun i hi => by cases hi)
end

/-- The cells of a row. -/
theorem Own.form {w : World} {B : Nat} {e : TypeId} {v : Value} {xs : List Value} (h : Own w B e v xs) : ∃ a c, v = .slice a xs.length c := by
  obtain ⟨a, c, h, _⟩ := h.sl; exact ⟨a, c, h⟩
theorem Own.formM {α : Type} {w : World} {B : Nat} {e : TypeId} {v : Value} {l : List α} {f : α → Value} (h : Own w B e v (l.map f)) : ∃ a c, v = .slice a l.length c := by
  obtain ⟨a, c, h⟩ := h.form; exact ⟨a, c, by simpa using h⟩

end Domi

/- Appending a whole slice; a slice that is of the call's own. No program is named here. -/
set_option linter.unusedVariables false
namespace Domi
open Go Go.RowKit

/-- What an append of the values news leaves. -/
structure AppN (w : World) (B : Nat) (e : TypeId) (v : Value) (xs news : List Value) (g cap : Nat) (w' : World) : Prop where
  own : Own w' B e (.slice (some ⟨g, 0, none⟩) (xs.length + news.length) cap) (xs ++ news)
  grown : w.grownBy w' v.ownBlock
  lies : v.ownBlock = some g ∨ g = w.heap.size
  lt : g < w'.heap.size

/-- A slice that reads as news, which is not empty. -/
theorem Sl.form {w : World} {v : Value} {xs : List Value} (h : Sl w v xs) (hne : 0 < xs.length) :
    ∃ b off cap, v = .slice (some ⟨b, off, none⟩) xs.length cap ∧ b < w.heap.size ∧ ∀ j u, xs[j]? = some u → w.cell? ((⟨b, off, none⟩ : Addr).add j) = some u := by
  obtain ⟨a, cap, rfl, h1, h2, h3⟩ := h
  rcases h3 with rfl | ⟨b, off, rfl, hl, hc⟩
  · simp at hne
  · refine ⟨b, off, cap, rfl, hl, fun j u hu => ?_⟩
    obtain ⟨hj, e⟩ := List.getElem?_eq_some_iff.1 hu
    have hadd : (⟨b, off, none⟩ : Addr).add j = ⟨b, off + j, none⟩ := by unfold Addr.add; split <;> simp_all
    rw [hadd, hc j hj, e]

section
variable {P : Program} {t e : TypeId} {bytes : Nat} {w : World} {ops : Array Oper} {o : Oper} {a : Act} {Q : Exit → Act → World → Prop}
theorem step_appN (E : ElemOk P t e bytes) (B : Nat) (v : Value) (xs : List Value) (hown : Own w B e v xs) (u : Value) (news : List Value) (hu : Sl w u news) (hne : 0 < news.length) (s y : Operand)
    {K : Act → World → Prop} {F : Prop} (hgd : o.guard = none)
    (ho : o.op = .call { callee := .builtin .append, args := #[s, y], argTypes := #[t, t] }) (hs : a.eval s = v) (hx : a.eval y = u) (h1 : ∀ x ∈ news, x.oneCell' = true)
    (hl : (xs.length + news.length) * (bytes + 1) ≤ 140737488355328) (hB : B ≤ w.heap.size)
    (h : ∀ g cap w', AppN w B e v xs news g cap w' → K (a.put o.dst (.slice (some ⟨g, 0, none⟩) (xs.length + news.length) cap)) w') :
    if Region.wanted o (yielded ops a.tmps) = true then Oper.wp P o a w K Q else F := by
  obtain ⟨i, z, i1, i2, i3, i4, i5⟩ := E.info
  obtain ⟨b, off, c, rfl, _, hn⟩ := hu.form hne
  rw [Nat.mul_add] at hl
  refine step_append_lies w hgd s y t ho B e i z 1 bytes E.ht i1 i2 i3 i4 i5 (by omega) v xs.length xs hs hown ⟨b, off, none⟩ news.length c news hx (by simp) hn h1 hne (by unfold maxLen; omega) (by omega) hB _ rfl ?_
  intro g cap w' k1 k2 k3 k4
  exact h g cap w' ⟨by simpa [Own] using k1, k2, k3, k4⟩
theorem list_appN (E : ElemOk P t e bytes) (B : Nat) (v : Value) (xs : List Value) (hown : Own w B e v xs) (u : Value) (news : List Value) (hu : Sl w u news) (hne : 0 < news.length) (s y : Operand)
    {rest : List Oper} (hgd : o.guard = none)
    (ho : o.op = .call { callee := .builtin .append, args := #[s, y], argTypes := #[t, t] }) (hs : a.eval s = v) (hx : a.eval y = u) (h1 : ∀ x ∈ news, x.oneCell' = true)
    (hl : (xs.length + news.length) * (bytes + 1) ≤ 140737488355328) (hB : B ≤ w.heap.size)
    (h : ∀ g cap w', AppN w B e v xs news g cap w' → wpList P ops Q rest (a.put o.dst (.slice (some ⟨g, 0, none⟩) (xs.length + news.length) cap)) w') :
    wpList P ops Q (o :: rest) a w := by
  obtain ⟨i, z, i1, i2, i3, i4, i5⟩ := E.info
  obtain ⟨b, off, c, rfl, _, hn⟩ := hu.form hne
  rw [Nat.mul_add] at hl
  refine wpList_append_lies w hgd s y t ho B e i z 1 bytes E.ht i1 i2 i3 i4 i5 (by omega) v xs.length xs hs hown ⟨b, off, none⟩ news.length c news hx (by simp) hn h1 hne (by unfold maxLen; omega) (by omega) hB _ rfl ?_
  intro g cap w' k1 k2 k3 k4
  exact h g cap w' ⟨by simpa [Own] using k1, k2, k3, k4⟩
end

theorem Sep.appN {w0 w w' : World} {row : Option Nat} {S : List It} (h : Sep w0 row w S) (i : Nat) {e : TypeId} {v : Value} {xs news : List Value} {B g cap : Nat} (hi : S[i]? = some (.row e v xs)) (A : AppN w B e v xs news g cap w') :
    Sep w0 row w' (S.set i (.row e (.slice (some ⟨g, 0, none⟩) (xs.length + news.length) cap) (xs ++ news))) := by
  refine h.change i hi A.grown ?_ ?_
  · have := Own.mono A.own (Nat.zero_le _)
    show Own _ _ _ _ _
    simpa [Own] using this
  · intro k hk
    have hk' : g = k := by simpa [It.id, Value.ownBlock] using hk
    subst hk'
    rcases A.lies with h1 | h1
    · exact .inl h1
    · exact .inr (by omega)
/-- An empty slice of a new block. -/
theorem Sep.empty {w0 w : World} {row : Option Nat} {S : List It} (h : Sep w0 row w S) (e : TypeId) : Sep w0 row (w.alloc (.cells #[] e)) (S ++ [.row e (.slice (some ⟨w.heap.size, 0, none⟩) 0 0) []]) := h.lit e #[] 0 rfl (by omega)

/-- Two boxes at the start of a call. -/
theorem Sep.two (w : World) (row : Option Nat) (cs cs' : Array Value) (t t' : TypeId) : Sep w row ((w.alloc (.cells cs t)).alloc (.cells cs' t')) [.box w.heap.size cs t, .box (w.heap.size + 1) cs' t'] := by
  have := ((Sep.start w row).box cs t).box cs' t'
  simpa using this
theorem Sep.three (w : World) (row : Option Nat) (cs cs' cs'' : Array Value) (t t' t'' : TypeId) : Sep w row (((w.alloc (.cells cs t)).alloc (.cells cs' t')).alloc (.cells cs'' t'')) [.box w.heap.size cs t, .box (w.heap.size + 1) cs' t', .box (w.heap.size + 2) cs'' t''] := by
  have := (((Sep.start w row).box cs t).box cs' t').box cs'' t''
  simpa using this

/-- A slice of the call's own, and nothing else has turned. -/
def RetO (e : TypeId) (l : List Value) (w : World) (x : Ending) (w' : World) : Prop := ∃ v, x = .returned v ∧ Own w' w.heap.size e v l ∧ Below w.heap.size w w'
theorem Sep.high {w w' : World} {S : List It} {row : Option Nat} (h : Sep w row w' S) (i : Nat) {e : TypeId} {v : Value} {xs : List Value} (hi : S[i]? = some (.row e v xs)) : Own w' w.heap.size e v xs := by
  have h1 := h.own i hi
  refine ⟨h1.1, ?_⟩
  rcases h1.2 with h2 | ⟨g, cap, cur, rfl, _, r⟩
  · exact .inl h2
  · exact .inr ⟨g, cap, cur, rfl, h.ge i hi rfl, r⟩
theorem Own.formN {w : World} {B : Nat} {e : TypeId} {v : Value} {xs : List Value} (h : Own w B e v xs) (hne : 0 < xs.length) :
    ∃ g cap, v = .slice (some ⟨g, 0, none⟩) xs.length cap ∧ B ≤ g ∧ g < w.heap.size ∧ xs.length ≤ cap ∧ cap ≤ 9223372036854775807 := by
  rcases h.2 with ⟨_, h0⟩ | ⟨g, cap, cur, rfl, hb, hg, hc, hm, _⟩
  · omega
  · exact ⟨g, cap, rfl, hb, lt_of_heap hg, hc, by unfold maxLen at hm; exact hm⟩
/-- The slice expression s[:len:len] of a slice of the call's own. -/
theorem Own.clip {w : World} {B : Nat} {e : TypeId} {g n c : Nat} {xs : List Value} (h : Sl w (.slice (some ⟨g, 0, none⟩) n c) xs) : Sl w (.slice (some ⟨g, 0, none⟩) n n) xs := by
  obtain ⟨a, cap, e, h1, h2, h3⟩ := h
  simp only [Value.slice.injEq] at e
  obtain ⟨rfl, rfl, rfl⟩ := e
  exact ⟨_, _, rfl, Nat.le_refl _, by omega, h3⟩
/-- A block that a call has made. -/
theorem Sep.cloned {w0 w w' : World} {row : Option Nat} {S : List It} (h : Sep w0 row w S) (hb : Below w.heap.size w w') {g : Nat} {cur : Array Value} {e : TypeId} (hg : w.heap.size ≤ g) (hk : w'.heap[g]? = some (.cells cur e (0, 0))) :
    Sep w0 row w' (S ++ [.box g cur e]) :=
  (h.below hb).more hk (fun k hk' => by
    have e : g = k := by simpa [It.id] using hk'
    subst e
    exact h.fresh hg)
theorem Sep.c3 {w0 w : World} {row : Option Nat} {S : List It} (h : Sep w0 row w S) (i : Nat) {g : Nat} {x y z : Value} {t : TypeId} (hi : S[i]? = some (.box g #[x, y, z] t)) :
    w.cell? ⟨g, 0, none⟩ = some x ∧ w.cell? ⟨g, 1, none⟩ = some y ∧ w.cell? ⟨g, 2, none⟩ = some z :=
  ⟨(three_cells (h.blk i hi)).1, (three_cells (h.blk i hi)).2.1, (three_cells (h.blk i hi)).2.2.1⟩
/-- A slice over a block that is known whole. -/
theorem box_sl {w : World} {g n c : Nat} {cur : Array Value} {e : TypeId} {xs : List Value} (h : w.heap[g]? = some (.cells cur e (0, 0))) (ht : cur.toList.take n = xs) (hn : n = xs.length) (hc : n ≤ c) (hm : c ≤ 9223372036854775807) : Sl w (.slice (some ⟨g, 0, none⟩) n c) xs := by
  subst hn
  refine ⟨_, c, rfl, hc, hm, .inr ⟨g, 0, rfl, lt_of_heap h, fun i hi => ?_⟩⟩
  rw [Nat.zero_add, cell_of_row w g i cur e (0, 0) h]
  have := take_getElem ht i hi
  simpa using this
theorem take_put {cur : Array Value} {n k : Nat} {xs : List Value} {v : Value} (h : cur.toList.take n = xs) : (cur.setIfInBounds k v).toList.take n = xs.set k v := by
  subst h
  rw [Array.toList_setIfInBounds, List.take_set]
/-- A cell of such a slice. -/
theorem box_cell {w : World} {g n k : Nat} {cur : Array Value} {e : TypeId} {xs : List Value} (h : w.heap[g]? = some (.cells cur e (0, 0))) (ht : cur.toList.take n = xs) (hk : k < xs.length) :
    ∃ u, w.cell? ⟨g, k, none⟩ = some u ∧ w.frozen? ⟨g, k, none⟩ = false ∧ xs[k]? = some u := by
  have h1 : k < cur.toList.length := by rw [← ht] at hk; simp at hk; simp; omega
  refine ⟨cur.toList[k], ?_, frozen_of_row w g k _ _ h, ?_⟩
  · rw [cell_of_row w g k cur e (0, 0) h]; simp at h1; simp [h1]
  · rw [← ht] at hk ⊢
    rw [List.getElem?_take, if_pos (by simp at hk; omega)]
    simp at h1; simp [h1]
/-- What an append of the values news to an empty slice leaves. -/
structure CopyN (w : World) (e : TypeId) (v : Value) (N : Nat) (news : List Value) (g cap : Nat) (w' : World) : Prop where
  own : Own w' 0 e (.slice (some ⟨g, 0, none⟩) N cap) news
  len : news.length = N
  grown : w.grownBy w' v.ownBlock
  lies : v.ownBlock = some g ∨ g = w.heap.size
  lt : g < w'.heap.size
  le : N ≤ cap
  max : cap ≤ 9223372036854775807
theorem AppN.copy {w w' : World} {e : TypeId} {v : Value} {N : Nat} {news : List Value} {g cap : Nat} (A : AppN w 0 e v [] news g cap w') (hN : news.length = N) : CopyN w e v N news g cap w' := by
  have h := A.own
  simp only [List.length_nil, Nat.zero_add, List.nil_append, hN] at h
  obtain ⟨a, c, e1, h1, h2, _⟩ := h.sl
  simp only [Value.slice.injEq] at e1
  obtain ⟨_, _, rfl⟩ := e1
  exact ⟨h, hN, A.grown, A.lies, A.lt, by omega, h2⟩
section
variable {P : Program} {t e : TypeId} {bytes : Nat} {w : World} {ops : Array Oper} {o : Oper} {a : Act} {Q : Exit → Act → World → Prop}
theorem step_copy (E : ElemOk P t e bytes) (v : Value) (hown : Own w 0 e v []) (u : Value) (news : List Value) (hu : Sl w u news) (N : Nat) (hN : news.length = N) (hne : 0 < N) (s y : Operand)
    {K : Act → World → Prop} {F : Prop} (hgd : o.guard = none)
    (ho : o.op = .call { callee := .builtin .append, args := #[s, y], argTypes := #[t, t] }) (hs : a.eval s = v) (hx : a.eval y = u) (h1 : ∀ x ∈ news, x.oneCell' = true)
    (hl : N * (bytes + 1) ≤ 140737488355328)
    (h : ∀ g cap w', CopyN w e v N news g cap w' → K (a.put o.dst (.slice (some ⟨g, 0, none⟩) N cap)) w') :
    if Region.wanted o (yielded ops a.tmps) = true then Oper.wp P o a w K Q else F :=
  step_appN E 0 v [] hown u news hu (by omega) s y hgd ho hs hx h1 (by simpa [hN] using hl) (Nat.zero_le _) fun g cap w' A => by
    have := h g cap w' (A.copy hN)
    simpa [hN] using this
theorem list_copy (E : ElemOk P t e bytes) (v : Value) (hown : Own w 0 e v []) (u : Value) (news : List Value) (hu : Sl w u news) (N : Nat) (hN : news.length = N) (hne : 0 < N) (s y : Operand)
    {rest : List Oper} (hgd : o.guard = none)
    (ho : o.op = .call { callee := .builtin .append, args := #[s, y], argTypes := #[t, t] }) (hs : a.eval s = v) (hx : a.eval y = u) (h1 : ∀ x ∈ news, x.oneCell' = true)
    (hl : N * (bytes + 1) ≤ 140737488355328)
    (h : ∀ g cap w', CopyN w e v N news g cap w' → wpList P ops Q rest (a.put o.dst (.slice (some ⟨g, 0, none⟩) N cap)) w') :
    wpList P ops Q (o :: rest) a w :=
  list_appN E 0 v [] hown u news hu (by omega) s y hgd ho hs hx h1 (by simpa [hN] using hl) (Nat.zero_le _) fun g cap w' A => by
    have := h g cap w' (A.copy hN)
    simpa [hN] using this
end
theorem Sep.copied {w0 w w' : World} {row : Option Nat} {S : List It} (h : Sep w0 row w S) (i : Nat) {e : TypeId} {v : Value} {news : List Value} {N g cap : Nat} (hi : S[i]? = some (.row e v [])) (A : CopyN w e v N news g cap w') :
    Sep w0 row w' (S.set i (.row e (.slice (some ⟨g, 0, none⟩) N cap) news)) := by
  refine h.change i hi A.grown ?_ ?_
  · have := A.own
    show Own _ _ _ _ _
    exact this
  · intro k hk
    have hk' : g = k := by simpa [It.id, Value.ownBlock] using hk
    subst hk'
    rcases A.lies with h1 | h1
    · exact .inl h1
    · exact .inr (by omega)
/-- A slice that came later than items with these places. -/
theorem Sep.add2 {w0 wx w : World} {row : Option Nat} {S S' : List It} (h : Sep w0 row w S) (hx : Sep w0 row wx S') (hs : S.map It.id = S'.map It.id) {e : TypeId} {v : Value} {xs : List Value} (ho : Own w wx.heap.size e v xs) : Sep w0 row w (S ++ [.row e v xs]) :=
  h.more (Own.mono ho (Nat.zero_le _)) (fun k hk => by
    have hk1 := (World.ownsRow.lt ho k hk).1
    refine ⟨Nat.le_trans hx.g.size hk1, fun j q hq e => ?_⟩
    have h1 : (S.map It.id)[j]? = some q.id := by rw [List.getElem?_map, hq]; rfl
    rw [hs, List.getElem?_map] at h1
    cases hq' : S'[j]? with
    | none => rw [hq'] at h1; simp at h1
    | some q' =>
      rw [hq'] at h1
      simp at h1
      have := It.lt (hx.at_ j q' hq') (h1.trans e)
      omega)

end Domi

/- Blocks of all types but two stand: what a callback keeps. No program is named here. -/
set_option linter.unusedVariables false
namespace Domi
open Go Go.RowKit

/-- Every block of another type than T and U stands as it was. -/
structure KB (T U : TypeId) (w w' : World) : Prop where
  os : w'.os = w.os
  tape : w'.tape = w.tape
  output : w'.output = w.output
  size : w.heap.size ≤ w'.heap.size
  blk : ∀ (b : Nat) (cs : Array Value) (t : TypeId) (fr : Nat × Nat), w.heap[b]? = some (Obj.cells cs t fr) → t ≠ T → t ≠ U → w'.heap[b]? = w.heap[b]?
section
variable {T U : TypeId}
theorem KB.refl (w : World) : KB T U w w := ⟨rfl, rfl, rfl, Nat.le_refl _, fun _ _ _ _ _ _ _ => rfl⟩
theorem KB.trans {a b c : World} (h : KB T U a b) (g : KB T U b c) : KB T U a c :=
  ⟨g.os.trans h.os, g.tape.trans h.tape, g.output.trans h.output, Nat.le_trans h.size g.size, fun k cs t fr hc h1 h2 => by
    have e := h.blk k cs t fr hc h1 h2
    exact (g.blk k cs t fr (e.trans hc) h1 h2).trans e⟩
theorem KB.of_below {w w' : World} (h : Below w.heap.size w w') : KB T U w w' :=
  ⟨h.os, h.tape, h.output, h.size, fun k cs t fr hc _ _ => h.block k (lt_of_heap hc)⟩
theorem KB.drew {w w' : World} (h : KB T U w w') : KB T U w w'.drew := h.trans (KB.of_below (Below.refl _ _).drew)
theorem KB.of_grown {w w' : World} {row : Option Nat} (h : w.grownBy w' row) (hr : ∀ (k : Nat) (cs : Array Value) (t : TypeId) (fr : Nat × Nat), row = some k → w.heap[k]? = some (Obj.cells cs t fr) → t = T ∨ t = U) : KB T U w w' :=
  ⟨h.os, h.tape, h.output, h.size, fun k cs t fr hc h1 h2 => h.block k (lt_of_heap hc) fun e => by
    rcases hr k cs t fr e.symm hc with e | e
    · exact h1 e
    · exact h2 e⟩
theorem Ow.kb {w w' : World} {B : Nat} {e : TypeId} {v : Value} {xs : List Value} (h : Ow w B e v xs) (hk : KB T U w w') (h1 : e ≠ T) (h2 : e ≠ U) : Ow w' B e v xs := by
  rcases h with h | ⟨g, cap, cur, rfl, hB, hg, r⟩
  · exact .inl h
  · exact .inr ⟨g, cap, cur, rfl, hB, by rw [hk.blk g cur e _ hg h1 h2]; exact hg, r⟩
end
theorem Ow.il {w : World} {B : Nat} {e : TypeId} {v : Value} {l : List Int} (h : Ow w B e v (l.map (Value.int .i64))) : Il w v l := h.sl
/-- The type of a row's block. -/
theorem Own.btype {w : World} {B : Nat} {e : TypeId} {v : Value} {xs : List Value} (h : Own w B e v xs) {k : Nat} {cs : Array Value} {t : TypeId} {fr : Nat × Nat} (hv : v.ownBlock = some k) (hk : w.heap[k]? = some (.cells cs t fr)) : t = e := by
  rcases h.2 with ⟨rfl, _⟩ | ⟨g, cap, cur, rfl, _, hg, _⟩
  · cases hv
  · have e1 : g = k := by simpa [Value.ownBlock] using hv
    subst e1
    rw [hg] at hk
    cases hk; rfl

/-! ### lists of lists -/
/-- The slice value v reads, in the world w, as the lists xs. -/
def Ll (w : World) (v : Value) (xs : List (List Int)) : Prop := ∃ vs : List Value, Sl w v vs ∧ vs.length = xs.length ∧ ∀ i, i < xs.length → Il w (vs.getD i (.bool false)) (xs.getD i [])
theorem Ll.below {w w' : World} {v : Value} {xs : List (List Int)} (h : Ll w v xs) (hb : Below w.heap.size w w') : Ll w' v xs := by
  obtain ⟨vs, h1, h2, h3⟩ := h; exact ⟨vs, Sl.below h1 hb, h2, fun i hi => (h3 i hi).below hb⟩
theorem Ll.nil (w : World) : Ll w (.slice none 0 0) [] := ⟨[], Sl.nil w, rfl, fun i hi => by simp at hi⟩
theorem Ll.opened {w : World} {v : Value} {xs : List (List Int)} (h : Ll w v xs) :
    ∃ a cap, v = .slice a xs.length cap ∧ xs.length ≤ cap ∧ cap ≤ 9223372036854775807 ∧
      (xs = [] ∨ ∃ b off, a = some ⟨b, off, none⟩ ∧ b < w.heap.size ∧ ∀ i, i < xs.length → ∃ u, w.cell? ⟨b, off + i, none⟩ = some u ∧ Il w u (xs.getD i [])) := by
  obtain ⟨vs, ⟨a, cap, rfl, h1, h2, h3⟩, hl, hc⟩ := h
  rw [hl] at h1 ⊢
  refine ⟨a, cap, rfl, h1, h2, ?_⟩
  rcases h3 with h3 | ⟨b, off, rfl, hb, hcell⟩
  · left; exact List.eq_nil_of_length_eq_zero (by rw [← hl, h3]; rfl)
  · refine .inr ⟨b, off, rfl, hb, fun i hi => ⟨vs.getD i (.bool false), ?_, hc i hi⟩⟩
    rw [hcell i (by omega), get_at vs (.bool false) i (by omega)]
def RetLl (l : List (List Int)) (w : World) (e : Ending) (w' : World) : Prop := ∃ v, e = .returned v ∧ Ll w' v l ∧ Below w.heap.size w w'
end Domi

/- Regions that draw their order, with one operation that makes memory ahead of the forced tail. No program is named here. -/
set_option linter.unusedVariables false
namespace Domi
open Go Go.RowKit

section
variable {P : Program} {md : Region.Mode} {ops : Array Oper}

/-- No panic. -/
def NoQ : Exit → Act → World → Prop := fun _ _ _ => False

theorem wp_noQ {o : Oper} {a : Act} {w : World} {K : Act → World → Prop} {Q : Exit → Act → World → Prop} (h : o.wp P a w K NoQ) : o.wp P a w K Q := by
  unfold Oper.wp at *
  generalize (execOp a.eval o).run P w = r at *
  cases r with
  | ok n w' =>
    cases n <;> simp only [Oper.upon] at h ⊢ <;>
      first
        | exact h
        | exact Calls.mono h (fun e w'' he => by cases e <;> first | exact he | exact absurd he id | (obtain ⟨_, _, h0⟩ := he; exact absurd h0 id))
        | exact absurd h id
  | halt x w' => cases x <;> simp only [Oper.upon] at h ⊢ <;> first | exact h | exact absurd h id

theorem wpOp_noQ {i : Nat} {a : Act} {w : World} {K : Act → World → Prop} {Q : Exit → Act → World → Prop} (h : wpOp P ops NoQ i K a w) : wpOp P ops Q i K a w := by
  unfold wpOp at *
  split
  · simpa [*] using h
  · rename_i o ho
    simp only [ho] at h
    split
    · rename_i hw
      simp only [hw, if_true] at h
      rcases h with h | ⟨_, _, _, h⟩
      · exact .inl (wp_noQ h)
      · exact absurd h id
    · rename_i hw; simp only [hw] at h; exact h

/-- Operations that read, or reckon: they give a value or do not come through. -/
def readsB : Op → Bool
  | .move _ | .assign _ | .pick .. | .load .. | .binOp .. | .unOp .. | .fieldAddr .. | .indexAddr .. => true
  | _ => false
theorem reads_run {o : Oper} {e : Operand → Value} {w w' : World} {n : Next} (h : readsB o.op = true) (hr : (execOp e o).run P w = .ok n w') : ∃ u, n = .value u := by
  by_cases hp : ∃ c x y, o.op = .pick c x y
  · obtain ⟨c, x, y, ho⟩ := hp
    simp only [execOp, ho, Sem.run_bind, Sem.run_pure] at hr
    cases hb : (asBool (e c)).run P w with
    | ok b w2 => simp only [hb, Result.andThen] at hr; cases hr; exact ⟨_, rfl⟩
    | halt q w2 => simp only [hb, Result.andThen] at hr; cases hr
  · obtain ⟨m, hm⟩ : ∃ m : Sem Value, execOp e o = (do pure (Next.value (← m))) := by
      unfold execOp
      cases ho : o.op <;> simp only [ho, readsB, Bool.false_eq_true] at h ⊢ <;> first | exact ⟨_, rfl⟩ | exact ⟨pure _, rfl⟩ | exact absurd ⟨_, _, _, ho⟩ hp
    rw [hm] at hr
    simp only [Sem.run_bind, Sem.run_pure] at hr
    cases hb : m.run P w with
    | ok b w2 => simp only [hb, Result.andThen] at hr; cases hr; exact ⟨_, rfl⟩
    | halt q w2 => simp only [hb, Result.andThen] at hr; cases hr
theorem reads_if {C : World → Prop} {o : Oper} {v : Value} {a : Act} (h : readsB o.op = true) (hy : YieldsIn P ops C o v a) : YieldsIf P ops C o v a := by
  rcases hy with ⟨hw, hv⟩ | hy
  · refine .inl ⟨hw, fun w hC => ?_⟩
    have := hv w hC
    unfold Oper.quietAt at this
    cases hr : (execOp a.eval o).run P w with
    | ok n w' =>
      obtain ⟨u, rfl⟩ := reads_run h hr
      rw [hr] at this
      simp only [Oper.quietUpon] at this
      rw [this.1, this.2]
    | halt x w' => rw [hr] at this; exact absurd this id
  · exact .inr hy

/-- A later world of a later world. -/
def Later.then_ {w : World} (T : Later w) (U : Later T.x) : Later w := ⟨U.x, T.h.trans (U.h.mono T.h.size)⟩

/-- The first f steps, in whatever order, each before n, and nothing old turns; then L. -/
def PhaseW (P : Program) (md : Region.Mode) (ops : Array Oper) (n : Nat) (L : Array Bool → Act → World → Prop) : Nat → Array Bool → Act → World → Prop
  | 0, d, a, w => L d a w
  | f + 1, d, a, w => Region.ready md ops d ≠ [] ∧ ∀ i ∈ Region.ready md ops d, i < n ∧ ∀ T : Later w, wpOp P ops NoQ i (fun a' w' => (∃ U : Later T.x, w' = U.x) ∧ PhaseW P md ops n L f (d.setIfInBounds i true) a' w') a T.x

variable {n : Nat} {L : Array Bool → Act → World → Prop}
theorem PhaseW.later (hL : ∀ d a w, L d a w → ∀ T : Later w, L d a T.x) (f : Nat) {d : Array Bool} {a : Act} {w : World} (h : PhaseW P md ops n L f d a w) (T : Later w) : PhaseW P md ops n L f d a T.x := by
  cases f with
  | zero => exact hL _ _ _ h T
  | succ f => exact ⟨h.1, fun i hi => ⟨(h.2 i hi).1, fun U => (h.2 i hi).2 (T.then_ U)⟩⟩

theorem PhaseW.run {g : Nat} {R : Exit → Act → World → Prop} (hL : ∀ d a w, L d a w → wpAny P md ops R g d a w) :
    ∀ (f : Nat) (d : Array Bool) (a : Act) (w : World), PhaseW P md ops n L f d a w → wpAny P md ops R (f + g) d a w := by
  intro f
  induction f with
  | zero => intro d a w h; rw [Nat.zero_add]; exact hL _ _ _ h
  | succ f ih =>
    intro d a w h
    rw [Nat.add_right_comm]
    exact ⟨fun e => absurd e h.1, fun i hi => wpOp_mono (fun a' w' hp => ih _ a' w' hp.2) (wpOp_noQ ((h.2 i hi).2 (Later.now w)))⟩

theorem PhaseW.take {i : Nat} {o : Oper} {v : Value} (ho : ops[i]? = some o) (hsel : ∀ (j : Nat) (o : Oper) cs b, ops[j]? = some o → o.op ≠ .select cs b)
    (hs : Region.sinkB md ops n = true) (hc : Region.chainB md ops n = true) (hn : n < ops.size) (hin : i < n)
    (hLm : ∀ d a w, L d a w → ∀ T : Later w, L d a T.x) (hdone : ∀ d a w, L d a w → ∀ j ∈ Region.ready md ops d, n ≤ j) :
    ∀ (f : Nat) (d : Array Bool) (a : Act) (w : World), HeadInv md ops n d →
      (∀ j oj, ops[j]? = some oj → j ≠ i → d.getD j true = false → (∀ e ∈ oj.after, Region.binds md e = true → e.on ≠ i) → o.apart ops oj = true) →
      i ∈ Region.ready md ops d → YieldsIf P ops (fun x => ∃ T : Later w, x = T.x) o v a →
      PhaseW P md ops n L f (d.setIfInBounds i true) (a.put o.dst v) w → PhaseW P md ops n L (f + 1) d a w := by
  intro f
  have now : ∀ (f : Nat) (d : Array Bool) (a : Act) (w : World), YieldsIf P ops (fun x => ∃ T : Later w, x = T.x) o v a → PhaseW P md ops n L f (d.setIfInBounds i true) (a.put o.dst v) w →
      ∀ T : Later w, wpOp P ops NoQ i (fun a' w' => (∃ U : Later T.x, w' = U.x) ∧ PhaseW P md ops n L f (d.setIfInBounds i true) a' w') a T.x :=
    fun f d a w hy H T => YieldsIf.wpOp ho hy ⟨T, rfl⟩ ⟨⟨Later.now _, rfl⟩, PhaseW.later hLm f H T⟩
  induction f with
  | zero =>
    intro d a w inv _ hr hy H
    have hopen := (mem_ready.1 hr).1
    refine ⟨List.ne_nil_of_mem hr, fun j hj => ?_⟩
    have hjn : j < n := Nat.lt_of_not_le fun h => tail_waits hs hc hn inv _ i rfl hin hopen j h hj
    by_cases e : j = i
    · subst e; exact ⟨hjn, now _ _ _ _ hy H⟩
    · have := hdone _ _ _ H j (ready_mono hj e); omega
  | succ f ih =>
    intro d a w inv hfree hr hy H
    have hopen := (mem_ready.1 hr).1
    refine ⟨List.ne_nil_of_mem hr, fun j hj => ?_⟩
    have hjn : j < n := Nat.lt_of_not_le fun h => tail_waits hs hc hn inv _ i rfl hin hopen j h hj
    refine ⟨hjn, ?_⟩
    by_cases e : j = i
    · subst e; exact now _ _ _ _ hy H
    · obtain ⟨jopen, oj, hoj, hall⟩ := mem_ready.1 hj
      have hnot : ∀ x ∈ oj.after, Region.binds md x = true → x.on ≠ i := fun x hx hb hxi => by
        have := hall x hx hb
        rw [hxi, getD_both hopen] at this
        cases this
      intro T
      have hyT : YieldsIf P ops (fun x => ∃ U : Later w, x = U.x) o v a := hy
      have h2 := wpOp_putIf hoj (hfree j oj hoj e jopen hnot) (fun cs b => hsel i o cs b ho) (fun cs b => hsel j oj cs b hoj) (fun _ _ _ h => absurd h id) hyT ((H.2 j (ready_mono hj e)).2 T)
      refine wpOp_mono (fun a' w' ⟨hy', ⟨U, hU⟩, h3⟩ => ⟨⟨U, hU⟩, ih (d.setIfInBounds j true) a' w' (inv.set hj hjn) (fun k ok hk hki hun hno => ?_) (ready_mono hr (Ne.symm e)) ?_ ?_⟩) h2
      · refine hfree k ok hk hki ?_ hno
        by_cases hjk : j = k
        · subst hjk; exact jopen
        · rwa [getD_set_ne true hjk] at hun
      · subst hU
        exact hy'.imp (fun ⟨q1, q2⟩ => ⟨q1, fun x ⟨V, hV⟩ => q2 x ⟨(T.then_ U).then_ V, hV⟩⟩) id
      · rw [Array.setIfInBounds_comm _ _ e]; exact h3

/-- In the text's order: reads, then one operation more. -/
theorem PhaseW.text {g : Nat} {Lq : Act → World → Prop} {w0 : World} (hsel : Region.noSelect ops = true) (hs : Region.sinkB md ops n = true) (hc : Region.chainB md ops n = true) (hn : n < ops.size)
    (hLq : ∀ a w, Lq a w → ∀ T : Later w, Lq a T.x) (l : List Oper) (hl2 : ∀ o ∈ l, readsB o.op = true) :
    ∀ (k : Nat) (listed : Array Bool) (a : Act), (∀ j, j < l.length → l[j]? = ops[k + j]?) → k + l.length + 1 = n → HeadInv md ops n listed → (∀ j, j < k → listed.getD j false = true) →
    Region.lexHead md ops g (l.length + 1) k listed = true →
    wpQuiet P ops (fun x => ∃ T : Later w0, x = T.x) (fun a' => ∀ T : Later w0, wpOp P ops NoQ (k + l.length) (fun a'' w'' => (∃ U : Later T.x, w'' = U.x) ∧ Lq a'' w'') a' T.x) l a →
    PhaseW P md ops n (fun d a' w' => Region.seqB md ops g n d = true ∧ Lq a' w') (l.length + 1) listed a w0 := by
  induction l with
  | nil =>
    intro k listed a _ hk inv hb hB h
    simp only [List.length_nil, Nat.add_zero, Nat.zero_add] at hk hB h
    simp only [Region.lexHead, Bool.and_eq_true] at hB
    have hr : k ∈ Region.ready md ops listed := by simpa using hB.1.1
    refine ⟨List.ne_nil_of_mem hr, fun j hj => ?_⟩
    have hjn : j < n := Nat.lt_of_not_le fun h => tail_waits hs hc hn inv _ k rfl (by omega) (mem_ready.1 hr).1 j h hj
    have hjk : j = k := by
      rcases Nat.lt_or_ge j k with h1 | h1
      · have := hb j h1
        have h2 := getD_both (mem_ready.1 hj).1
        rw [this] at h2; cases h2
      · omega
    subst hjk
    exact ⟨hjn, fun T => wpOp_mono (fun a' w' ⟨h1, h2⟩ => ⟨h1, hk ▸ hB.2, h2⟩) (h T)⟩
  | cons o l ih =>
    intro k listed a hl hk inv hb hB h
    have h0 : ops[k]? = some o := by simpa using (hl 0 (by simp)).symm
    simp only [List.length_cons] at hk hB
    rw [Region.lexHead] at hB
    simp only [Bool.and_eq_true] at hB
    have hkn : k < n := by omega
    have hr : k ∈ Region.ready md ops listed := by simpa using hB.1.1
    have hq : qOp P ops (fun x => ∃ T : Later w0, x = T.x) k (wpQuiet P ops (fun x => ∃ T : Later w0, x = T.x) (fun a' => ∀ T : Later w0, wpOp P ops NoQ (k + (l.length + 1)) (fun a'' w'' => (∃ U : Later T.x, w'' = U.x) ∧ Lq a'' w'') a' T.x) l) a := by unfold qOp; simp only [h0]; exact h
    obtain ⟨v, hy, hK⟩ := yieldsIn_of_qOp h0 hq
    refine PhaseW.take h0 (Region.noSelect_spec hsel) hs hc hn hkn (fun d a' w' hL T => ⟨hL.1, hLq _ _ hL.2 T⟩) (fun d a' w' hL => seqB_ready hL.1) (l.length + 1) listed a w0 inv (Region.free_spec h0 hB.1.2) hr (reads_if (hl2 o (by simp)) hy) ?_
    refine ih (fun o ho => hl2 o (by simp [ho])) (k + 1) _ _ (fun j hj => by have := hl (j + 1) (by simp; omega); simpa [Nat.add_assoc, Nat.add_comm 1 j] using this) (by omega) (inv.set hr hkn) (fun j hj => ?_) hB.2 ?_
    · by_cases e : k = j
      · subst e
        have : k < listed.size := by rw [inv.size]; omega
        simp [Array.getD_eq_getD_getElem?, this]
      · have := hb j (by omega)
        exact getD_set_true this
    · rw [show k + 1 + l.length = k + (l.length + 1) by omega]; exact hK

end

section
variable {P : Program} {id : Nat} {Q : Exit → Act → World → Prop} {a : Act} {w : World} {l : List Oper}
/-- The region: n reads, in the text's order, in whatever world nothing old has turned; then an operation that leaves what was there; then the others one after the other. -/
theorem wp_region_build (n : Nat) (hm : P.follows .mixedOrders = true) (hB : Region.lexTailB .any l.toArray (n + 1) = true) (hrd : ((l.take n).all fun o => readsB o.op) = true)
    (h : wpQuiet P l.toArray (fun x => ∃ T : Later w.drew, x = T.x) (fun a' => ∀ T : Later w.drew, wpOp P l.toArray NoQ n (fun a'' w'' => (∃ U : Later T.x, w'' = U.x) ∧ ∀ V : Later w'', wpList P l.toArray Q (l.drop (n + 1)) a'' V.x) a' T.x) (l.take n) a) :
    (Code.region id l.toArray true).wp P Q a w := by
  simp only [Region.lexTailB, Bool.and_eq_true, decide_eq_true_eq] at hB
  obtain ⟨⟨⟨⟨hsel, hn⟩, hs⟩, hc⟩, hlex⟩ := hB
  have hn' : n + 1 < l.length := by simpa using hn
  have htl : (l.take n).length = n := by simp; omega
  have hdl : (l.drop (n + 1)).length = l.toArray.size - (n + 1) := by simp
  have inv0 : HeadInv .any l.toArray (n + 1) (Array.replicate l.toArray.size false) :=
    ⟨by simp, fun j oj _ hl => (by rw [getD_replicate_false] at hl; cases hl), fun t _ ht => getD_in (by simpa using ht) (getD_replicate_false _ _)⟩
  have H := PhaseW.text (md := .any) (n := n + 1) (g := l.toArray.size - (n + 1)) (Lq := fun a'' w'' => ∀ V : Later w'', wpList P l.toArray Q (l.drop (n + 1)) a'' V.x) (w0 := w.drew) hsel hs hc hn
    (fun a w h T V => h (T.then_ V)) (l.take n) (fun o ho => List.all_eq_true.1 hrd o ho) 0 _ a (fun j hj => by
    have hj' : j < n := by rw [htl] at hj; exact hj
    simp [hj']) (by rw [htl]; omega) inv0 (fun j hj => by omega) (by rw [htl]; exact hlex) (by rw [htl, Nat.zero_add]; exact h)
  refine wp_region_any hm ?_
  have := PhaseW.run (R := Q) (g := l.toArray.size - (n + 1)) (fun listed a' w' hL => by
    have := wpAny_of_seq (md := .any) (Q' := Q) (l.drop (n + 1)) (n + 1) listed a' w' (fun j => by simp [List.getElem?_drop]) (by rw [hdl]; exact hL.1) (hL.2 (Later.now w'))
    rwa [hdl] at this) _ _ _ _ H
  rw [htl, show n + 1 + (l.toArray.size - (n + 1)) = l.toArray.size by omega] at this
  exact this
end

end Domi

/- The dark cells of a region. -/
set_option linter.unusedVariables false
namespace Domi
def darkB (w : Int) (k : Int) : Bool := (k % w + k / w) % 2 == 0
/-- How many of the first k cells belong to a region and are dark. -/
def Reg.darkTo (r : Reg) : Nat → Int
  | 0 => 0
  | k + 1 => r.darkTo k + if r.cells.getD k false && darkB r.wide k then 1 else 0
theorem Reg.darkTo_le (r : Reg) (k : Nat) : 0 ≤ r.darkTo k ∧ r.darkTo k ≤ k := by
  induction k with
  | zero => simp [Reg.darkTo]
  | succ k ih => simp only [Reg.darkTo]; split <;> omega
def Reg.darks (r : Reg) : Int := r.darkTo r.cells.length
def Reg.dmany (r : Reg) : Int := if r.valid then r.darks else -1
def Reg.bal (r : Reg) : Bool := r.valid && decide (2 * r.darks = cnt r.cells)
theorem Reg.dmany_yes {r : Reg} (h : r.valid = true) : r.dmany = r.darks := by simp [Reg.dmany, h]
theorem Reg.dmany_no {r : Reg} (h : r.valid = false) : r.dmany = -1 := by simp [Reg.dmany, h]
theorem Reg.darkTo_yes {r : Reg} {k : Nat} (h : r.cells.getD k false = true) (g : darkB r.wide k = true) : r.darkTo (k + 1) = r.darkTo k + 1 := by
  simp only [Reg.darkTo, h, g, Bool.and_self, if_true]
theorem Reg.darkTo_no {r : Reg} {k : Nat} (h : r.cells.getD k false = false ∨ darkB r.wide k = false) : r.darkTo (k + 1) = r.darkTo k := by
  rcases h with h | h <;> simp only [Reg.darkTo, h, Bool.false_and, Bool.and_false, Bool.false_eq_true, if_false, Int.add_zero]

end Domi
