/- Parts of a region, and how relaxation over its cells finds them: plain. -/
import Derived.Test.YtnmoaecihmjnnaaBord
namespace Domi
open Go Go.RowKit

/-- Two cells of the region side by side. -/
def E4 (r : Reg) (a b : Nat) : Prop := r.f a = true ∧ r.f b = true ∧ ∃ way : Int, 1 ≤ way ∧ way ≤ 4 ∧ stepI r a way = (b : Int)
theorem E4.lt {r : Reg} {a b : Nat} (h : E4 r a b) : a < r.cells.length ∧ b < r.cells.length := ⟨f_lt h.1, f_lt h.2.1⟩
theorem E4.symm {r : Reg} (hv : r.valid = true) {a b : Nat} (h : E4 r a b) : E4 r b a := by
  obtain ⟨v1, v2, v3, _⟩ := Reg.valid_iff.1 hv
  obtain ⟨h1, h2, way, w1, w4, hs⟩ := h
  have ha := f_lt h1
  have := stepI_back (r := r) (c := (a : Int)) (way := way) (by omega) (by omega) (by omega) w1 w4 (by omega)
  rw [hs] at this
  exact ⟨h2, h1, (way + 1) % 4 + 1, by omega, by omega, this⟩

noncomputable def partN (r : Reg) (k : Nat) : Int := open Classical in if r.f k = true then (least (E4 r) k : Int) else -1
noncomputable def Reg.parts (r : Reg) : List Int := (List.range r.cells.length).map (partN r)
noncomputable def Reg.partsR (r : Reg) : List Int := if r.valid then r.parts else []
theorem partN_yes {r : Reg} {k : Nat} (h : r.f k = true) : partN r k = (least (E4 r) k : Int) := by unfold partN; rw [if_pos h]
theorem partN_no {r : Reg} {k : Nat} (h : r.f k = false) : partN r k = -1 := by unfold partN; rw [if_neg (by rw [h]; decide)]
theorem parts_length (r : Reg) : r.parts.length = r.cells.length := by simp [Reg.parts]
theorem parts_get {r : Reg} {k : Nat} (h : k < r.cells.length) : r.parts.getD k 0 = partN r k := by simp [Reg.parts, List.getD_eq_getElem?_getD, h]

/-- What the list says of a cell; a cell that is none says itself. -/
def val (r : Reg) (L : List Int) (k : Nat) : Nat := if r.f k then (L.getD k 0).toNat else k
structure Inv (r : Reg) (L : List Int) : Prop where
  len : L.length = r.cells.length
  no : ∀ k, k < r.cells.length → r.f k = false → L.getD k 0 = -1
  yes : ∀ k, r.f k = true → 0 ≤ L.getD k 0 ∧ L.getD k 0 ≤ k ∧ Conn (E4 r) k (L.getD k 0).toNat
theorem val_yes {r : Reg} {L : List Int} {k : Nat} (h : r.f k = true) : val r L k = (L.getD k 0).toNat := by simp [val, h]
theorem val_no {r : Reg} {L : List Int} {k : Nat} (h : r.f k = false) : val r L k = k := by simp [val, h]
theorem Inv.conn {r : Reg} {L : List Int} (h : Inv r L) (k : Nat) : Conn (E4 r) k (val r L k) ∧ val r L k ≤ k := by
  cases hf : r.f k
  · rw [val_no hf]; exact ⟨.refl _, Nat.le_refl _⟩
  · rw [val_yes hf]
    obtain ⟨h1, h2, h3⟩ := h.yes k hf
    exact ⟨h3, by omega⟩

/-- In the midst of a round that began with P: some edges are done. -/
structure PJ (r : Reg) (P L : List Int) (D : Nat → Nat → Prop) : Prop where
  inv : Inv r L
  mono : ∀ k, val r L k ≤ val r P k
  done : ∀ k j, D k j → E4 r k j → val r L k ≤ val r P j
section
variable {r : Reg} {P L : List Int} {D D' : Nat → Nat → Prop}
theorem PJ.start (h : Inv r P) : PJ r P P (fun _ _ => False) := ⟨h, fun _ => Nat.le_refl _, fun _ _ h => h.elim⟩
theorem PJ.weak (h : PJ r P L D) (hd : ∀ k j, E4 r k j → D' k j → D k j) : PJ r P L D' := ⟨h.inv, h.mono, fun k j hk e => h.done k j (hd k j e hk) e⟩
theorem getD_put (l : List Int) (i j : Nat) (v : Int) (hi : i < l.length) : (l.set i v).getD j 0 = if i = j then v else l.getD j 0 := by
  simp only [List.getD_eq_getElem?_getD, List.getElem?_set]
  by_cases h : i = j
  · subst h; simp [hi]
  · simp [h]
/-- A cell gets a lesser number of its part. -/
theorem PJ.put (h : PJ r P L D) {c : Nat} (hc : r.f c = true) {x : Int} (h0 : 0 ≤ x) (hx : x ≤ L.getD c 0) (hcn : Conn (E4 r) c x.toNat) : PJ r P (L.set c x) (fun k j => D k j ∨ (k = c ∧ x ≤ val r P j)) := by
  have hlc : c < L.length := by rw [h.inv.len]; exact f_lt hc
  have hget : ∀ k, (L.set c x).getD k 0 = if c = k then x else L.getD k 0 := fun k => getD_put L c k x hlc
  have hval : ∀ k, val r (L.set c x) k = if c = k then x.toNat else val r L k := by
    intro k
    by_cases e : c = k
    · subst e; rw [if_pos rfl, val_yes hc, hget, if_pos rfl]
    · rw [if_neg e]
      unfold val
      rw [hget, if_neg e]
  obtain ⟨y0, y1, y2⟩ := h.inv.yes c hc
  have hvc : val r L c = (L.getD c 0).toNat := val_yes hc
  refine ⟨⟨by simpa using h.inv.len, fun k hk hf => ?_, fun k hf => ?_⟩, fun k => ?_, fun k j hd e => ?_⟩
  · rw [hget, if_neg (by rintro rfl; rw [hc] at hf; cases hf)]; exact h.inv.no k hk hf
  · rw [hget]
    by_cases e : c = k
    · subst e; rw [if_pos rfl]; exact ⟨h0, by omega, hcn⟩
    · rw [if_neg e]; exact h.inv.yes k hf
  · rw [hval]
    by_cases e : c = k
    · subst e; rw [if_pos rfl]; have := h.mono c; omega
    · rw [if_neg e]; exact h.mono k
  · rw [hval]
    by_cases e2 : c = k
    · subst e2
      rw [if_pos rfl]
      rcases hd with hd | ⟨_, hd⟩
      · have := h.done c j hd e; omega
      · omega
    · rw [if_neg e2]
      rcases hd with hd | ⟨hd, _⟩
      · exact h.done k j hd e
      · exact absurd hd.symm e2
theorem conn_of (h : Inv r L) {c j : Nat} (e : E4 r c j) : Conn (E4 r) c (L.getD j 0).toNat := (Conn.one e).trans (h.yes j e.2.1).2.2

/-- A whole round. -/
theorem PJ.round (hv : r.valid = true) (h : PJ r P L D) (hP : Inv r P) (hall : ∀ k j, E4 r k j → D k j) {t : Nat} (ht : min t r.cells.length ≤ num r.cells.length (fun k => val r P k = least (E4 r) k)) :
    min (t + 1) r.cells.length ≤ num r.cells.length (fun k => val r L k = least (E4 r) k) :=
  relax_round (E := E4 r) (fun _ _ e => e.symm hv) (fun _ _ e => e.lt) hP.conn (fun k => (h.inv.conn k).1) h.mono (fun k j e => h.done k j (hall k j e) e) ht
theorem parts_done (h : Inv r L) (ht : min r.cells.length r.cells.length ≤ num r.cells.length (fun k => val r L k = least (E4 r) k)) : L = r.parts := by
  have hd := relax_done ht
  apply List.ext_getElem
  · rw [h.len, parts_length]
  · intro i h1 h2
    have hi : i < r.cells.length := by rw [h.len] at h1; exact h1
    have e1 : L[i] = L.getD i 0 := get_at _ _ _ h1
    have e2 : r.parts[i] = r.parts.getD i 0 := get_at _ _ _ h2
    rw [e1, e2, parts_get hi]
    cases hf : r.f i
    · rw [partN_no hf]; exact h.no i hi hf
    · rw [partN_yes hf, ← hd i hi, val_yes hf]
      have := (h.yes i hf).1
      omega
end

/-- Done: all cells before c, and c's first m directions. -/
def DI (r : Reg) (c m : Nat) (k j : Nat) : Prop := k < c ∨ (k = c ∧ ∃ way : Int, 1 ≤ way ∧ way ≤ m ∧ stepI r c way = (j : Int))
theorem PJ.cell {r : Reg} {P L : List Int} {c : Nat} (h : PJ r P L (fun k _ => k < c)) : PJ r P L (DI r c 0) :=
  h.weak fun k j _ hd => hd.elim id fun ⟨_, way, h1, h2, _⟩ => by omega
theorem PJ.skip {r : Reg} {P L : List Int} {c m : Nat} (h : PJ r P L (DI r c m)) (hs : ∀ j, stepI r c ((m : Int) + 1) = (j : Nat) → ¬ E4 r c j) : PJ r P L (DI r c (m + 1)) := by
  refine h.weak fun k j e hd => ?_
  rcases hd with hd | ⟨rfl, way, h1, h2, h3⟩
  · exact .inl hd
  · by_cases hw : way ≤ m
    · exact .inr ⟨rfl, way, h1, hw, h3⟩
    · have : way = (m : Int) + 1 := by omega
      subst this
      exact absurd e (hs j h3)
theorem PJ.take {r : Reg} {P L : List Int} {c m j : Nat} (h : PJ r P L (DI r c m)) (hm : m < 4) (hs : stepI r c ((m : Int) + 1) = (j : Int)) (hc : r.f c = true) (hj : r.f j = true) {x : Int} (hx : x = L.getD c 0 ∧ L.getD c 0 ≤ L.getD j 0 ∨ x = L.getD j 0 ∧ L.getD j 0 ≤ L.getD c 0) : PJ r P (L.set c x) (DI r c (m + 1)) := by
  have e : E4 r c j := ⟨hc, hj, (m : Int) + 1, by omega, by omega, hs⟩
  have hvj : val r L j = (L.getD j 0).toNat := val_yes hj
  have hmj := h.mono j
  obtain ⟨c1, c2, c3⟩ := h.inv.yes c hc
  obtain ⟨j1, j2, j3⟩ := h.inv.yes j hj
  have key : 0 ≤ x ∧ x ≤ L.getD c 0 ∧ Conn (E4 r) c x.toNat ∧ x ≤ L.getD j 0 := by
    rcases hx with ⟨rfl, h1⟩ | ⟨rfl, h1⟩
    · exact ⟨c1, Int.le_refl _, c3, h1⟩
    · exact ⟨j1, h1, conn_of h.inv e, Int.le_refl _⟩
  refine (h.put hc key.1 key.2.1 key.2.2.1).weak fun k i e2 hd => ?_
  rcases hd with hd | ⟨rfl, way, h1, h2, h3⟩
  · exact .inl (.inl hd)
  · by_cases hw : way ≤ m
    · exact .inl (.inr ⟨rfl, way, h1, hw, h3⟩)
    · have : way = (m : Int) + 1 := by omega
      subst this
      have hij : i = j := by omega
      subst hij
      exact .inr ⟨rfl, by omega⟩
theorem PJ.cells {r : Reg} {P L : List Int} {c : Nat} (h : PJ r P L (DI r c 4)) : PJ r P L (fun k _ => k < c + 1) :=
  h.weak fun k j e hd => by
    by_cases hk : k < c
    · exact .inl hk
    · have : k = c := by omega
      subst this
      obtain ⟨_, _, way, w1, w4, hs⟩ := e
      exact .inr ⟨rfl, way, w1, by omega, hs⟩

/-- The list at the start: each cell says itself. -/
def self1 (r : Reg) (k : Nat) : Int := if r.f k then (k : Int) else -1
def selfL (r : Reg) : List Int := (List.range r.cells.length).map (self1 r)
theorem selfL_inv (r : Reg) : Inv r (selfL r) := by
  have hg : ∀ k, k < r.cells.length → (selfL r).getD k 0 = self1 r k := fun k hk => by simp [selfL, List.getD_eq_getElem?_getD, hk]
  refine ⟨by simp [selfL], fun k hk hf => ?_, fun k hf => ?_⟩
  · rw [hg k hk]; simp [self1, hf]
  · rw [hg k (f_lt hf)]; simp [self1, hf]; exact .refl _

end Domi
