/- Plain words and laws on memory, regions and dominoes, of several texts. -/
import Derived.Test.YtklifibiadiinaaDoorZa
import Derived.Test.YtklifibiadiinaaDoorZb

/- Parts of a region, and how relaxation over its cells finds them: plain. -/
set_option linter.unusedVariables false
namespace Domi
open Go Go.RowKit

/-- Two cells of the region side by side. -/
def E4 (r : Reg) (a b : Nat) : Prop := r.f a = true ∧ r.f b = true ∧ ∃ way : Int, 1 ≤ way ∧ way ≤ 4 ∧ stepI r a way = (b : Int)
theorem E4.lt {r : Reg} {a b : Nat} (h : E4 r a b) : a < r.cells.length ∧ b < r.cells.length := ⟨f_lt h.1, f_lt h.2.1⟩
theorem E4.symm {r : Reg} (hv : r.valid = true) {a b : Nat} (h : E4 r a b) : E4 r b a := by
  obtain ⟨v1, v2, v3, _⟩ := Reg.valid_iff.1 hv
  obtain ⟨h1, h2, way, w1, w4, hs⟩ := h
  have ha := f_lt h1
  have := stepI_back (r := r) (c := (a : Int)) (way := way) (by omega) (by omega) (by omega) w1 w4 (by omega)
  rw [hs] at this
  exact ⟨h2, h1, (way + 1) % 4 + 1, by omega, by omega, this⟩

noncomputable def partN (r : Reg) (k : Nat) : Int := open Classical in if r.f k = true then (least (E4 r) k : Int) else -1
noncomputable def Reg.parts (r : Reg) : List Int := (List.range r.cells.length).map (partN r)
noncomputable def Reg.partsR (r : Reg) : List Int := if r.valid then r.parts else []
theorem partN_yes {r : Reg} {k : Nat} (h : r.f k = true) : partN r k = (least (E4 r) k : Int) := by unfold partN; rw [if_pos h]
theorem partN_no {r : Reg} {k : Nat} (h : r.f k = false) : partN r k = -1 := by unfold partN; rw [if_neg (by rw [h]; decide)]
theorem parts_length (r : Reg) : r.parts.length = r.cells.length := by simp [Reg.parts]
theorem parts_get {r : Reg} {k : Nat} (h : k < r.cells.length) : r.parts.getD k 0 = partN r k := by simp [Reg.parts, List.getD_eq_getElem?_getD, h]

/-- What the list says of a cell; a cell that is none says itself. -/
def val (r : Reg) (L : List Int) (k : Nat) : Nat := if r.f k then (L.getD k 0).toNat else k
structure Inv (r : Reg) (L : List Int) : Prop where
  len : L.length = r.cells.length
  no : ∀ k, k < r.cells.length → r.f k = false → L.getD k 0 = -1
  yes : ∀ k, r.f k = true → 0 ≤ L.getD k 0 ∧ L.getD k 0 ≤ k ∧ Conn (E4 r) k (L.getD k 0).toNat
theorem val_yes {r : Reg} {L : List Int} {k : Nat} (h : r.f k = true) : val r L k = (L.getD k 0).toNat := by simp [val, h]
theorem val_no {r : Reg} {L : List Int} {k : Nat} (h : r.f k = false) : val r L k = k := by simp [val, h]
theorem Inv.conn {r : Reg} {L : List Int} (h : Inv r L) (k : Nat) : Conn (E4 r) k (val r L k) ∧ val r L k ≤ k := by
  cases hf : r.f k
  · rw [val_no hf]; exact ⟨.refl _, Nat.le_refl _⟩
  · rw [val_yes hf]
    obtain ⟨h1, h2, h3⟩ := h.yes k hf
    exact ⟨h3, by omega⟩

/-- In the midst of a round that began with P: some edges are done. -/
structure PJ (r : Reg) (P L : List Int) (D : Nat → Nat → Prop) : Prop where
  inv : Inv r L
  mono : ∀ k, val r L k ≤ val r P k
  done : ∀ k j, D k j → E4 r k j → val r L k ≤ val r P j
section
variable {r : Reg} {P L : List Int} {D D' : Nat → Nat → Prop}
theorem PJ.start (h : Inv r P) : PJ r P P (fun _ _ => False) := ⟨h, fun _ => Nat.le_refl _, fun _ _ h => h.elim⟩
theorem PJ.weak (h : PJ r P L D) (hd : ∀ k j, E4 r k j → D' k j → D k j) : PJ r P L D' := ⟨h.inv, h.mono, fun k j hk e => h.done k j (hd k j e hk) e⟩
theorem getD_put (l : List Int) (i j : Nat) (v : Int) (hi : i < l.length) : (l.set i v).getD j 0 = if i = j then v else l.getD j 0 := by
  simp only [List.getD_eq_getElem?_getD, List.getElem?_set]
  by_cases h : i = j
  · subst h; simp [hi]
  · simp [h]
/-- A cell gets a lesser number of its part. -/
theorem PJ.put (h : PJ r P L D) {c : Nat} (hc : r.f c = true) {x : Int} (h0 : 0 ≤ x) (hx : x ≤ L.getD c 0) (hcn : Conn (E4 r) c x.toNat) : PJ r P (L.set c x) (fun k j => D k j ∨ (k = c ∧ x ≤ val r P j)) := by
  have hlc : c < L.length := by rw [h.inv.len]; exact f_lt hc
  have hget : ∀ k, (L.set c x).getD k 0 = if c = k then x else L.getD k 0 := fun k => getD_put L c k x hlc
  have hval : ∀ k, val r (L.set c x) k = if c = k then x.toNat else val r L k := by
    intro k
    by_cases e : c = k
    · subst e; rw [if_pos rfl, val_yes hc, hget, if_pos rfl]
    · rw [if_neg e]
      unfold val
      rw [hget, if_neg e]
  obtain ⟨y0, y1, y2⟩ := h.inv.yes c hc
  have hvc : val r L c = (L.getD c 0).toNat := val_yes hc
  refine ⟨⟨by simpa using h.inv.len, fun k hk hf => ?_, fun k hf => ?_⟩, fun k => ?_, fun k j hd e => ?_⟩
  · rw [hget, if_neg (by rintro rfl; rw [hc] at hf; cases hf)]; exact h.inv.no k hk hf
  · rw [hget]
    by_cases e : c = k
    · subst e; rw [if_pos rfl]; exact ⟨h0, by omega, hcn⟩
    · rw [if_neg e]; exact h.inv.yes k hf
  · rw [hval]
    by_cases e : c = k
    · subst e; rw [if_pos rfl]; have := h.mono c; omega
    · rw [if_neg e]; exact h.mono k
  · rw [hval]
    by_cases e2 : c = k
    · subst e2
      rw [if_pos rfl]
      rcases hd with hd | ⟨_, hd⟩
      · have := h.done c j hd e; omega
      · omega
    · rw [if_neg e2]
      rcases hd with hd | ⟨hd, _⟩
      · exact h.done k j hd e
      · exact absurd hd.symm e2
theorem conn_of (h : Inv r L) {c j : Nat} (e : E4 r c j) : Conn (E4 r) c (L.getD j 0).toNat := (Conn.one e).trans (h.yes j e.2.1).2.2

/-- A whole round. -/
theorem PJ.round (hv : r.valid = true) (h : PJ r P L D) (hP : Inv r P) (hall : ∀ k j, E4 r k j → D k j) {t : Nat} (ht : min t r.cells.length ≤ num r.cells.length (fun k => val r P k = least (E4 r) k)) :
    min (t + 1) r.cells.length ≤ num r.cells.length (fun k => val r L k = least (E4 r) k) :=
  relax_round (E := E4 r) (fun _ _ e => e.symm hv) (fun _ _ e => e.lt) hP.conn (fun k => (h.inv.conn k).1) h.mono (fun k j e => h.done k j (hall k j e) e) ht
theorem parts_done (h : Inv r L) (ht : min r.cells.length r.cells.length ≤ num r.cells.length (fun k => val r L k = least (E4 r) k)) : L = r.parts := by
  have hd := relax_done ht
  apply List.ext_getElem
  · rw [h.len, parts_length]
  · intro i h1 h2
    have hi : i < r.cells.length := by rw [h.len] at h1; exact h1
    have e1 : L[i] = L.getD i 0 := get_at _ _ _ h1
    have e2 : r.parts[i] = r.parts.getD i 0 := get_at _ _ _ h2
    rw [e1, e2, parts_get hi]
    cases hf : r.f i
    · rw [partN_no hf]; exact h.no i hi hf
    · rw [partN_yes hf, ← hd i hi, val_yes hf]
      have := (h.yes i hf).1
      omega
end

/-- Done: all cells before c, and c's first m directions. -/
def DI (r : Reg) (c m : Nat) (k j : Nat) : Prop := k < c ∨ (k = c ∧ ∃ way : Int, 1 ≤ way ∧ way ≤ m ∧ stepI r c way = (j : Int))
theorem PJ.cell {r : Reg} {P L : List Int} {c : Nat} (h : PJ r P L (fun k _ => k < c)) : PJ r P L (DI r c 0) :=
  h.weak fun k j _ hd => hd.elim id fun ⟨_, way, h1, h2, _⟩ => by omega
theorem PJ.skip {r : Reg} {P L : List Int} {c m : Nat} (h : PJ r P L (DI r c m)) (hs : ∀ j, stepI r c ((m : Int) + 1) = (j : Nat) → ¬ E4 r c j) : PJ r P L (DI r c (m + 1)) := by
  refine h.weak fun k j e hd => ?_
  rcases hd with hd | ⟨rfl, way, h1, h2, h3⟩
  · exact .inl hd
  · by_cases hw : way ≤ m
    · exact .inr ⟨rfl, way, h1, hw, h3⟩
    · have : way = (m : Int) + 1 := by omega
      subst this
      exact absurd e (hs j h3)
theorem PJ.take {r : Reg} {P L : List Int} {c m j : Nat} (h : PJ r P L (DI r c m)) (hm : m < 4) (hs : stepI r c ((m : Int) + 1) = (j : Int)) (hc : r.f c = true) (hj : r.f j = true) {x : Int} (hx : x = L.getD c 0 ∧ L.getD c 0 ≤ L.getD j 0 ∨ x = L.getD j 0 ∧ L.getD j 0 ≤ L.getD c 0) : PJ r P (L.set c x) (DI r c (m + 1)) := by
  have e : E4 r c j := ⟨hc, hj, (m : Int) + 1, by omega, by omega, hs⟩
  have hvj : val r L j = (L.getD j 0).toNat := val_yes hj
  have hmj := h.mono j
  obtain ⟨c1, c2, c3⟩ := h.inv.yes c hc
  obtain ⟨j1, j2, j3⟩ := h.inv.yes j hj
  have key : 0 ≤ x ∧ x ≤ L.getD c 0 ∧ Conn (E4 r) c x.toNat ∧ x ≤ L.getD j 0 := by
    rcases hx with ⟨rfl, h1⟩ | ⟨rfl, h1⟩
    · exact ⟨c1, Int.le_refl _, c3, h1⟩
    · exact ⟨j1, h1, conn_of h.inv e, Int.le_refl _⟩
  refine (h.put hc key.1 key.2.1 key.2.2.1).weak fun k i e2 hd => ?_
  rcases hd with hd | ⟨rfl, way, h1, h2, h3⟩
  · exact .inl (.inl hd)
  · by_cases hw : way ≤ m
    · exact .inl (.inr ⟨rfl, way, h1, hw, h3⟩)
    · have : way = (m : Int) + 1 := by omega
      subst this
      have hij : i = j := by omega
      subst hij
      exact .inr ⟨rfl, by omega⟩
theorem PJ.cells {r : Reg} {P L : List Int} {c : Nat} (h : PJ r P L (DI r c 4)) : PJ r P L (fun k _ => k < c + 1) :=
  h.weak fun k j e hd => by
    by_cases hk : k < c
    · exact .inl hk
    · have : k = c := by omega
      subst this
      obtain ⟨_, _, way, w1, w4, hs⟩ := e
      exact .inr ⟨rfl, way, w1, by omega, hs⟩

/-- The list at the start: each cell says itself. -/
def self1 (r : Reg) (k : Nat) : Int := if r.f k then (k : Int) else -1
def selfL (r : Reg) : List Int := (List.range r.cells.length).map (self1 r)
theorem selfL_inv (r : Reg) : Inv r (selfL r) := by
  have hg : ∀ k, k < r.cells.length → (selfL r).getD k 0 = self1 r k := fun k hk => by simp [selfL, List.getD_eq_getElem?_getD, hk]
  refine ⟨by simp [selfL], fun k hk hf => ?_, fun k hf => ?_⟩
  · rw [hg k hk]; simp [self1, hf]
  · rw [hg k (f_lt hf)]; simp [self1, hf]; exact .refl _

end Domi

/- Laying and lifting a domino: what it leaves. Plain. -/
set_option linter.unusedVariables false
namespace Domi
open Go Go.RowKit

theorem backI_way {x : Int} (h : 1 ≤ x ∧ x ≤ 4) : (1 ≤ backI x ∧ backI x ≤ 4) ∧ backI (backI x) = x := by unfold backI; omega
theorem stepI_ne {r : Reg} {c way : Int} (hw : 1 ≤ r.wide) (h : 0 ≤ stepI r c way) : stepI r c way ≠ c := by
  have := stepI_way h
  have hc : way = 1 ∨ way = 2 ∨ way = 3 ∨ way = 4 := by omega
  rcases hc with rfl | rfl | rfl | rfl <;> (unfold stepI at h ⊢; simp at h ⊢; split at h <;> simp_all <;> omega)
theorem stepI_home {r : Reg} (hv : r.valid = true) {k : Nat} {x : Int} (hk : k < r.cells.length) (h : 0 ≤ stepI r k x) : stepI r (stepI r k x) (backI x) = k := by
  obtain ⟨v1, v2, v3, _⟩ := Reg.valid_iff.1 hv
  have hw := stepI_way h
  exact stepI_back (r := r) (c := (k : Int)) (way := x) (by omega) (by omega) (by omega) hw.1 hw.2 h
theorem getD_two {L : List Int} {c t : Nat} {x y : Int} (hc : c < L.length) (ht : t < L.length) (k : Nat) : ((L.set c x).set t y).getD k 0 = if t = k then y else if c = k then x else L.getD k 0 := by
  rw [getD_put _ t k y (by simpa using ht), getD_put _ c k x hc]

section
variable {r : Reg} {L : List Int}
/-- The two cells of a domino that may be laid. -/
structure FreeAt (r : Reg) (L : List Int) (c t : Nat) (way : Int) : Prop where
  hc : c < L.length
  ht : t < L.length
  hne : c ≠ t
  hway : 1 ≤ way ∧ way ≤ 4
  hst : stepI r c way = t
  hback : stepI r t (backI way) = c
  fc : r.f c = true
  ft : r.f t = true
  oc : L.getD c 0 = 0
  ot : L.getD t 0 = 0
theorem free_at (h : laidOk r L = true) {c : Nat} {way : Int} (hf : free r L c way = true) : ∃ t, FreeAt r L c t way := by
  obtain ⟨hv, hlen, hall⟩ := laidOk_iff.1 h
  obtain ⟨h1, h2, h3, h4, h5, h6⟩ := free_iff.1 hf
  obtain ⟨v1, v2, v3, _⟩ := Reg.valid_iff.1 hv
  obtain ⟨t, ht⟩ := Int.eq_ofNat_of_zero_le h2
  rw [ht, Int.toNat_natCast] at h4 h6
  rw [Int.toNat_natCast] at h3 h5
  have hbk := stepI_home hv (k := c) (x := way) (by omega) h2
  rw [ht] at hbk
  exact ⟨t, by omega, by have := f_lt h4; omega, fun e => stepI_ne (r := r) (by omega) h2 (by rw [ht, e]), stepI_way h2, ht, hbk, h3, h4, h5, h6⟩
theorem layL_is {c t : Nat} {way : Int} (h : FreeAt r L c t way) : layL r L c way = (L.set c way).set t (backI way) := by
  unfold layL; rw [h.hst, Int.toNat_natCast, Int.toNat_natCast]
theorem layL_get {c t : Nat} {way : Int} (h : FreeAt r L c t way) (k : Nat) : (layL r L c way).getD k 0 = if t = k then backI way else if c = k then way else L.getD k 0 := by
  rw [layL_is h, getD_two h.hc h.ht]
theorem layL_len {c way : Int} : (layL r L c way).length = L.length := by simp [layL]
/-- The list with a further domino lays dominoes. -/
theorem lay_ok (h : laidOk r L = true) {c : Nat} {way : Int} (hf : free r L c way = true) : laidOk r (layL r L c way) = true := by
  obtain ⟨hv, hlen, hall⟩ := laidOk_iff.1 h
  obtain ⟨t, F⟩ := free_at h hf
  obtain ⟨b1, b2⟩ := backI_way F.hway
  refine laidOk_iff.2 ⟨hv, by rw [layL_len]; exact hlen, fun k hk => ?_⟩
  rw [layL_len] at hk
  by_cases e1 : t = k
  · subst e1
    refine okAt_good (x := backI way) (s := (c : Int)) (by rw [layL_get F, if_pos rfl]) F.hback (by omega) F.ft (by rw [Int.toNat_natCast]; exact F.fc) ?_
    rw [Int.toNat_natCast, layL_get F, if_neg (fun e => F.hne e.symm), if_pos rfl, b2]
  · by_cases e2 : c = k
    · subst e2
      refine okAt_good (x := way) (s := (t : Int)) (by rw [layL_get F, if_neg e1, if_pos rfl]) F.hst (by omega) F.fc (by rw [Int.toNat_natCast]; exact F.ft) ?_
      rw [Int.toNat_natCast, layL_get F, if_pos rfl]
    · have hx : (layL r L c way).getD k 0 = L.getD k 0 := by rw [layL_get F, if_neg e1, if_neg e2]
      by_cases h0 : L.getD k 0 = 0
      · exact okAt_zero (hx.trans h0)
      · have A := laidOk_at h hk h0
        obtain ⟨m, hm⟩ := Int.eq_ofNat_of_zero_le A.dest.1
        have hb := A.back
        have hth := A.there
        rw [hm, Int.toNat_natCast] at hb hth
        have b3 := (backI_way A.way).1
        have n1 : t ≠ m := fun e => by subst e; rw [F.ot] at hb; omega
        have n2 : c ≠ m := fun e => by subst e; rw [F.oc] at hb; omega
        refine okAt_good (x := L.getD k 0) (s := (m : Int)) hx hm (by omega) A.here (by rw [Int.toNat_natCast]; exact hth) ?_
        rw [Int.toNat_natCast, layL_get F, if_neg n1, if_neg n2]; exact hb

/-- The two cells of a domino that lies there. -/
structure LiesAt (r : Reg) (L : List Int) (c t : Nat) (way : Int) : Prop where
  hc : c < L.length
  ht : t < L.length
  hne : c ≠ t
  hway : 1 ≤ way ∧ way ≤ 4
  hst : stepI r c way = t
  hback : stepI r t (backI way) = c
  fc : r.f c = true
  ft : r.f t = true
  oc : L.getD c 0 = way
  ot : L.getD t 0 = backI way
theorem lies_at (h : laidOk r L = true) {c : Nat} (hc : c < L.length) (h0 : L.getD c 0 ≠ 0) : ∃ t, LiesAt r L c t (L.getD c 0) := by
  obtain ⟨hv, hlen, hall⟩ := laidOk_iff.1 h
  obtain ⟨v1, v2, v3, _⟩ := Reg.valid_iff.1 hv
  have A := laidOk_at h hc h0
  obtain ⟨t, ht⟩ := Int.eq_ofNat_of_zero_le A.dest.1
  have hb := A.back
  have hth := A.there
  have hd := A.dest
  rw [ht] at hb hth hd
  rw [Int.toNat_natCast] at hb hth
  have hbk := stepI_home hv (k := c) (x := L.getD c 0) (by omega) A.dest.1
  rw [ht] at hbk
  exact ⟨t, hc, by omega, fun e => stepI_ne (r := r) (by omega) A.dest.1 (by rw [ht, e]), A.way, ht, hbk, A.here, hth, rfl, hb⟩
theorem liftL_is {c t : Nat} {way : Int} (h : LiesAt r L c t way) : liftL r L c = (L.set t 0).set c 0 := by
  unfold liftL; rw [Int.toNat_natCast, h.oc, h.hst, Int.toNat_natCast]
theorem liftL_get {c t : Nat} {way : Int} (h : LiesAt r L c t way) (k : Nat) : (liftL r L c).getD k 0 = if c = k then 0 else if t = k then 0 else L.getD k 0 := by
  rw [liftL_is h, getD_two h.ht h.hc]
theorem liftL_len {c : Int} : (liftL r L c).length = L.length := by simp [liftL]
theorem lift_ok (h : laidOk r L = true) {c : Nat} (hc : c < L.length) (h0 : L.getD c 0 ≠ 0) : laidOk r (liftL r L c) = true := by
  obtain ⟨hv, hlen, hall⟩ := laidOk_iff.1 h
  obtain ⟨t, F⟩ := lies_at h hc h0
  refine laidOk_iff.2 ⟨hv, by rw [liftL_len]; exact hlen, fun k hk => ?_⟩
  rw [liftL_len] at hk
  by_cases e1 : c = k
  · exact okAt_zero (by rw [liftL_get F, if_pos e1])
  · by_cases e2 : t = k
    · exact okAt_zero (by rw [liftL_get F, if_neg e1, if_pos e2])
    · have hx : (liftL r L c).getD k 0 = L.getD k 0 := by rw [liftL_get F, if_neg e1, if_neg e2]
      by_cases h00 : L.getD k 0 = 0
      · exact okAt_zero (hx.trans h00)
      · obtain ⟨m, G⟩ := lies_at h hk h00
        have n1 : c ≠ m := fun e => by
          subst e
          have h1 := G.hback
          rw [← G.ot, F.hst] at h1
          omega
        have n2 : t ≠ m := fun e => by
          subst e
          have h1 := G.hback
          have h2 := F.hback
          rw [← G.ot] at h1
          rw [← F.ot] at h2
          omega
        refine okAt_good (x := L.getD k 0) (s := (m : Int)) hx G.hst (by omega) G.fc (by rw [Int.toNat_natCast]; exact G.ft) ?_
        rw [Int.toNat_natCast, liftL_get F, if_neg n1, if_neg n2]; exact G.ot

theorem ext_getD {L M : List Int} (h : L.length = M.length) (g : ∀ k, k < L.length → L.getD k 0 = M.getD k 0) : L = M := by
  apply List.ext_getElem h
  intro k h1 h2
  rw [get_at L 0 k h1, get_at M 0 k h2]; exact g k h1
/-- What was lifted can be laid again. -/
theorem lift_lay (h : laidOk r L = true) {c : Nat} (hc : c < L.length) (h0 : L.getD c 0 ≠ 0) : free r (liftL r L c) c (L.getD c 0) = true ∧ layL r (liftL r L c) c (L.getD c 0) = L := by
  obtain ⟨hv, hlen, hall⟩ := laidOk_iff.1 h
  obtain ⟨t, F⟩ := lies_at h hc h0
  have hf : free r (liftL r L c) c (L.getD c 0) = true := by
    refine free_iff.2 ⟨by omega, by rw [F.hst]; omega, by rw [Int.toNat_natCast]; exact F.fc, by rw [F.hst, Int.toNat_natCast]; exact F.ft, by rw [Int.toNat_natCast, liftL_get F, if_pos rfl], ?_⟩
    rw [F.hst, Int.toNat_natCast, liftL_get F]
    split
    · rfl
    · rw [if_pos rfl]
  refine ⟨hf, ?_⟩
  obtain ⟨t', G⟩ := free_at (lift_ok h hc h0) hf
  have e : t' = t := by have h1 := G.hst; rw [F.hst] at h1; omega
  subst e
  refine ext_getD (by rw [layL_len, liftL_len]) fun k hk => ?_
  rw [layL_get G, liftL_get F]
  by_cases e1 : t' = k
  · subst e1; rw [if_pos rfl]; exact F.ot.symm
  · rw [if_neg e1]
    by_cases e2 : c = k
    · subst e2; rw [if_pos rfl]
    · rw [if_neg e2, if_neg e2, if_neg e1]
/-- What was laid can be lifted again. -/
theorem lay_lift (h : laidOk r L = true) {c : Nat} {way : Int} (hf : free r L c way = true) : liftOk (layL r L c way) c = true ∧ liftL r (layL r L c way) c = L := by
  obtain ⟨t, F⟩ := free_at h hf
  have hg : (layL r L c way).getD c 0 = way := by rw [layL_get F, if_neg (fun e => F.hne e.symm), if_pos rfl]
  have hw := F.hway
  have h0 : (layL r L c way).getD c 0 ≠ 0 := by rw [hg]; omega
  have hc : c < (layL r L c way).length := by rw [layL_len]; exact F.hc
  refine ⟨liftOk_iff.2 ⟨by omega, by rw [Int.toNat_natCast]; exact h0⟩, ?_⟩
  obtain ⟨t', G⟩ := lies_at (lay_ok h hf) hc h0
  have e : t' = t := by have h1 := G.hst; rw [hg, F.hst] at h1; omega
  subst e
  refine ext_getD (by rw [liftL_len, layL_len]) fun k hk => ?_
  rw [liftL_get G, layL_get F]
  by_cases e2 : c = k
  · subst e2; rw [if_pos rfl]; exact F.oc.symm
  · rw [if_neg e2]
    by_cases e1 : t' = k
    · subst e1; rw [if_pos rfl]; exact F.ot.symm
    · rw [if_neg e1, if_neg e1, if_neg e2]
/-- How many entries have a property, with one entry set. -/
theorem wayN_set (p : Int → Bool) (L : List Int) (i : Nat) (x : Int) (hi : i < L.length) : wayN p (L.set i x) + (if p (L.getD i 0) then 1 else 0) = wayN p L + (if p x then 1 else 0) := by
  unfold wayN
  induction L generalizing i with
  | nil => simp at hi
  | cons a l ih =>
    cases i with
    | zero =>
      simp only [List.set_cons_zero, List.filter_cons, List.getD_cons_zero]
      cases p x <;> cases p a <;> simp <;> omega
    | succ i =>
      have := ih i (by simpa using hi)
      simp only [List.set_cons_succ, List.filter_cons, List.getD_cons_succ]
      cases p a <;> simp at this ⊢ <;> omega
/-- One domino more. -/
theorem lay_many (h : laidOk r L = true) {c : Nat} {way : Int} (hf : free r L c way = true) : laidMany r (layL r L c way) = laidMany r L + 1 := by
  obtain ⟨t, F⟩ := free_at h hf
  unfold laidMany
  rw [if_pos h, if_pos (lay_ok h hf), layL_is F]
  have h1 := wayN_set isLow (L.set c way) t (backI way) (by simpa using F.ht)
  have h2 := wayN_set isLow L c way F.hc
  rw [getD_put L c t way F.hc, if_neg F.hne, F.ot] at h1
  rw [F.oc] at h2
  have hw := F.hway
  have hb : (if isLow (backI way) = true then (1 : Int) else 0) + (if isLow way = true then 1 else 0) = 1 := by
    have hc : way = 1 ∨ way = 2 ∨ way = 3 ∨ way = 4 := by omega
    rcases hc with rfl | rfl | rfl | rfl <;> decide
  have hz : isLow 0 = false := rfl
  simp only [hz, Bool.false_eq_true, if_false] at h1 h2
  omega
end
end Domi

/- The first cell without a domino, and the first completion: plain. -/
set_option linter.unusedVariables false
namespace Domi
open Go Go.RowKit

/-- Cell k belongs to the region and has no domino. -/
def openB (r : Reg) (L : List Int) (k : Nat) : Bool := r.f k && decide (L.getD k 0 = 0)
def firstN (r : Reg) (L : List Int) : Option Nat := (List.range L.length).find? (openB r L)
def firstI (r : Reg) (L : List Int) : Int := match firstN r L with | some k => (k : Nat) | none => -1
theorem firstN_some {r : Reg} {L : List Int} {k : Nat} (hk : k < L.length) (h : openB r L k = true) (hn : ∀ j, j < k → openB r L j = false) : firstN r L = some k := by
  unfold firstN
  rw [List.find?_range_eq_some]
  exact ⟨h, by simpa using hk, fun j hj => by rw [hn j hj]; rfl⟩
theorem firstN_none {r : Reg} {L : List Int} (hn : ∀ j, j < L.length → openB r L j = false) : firstN r L = none := by
  unfold firstN
  rw [List.find?_eq_none]
  intro j hj
  rw [hn j (by simpa using hj)]; simp
theorem firstN_is {r : Reg} {L : List Int} {k : Nat} (h : firstN r L = some k) : k < L.length ∧ openB r L k = true ∧ ∀ j, j < k → openB r L j = false := by
  unfold firstN at h
  rw [List.find?_range_eq_some] at h
  exact ⟨by simpa using h.2.1, h.1, fun j hj => by simpa using h.2.2 j hj⟩
theorem firstN_no {r : Reg} {L : List Int} (h : firstN r L = none) : ∀ j, j < L.length → openB r L j = false := by
  unfold firstN at h
  rw [List.find?_eq_none] at h
  intro j hj
  simpa using h j (by simpa using hj)
theorem openB_iff {r : Reg} {L : List Int} {k : Nat} : openB r L k = true ↔ r.f k = true ∧ L.getD k 0 = 0 := by unfold openB; simp

/-- How many cells have no domino yet. -/
noncomputable def openN (r : Reg) (L : List Int) : Nat := num L.length (fun k => openB r L k = true)
theorem openN_lt {r : Reg} (L : List Int) : openN r L < L.length + 1 := by have := num_le L.length (fun k => openB r L k = true); unfold openN; omega
theorem openN_lay {r : Reg} {L : List Int} (h : laidOk r L = true) {c : Nat} {way : Int} (hf : free r L c way = true) : openN r (layL r L c way) < openN r L := by
  obtain ⟨t, F⟩ := free_at h hf
  unfold openN
  rw [layL_len]
  have hw := F.hway
  have hb := (backI_way F.hway).1
  refine num_lt (fun k hk ho => ?_) F.hc ?_ ?_
  · obtain ⟨h1, h2⟩ := openB_iff.1 ho
    refine openB_iff.2 ⟨h1, ?_⟩
    rw [layL_get F] at h2
    split at h2
    · omega
    · split at h2
      · omega
      · exact h2
  · rw [openB_iff, layL_get F, if_neg (fun e => F.hne e.symm), if_pos rfl]; omega
  · exact openB_iff.2 ⟨F.fc, F.oc⟩

/-- The first completion, by as many steps as are needed. -/
def compl : Nat → Reg → List Int → List Int × Bool
  | 0, _, _ => ([], false)
  | n + 1, r, L => match firstN r L with
    | none => (L, true)
    | some k =>
      if free r L k 1 && (compl n r (layL r L k 1)).2 then compl n r (layL r L k 1)
      else if free r L k 2 && (compl n r (layL r L k 2)).2 then compl n r (layL r L k 2) else ([], false)
section
variable {n : Nat} {r : Reg} {L : List Int} {k : Nat}
theorem compl_done (h : firstN r L = none) : compl (n + 1) r L = (L, true) := by unfold compl; rw [h]
theorem compl_east (h : firstN r L = some k) (h1 : free r L k 1 = true) (h2 : (compl n r (layL r L k 1)).2 = true) : compl (n + 1) r L = compl n r (layL r L k 1) := by
  rw [compl, h]; simp only [h1, h2, Bool.and_self, if_true]
theorem compl_north (h : firstN r L = some k) (h0 : free r L k 1 = false ∨ (compl n r (layL r L k 1)).2 = false) (h1 : free r L k 2 = true) (h2 : (compl n r (layL r L k 2)).2 = true) : compl (n + 1) r L = compl n r (layL r L k 2) := by
  rw [compl, h]
  have : (free r L k 1 && (compl n r (layL r L k 1)).2) = false := by rcases h0 with e | e <;> simp [e]
  simp only [this, h1, h2, Bool.and_self, if_true]; rfl
theorem compl_no (h : firstN r L = some k) (h0 : free r L k 1 = false ∨ (compl n r (layL r L k 1)).2 = false) (h1 : free r L k 2 = false ∨ (compl n r (layL r L k 2)).2 = false) : compl (n + 1) r L = ([], false) := by
  rw [compl, h]
  have a1 : (free r L k 1 && (compl n r (layL r L k 1)).2) = false := by rcases h0 with e | e <;> simp [e]
  have a2 : (free r L k 2 && (compl n r (layL r L k 2)).2) = false := by rcases h1 with e | e <;> simp [e]
  simp only [a1, a2]; rfl
end
/-- More steps tell the same. -/
theorem compl_fuel (r : Reg) : ∀ (n m : Nat) (L : List Int), laidOk r L = true → openN r L < n → openN r L < m → compl n r L = compl m r L := by
  intro n
  induction n with
  | zero => intro m L _ h; omega
  | succ n ih =>
    intro m L hk hn hm
    cases m with
    | zero => omega
    | succ m =>
      unfold compl
      cases hf : firstN r L with
      | none => rfl
      | some k =>
        have e : ∀ way, free r L k way = true → compl n r (layL r L k way) = compl m r (layL r L k way) := fun way hw => by
          have := openN_lay hk hw
          exact ih m _ (lay_ok hk hw) (by omega) (by omega)
        simp only
        cases h1 : free r L k 1
        · cases h2 : free r L k 2
          · rfl
          · simp only [Bool.false_and, Bool.true_and, Bool.false_eq_true, if_false, e 2 h2]
        · cases h2 : free r L k 2
          · simp only [Bool.false_and, Bool.true_and, Bool.false_eq_true, if_false, e 1 h1]
          · simp only [Bool.true_and, e 1 h1, e 2 h2]
def completeR (r : Reg) (L : List Int) : List Int × Bool := if laidOk r L then compl 40 r L else ([], false)
def firstR (r : Reg) : List Int × Bool := completeR r (bareL r)
theorem completeR_no {r : Reg} {L : List Int} (h : laidOk r L = false) : completeR r L = ([], false) := by unfold completeR; rw [h]; rfl
theorem completeR_yes {r : Reg} {L : List Int} (h : laidOk r L = true) : completeR r L = compl 40 r L := by unfold completeR; rw [if_pos h]
end Domi

/- Bare regions: plain. -/
set_option linter.unusedVariables false
namespace Domi
open Go Go.RowKit

theorem getD_zero (n k : Nat) : (List.replicate n (0 : Int)).getD k 0 = 0 := by
  rw [List.getD_eq_getElem?_getD, List.getElem?_replicate]; split <;> rfl
theorem bare_laid {r : Reg} (h : r.valid = true) : laidOk r (bareL r) = true := by
  rw [bareL_yes h]
  exact laidOk_iff.2 ⟨h, by simp, fun k _ => okAt_zero (getD_zero _ _)⟩
theorem bare_ways (p : Int → Bool) (hp : p 0 = false) {r : Reg} (h : r.valid = true) : wayN p (bareL r) = 0 := by
  rw [bareL_yes h]; unfold wayN
  rw [List.filter_eq_nil_iff.2 (fun x hx => by rw [(List.mem_replicate.1 hx).2, hp]; simp)]; rfl
theorem bare_many {r : Reg} (h : r.valid = true) : laidMany r (bareL r) = 0 := by
  unfold laidMany; rw [if_pos (bare_laid h)]; exact bare_ways _ rfl h
theorem cnt_zero {l : List Bool} : cnt l = 0 ↔ ∀ k, l.getD k false = false := by
  unfold cnt
  constructor
  · intro h k
    have h' : l.filter id = [] := List.eq_nil_of_length_eq_zero (by omega)
    rw [List.filter_eq_nil_iff] at h'
    by_cases hk : k < l.length
    · have := h' l[k] (List.getElem_mem hk)
      rw [get_at l false k hk] at this
      simpa using this
    · rw [List.getD_eq_getElem?_getD, List.getElem?_eq_none (by omega)]; rfl
  · intro h
    have : l.filter id = [] := by
      rw [List.filter_eq_nil_iff]
      intro x hx
      obtain ⟨k, hk, rfl⟩ := List.mem_iff_getElem.1 hx
      rw [get_at l false k hk, h k]; simp
    rw [this]; rfl
theorem bare_tiling {r : Reg} (h : r.valid = true) : tilingOk r (bareL r) = (r.many == 0) := by
  unfold tilingOk
  rw [bare_laid h, Bool.true_and, Reg.many_yes h, Bool.eq_iff_iff]
  unfold fullB
  rw [List.all_eq_true, beq_iff_eq, cnt_zero]
  constructor
  · intro hall k
    by_cases hk : k < r.cells.length
    · have := hall k (by simpa using hk)
      rw [bareL_yes h, getD_zero] at this
      simp at this; exact this
    · rw [List.getD_eq_getElem?_getD, List.getElem?_eq_none (by omega)]; rfl
  · intro hall k _
    rw [show r.f k = r.cells.getD k false from rfl, hall k]; rfl
end Domi

/- All tilings with the dominoes of a list, in order: plain. -/
set_option linter.unusedVariables false
namespace Domi
open Go Go.RowKit

/-- All tilings with the dominoes of a list, by as many steps as are needed. -/
def tils : Nat → Reg → List Int → List (List Int)
  | 0, _, _ => []
  | n + 1, r, L => match firstN r L with
    | none => [L]
    | some k => (if free r L k 1 then tils n r (layL r L k 1) else []) ++ (if free r L k 2 then tils n r (layL r L k 2) else [])
def tilsR (r : Reg) : List (List Int) := if r.valid then tils 40 r (bareL r) else []
theorem tilsR_no {r : Reg} (h : r.valid = false) : tilsR r = [] := by unfold tilsR; rw [h]; rfl
theorem tilsR_yes {r : Reg} (h : r.valid = true) : tilsR r = tils 40 r (bareL r) := by unfold tilsR; rw [if_pos h]
section
variable {n : Nat} {r : Reg} {L : List Int} {k : Nat}
theorem tils_done (h : firstN r L = none) : tils (n + 1) r L = [L] := by rw [tils, h]
theorem tils_some (h : firstN r L = some k) : tils (n + 1) r L = (if free r L k 1 then tils n r (layL r L k 1) else []) ++ (if free r L k 2 then tils n r (layL r L k 2) else []) := by rw [tils, h]
end
/-- The first of a list of lists, and whether there is one. -/
def headQ : List (List Int) → List Int × Bool
  | [] => ([], false)
  | x :: _ => (x, true)
theorem headQ_app (a b : List (List Int)) : headQ (a ++ b) = if (headQ a).2 then headQ a else headQ b := by cases a <;> rfl
theorem compl_head (r : Reg) : ∀ (n : Nat) (L : List Int), compl n r L = headQ (tils n r L) := by
  intro n
  induction n with
  | zero => intro L; rfl
  | succ n ih =>
    intro L
    cases hf : firstN r L with
    | none => rw [compl_done hf, tils_done hf]; rfl
    | some k =>
      rw [tils_some hf, headQ_app, compl, hf]
      simp only [ih]
      generalize tils n r (layL r L k 1) = a
      generalize tils n r (layL r L k 2) = b
      cases free r L k 1 <;> cases free r L k 2 <;> cases a <;> cases b <;> rfl
theorem firstR_head {r : Reg} (h : r.valid = true) : firstR r = headQ (tilsR r) := by
  unfold firstR; rw [completeR_yes (bare_laid h), tilsR_yes h, compl_head]
theorem firstR_no {r : Reg} (h : r.valid = false) : firstR r = ([], false) := by
  unfold firstR; rw [completeR_no (laidOk_no1 h)]

/-- T has all dominoes of L. -/
def Ext (L T : List Int) : Prop := ∀ k, L.getD k 0 ≠ 0 → T.getD k 0 = L.getD k 0
theorem Ext.refl (L : List Int) : Ext L L := fun _ _ => rfl
theorem tilingOk_iff {r : Reg} {T : List Int} : tilingOk r T = true ↔ laidOk r T = true ∧ ∀ k, k < r.cells.length → r.f k = true → T.getD k 0 ≠ 0 := by
  unfold tilingOk fullB
  rw [Bool.and_eq_true, List.all_eq_true]
  refine and_congr Iff.rfl ⟨fun h k hk hf e => ?_, fun h k hk => ?_⟩
  · have := h k (by simpa using hk)
    rw [hf, e] at this; simp at this
  · cases hf : r.f k
    · rfl
    · have := h k (by simpa using hk) hf
      simpa using this
theorem getD_far {L : List Int} {k : Nat} (h : L.length ≤ k) : L.getD k 0 = 0 := by
  rw [List.getD_eq_getElem?_getD, List.getElem?_eq_none h]; rfl
/-- An entry outside of the region is 0. -/
theorem laid_out {r : Reg} {L : List Int} (h : laidOk r L = true) {k : Nat} (hf : r.f k = false) : L.getD k 0 = 0 := by
  by_cases hk : k < L.length
  · by_cases h0 : L.getD k 0 = 0
    · exact h0
    · have := (laidOk_at h hk h0).here
      rw [hf] at this; cases this
  · exact getD_far (by omega)
/-- The two cells of a domino of T, where L has none. -/
theorem ext_free {r : Reg} {L T : List Int} (hL : laidOk r L = true) (hT : laidOk r T = true) (he : Ext L T) {k : Nat} (h0 : T.getD k 0 ≠ 0) (hk0 : L.getD k 0 = 0) : free r L k (T.getD k 0) = true ∧ Ext (layL r L k (T.getD k 0)) T := by
  have hk : k < T.length := by
    rcases Nat.lt_or_ge k T.length with h | h
    · exact h
    · exact absurd (getD_far h) h0
  obtain ⟨t, F⟩ := lies_at hT hk h0
  have hlT := (laidOk_iff.1 hT).2.1
  have hlL := (laidOk_iff.1 hL).2.1
  have ht0 : L.getD t 0 = 0 := by
    by_cases e : L.getD t 0 = 0
    · exact e
    · have h1 := he t e
      obtain ⟨m, G⟩ := lies_at hL (c := t) (by have := F.ht; omega) e
      have h2 : stepI r t (L.getD t 0) = (k : Int) := by rw [← h1, F.ot]; exact F.hback
      have h3 : m = k := by have := G.hst; rw [h2] at this; omega
      subst h3
      have := (backI_way G.hway).1
      rw [← G.ot, hk0] at this
      omega
  have hf : free r L k (T.getD k 0) = true := by
    refine free_iff.2 ⟨by omega, by rw [F.hst]; omega, by rw [Int.toNat_natCast]; exact F.fc, by rw [F.hst, Int.toNat_natCast]; exact F.ft, by rw [Int.toNat_natCast]; exact hk0, by rw [F.hst, Int.toNat_natCast]; exact ht0⟩
  refine ⟨hf, fun j hj => ?_⟩
  obtain ⟨t', G⟩ := free_at hL hf
  have e : t' = t := by have h1 := G.hst; rw [F.hst] at h1; omega
  subst e
  rw [layL_get G] at hj ⊢
  split
  · next e => subst e; exact F.ot
  · next e =>
    rw [if_neg e] at hj
    split
    · next e2 => subst e2; rfl
    · next e2 => rw [if_neg e2] at hj; exact he j hj
theorem ext_lay {r : Reg} {L : List Int} (hL : laidOk r L = true) {k : Nat} {way : Int} (hf : free r L k way = true) : Ext L (layL r L k way) ∧ (layL r L k way).getD k 0 = way := by
  obtain ⟨t, G⟩ := free_at hL hf
  refine ⟨fun j hj => ?_, ?_⟩
  · rw [layL_get G]
    have n1 : t ≠ j := fun e => hj (by rw [← e]; exact G.ot)
    have n2 : k ≠ j := fun e => hj (by rw [← e]; exact G.oc)
    rw [if_neg n1, if_neg n2]
  · rw [layL_get G, if_neg (fun e => G.hne e.symm), if_pos rfl]
theorem Ext.trans {L M T : List Int} (h : Ext L M) (g : Ext M T) : Ext L T := fun k hk => by
  have h1 := h k hk
  rw [← h1]
  exact g k (by rw [h1]; exact hk)
/-- In the first cell without one a domino goes to the east or to the north. -/
theorem first_way {r : Reg} {L T : List Int} (hL : laidOk r L = true) (hT : tilingOk r T = true) (he : Ext L T) {k : Nat} (hf : firstN r L = some k) : T.getD k 0 = 1 ∨ T.getD k 0 = 2 := by
  obtain ⟨hkL, ho, hno⟩ := firstN_is hf
  obtain ⟨hfk, hk0⟩ := openB_iff.1 ho
  obtain ⟨hT1, hT2⟩ := tilingOk_iff.1 hT
  have hlT := (laidOk_iff.1 hT1).2.1
  have hlL := (laidOk_iff.1 hL).2.1
  have hTk : T.getD k 0 ≠ 0 := hT2 k (by omega) hfk
  obtain ⟨t, F⟩ := lies_at hT1 (c := k) (by omega) hTk
  obtain ⟨hfr, _⟩ := ext_free hL hT1 he hTk hk0
  obtain ⟨t', G⟩ := free_at hL hfr
  have e : t' = t := by have h1 := G.hst; rw [F.hst] at h1; omega
  subst e
  have hot : openB r L t' = true := openB_iff.2 ⟨G.ft, G.ot⟩
  have htk : ¬ t' < k := fun h => by rw [hno t' h] at hot; cases hot
  obtain ⟨v1, v2, v3, _⟩ := Reg.valid_iff.1 (laidOk_iff.1 hL).1
  have hst := F.hst
  have hw := F.hway
  by_cases h3 : T.getD k 0 = 3
  · rw [h3] at hst; unfold stepI at hst; simp at hst; split at hst <;> omega
  by_cases h4 : T.getD k 0 = 4
  · rw [h4] at hst; unfold stepI at hst; simp at hst; split at hst <;> omega
  omega
theorem mem_tils (r : Reg) : ∀ (n : Nat) (L T : List Int), laidOk r L = true → openN r L < n → (T ∈ tils n r L ↔ tilingOk r T = true ∧ Ext L T) := by
  intro n
  induction n with
  | zero => intro L T _ h; omega
  | succ n ih =>
    intro L T hL hn
    have hlL := (laidOk_iff.1 hL).2.1
    cases hf : firstN r L with
    | none =>
      rw [tils_done hf, List.mem_singleton]
      have hno := firstN_no hf
      constructor
      · rintro rfl
        refine ⟨tilingOk_iff.2 ⟨hL, fun k hk hfk e => ?_⟩, Ext.refl _⟩
        have := hno k (by omega)
        rw [openB_iff.2 ⟨hfk, e⟩] at this; cases this
      · rintro ⟨hT, he⟩
        have hlT := (laidOk_iff.1 (tilingOk_iff.1 hT).1).2.1
        refine ext_getD (by omega) fun k hk => ?_
        by_cases h0 : L.getD k 0 = 0
        · rw [h0]
          have hfk : r.f k = false := by
            cases e : r.f k
            · rfl
            · have := hno k (by omega)
              rw [openB_iff.2 ⟨e, h0⟩] at this; cases this
          exact laid_out (tilingOk_iff.1 hT).1 hfk
        · exact he k h0
    | some k =>
      rw [tils_some hf, List.mem_append]
      obtain ⟨hkL, ho, hno⟩ := firstN_is hf
      obtain ⟨hfk, hk0⟩ := openB_iff.1 ho
      have step : ∀ way, free r L k way = true → (T ∈ tils n r (layL r L k way) ↔ tilingOk r T = true ∧ Ext (layL r L k way) T) := fun way hw =>
        ih _ T (lay_ok hL hw) (by have := openN_lay hL hw; omega)
      constructor
      · rintro (h | h)
        · cases h1 : free r L k 1
          · rw [h1] at h; simp at h
          · rw [h1, if_pos rfl] at h
            obtain ⟨a, b⟩ := (step 1 h1).1 h
            exact ⟨a, (ext_lay hL h1).1.trans b⟩
        · cases h1 : free r L k 2
          · rw [h1] at h; simp at h
          · rw [h1, if_pos rfl] at h
            obtain ⟨a, b⟩ := (step 2 h1).1 h
            exact ⟨a, (ext_lay hL h1).1.trans b⟩
      · rintro ⟨hT, he⟩
        have hTk : T.getD k 0 ≠ 0 := (tilingOk_iff.1 hT).2 k (by omega) hfk
        obtain ⟨a, b⟩ := ext_free hL (tilingOk_iff.1 hT).1 he hTk hk0
        rcases first_way hL hT he hf with e | e
        · rw [e] at a b
          left; rw [if_pos a]; exact (step 1 a).2 ⟨hT, b⟩
        · rw [e] at a b
          right; rw [if_pos a]; exact (step 2 a).2 ⟨hT, b⟩
/-- The list a has the lesser number at the first difference. -/
def Bef (a b : List Int) : Prop := ∃ k, (∀ j, j < k → a.getD j 0 = b.getD j 0) ∧ a.getD k 0 < b.getD k 0
theorem Bef.ne {a b : List Int} (h : Bef a b) : a ≠ b := by
  rintro rfl; obtain ⟨k, _, h⟩ := h; omega
theorem Bef.trans {a b c : List Int} (h : Bef a b) (g : Bef b c) : Bef a c := by
  obtain ⟨k, h1, h2⟩ := h
  obtain ⟨m, g1, g2⟩ := g
  rcases Nat.lt_trichotomy k m with hlt | rfl | hlt
  · exact ⟨k, fun j hj => (h1 j hj).trans (g1 j (by omega)), by rw [← g1 k hlt]; exact h2⟩
  · exact ⟨k, fun j hj => (h1 j hj).trans (g1 j hj), by omega⟩
  · exact ⟨m, fun j hj => (h1 j (by omega)).trans (g1 j hj), by rw [h1 m hlt]; exact g2⟩
theorem Bef.asymm {a b : List Int} (h : Bef a b) : ¬ Bef b a := fun g => (h.trans g).ne rfl
theorem tils_order (r : Reg) : ∀ (n : Nat) (L : List Int), laidOk r L = true → openN r L < n → (tils n r L).Pairwise Bef := by
  intro n
  induction n with
  | zero => intro L _ h; omega
  | succ n ih =>
    intro L hL hn
    cases hf : firstN r L with
    | none => rw [tils_done hf]; simp
    | some k =>
      rw [tils_some hf]
      obtain ⟨hkL, ho, hno⟩ := firstN_is hf
      have step : ∀ way, free r L k way = true → (tils n r (layL r L k way)).Pairwise Bef := fun way hw => ih _ (lay_ok hL hw) (by have := openN_lay hL hw; omega)
      have mem : ∀ way T, free r L k way = true → T ∈ tils n r (layL r L k way) → T.getD k 0 = way ∧ ∀ j, j < k → T.getD j 0 = L.getD j 0 := fun way T hw hT => by
        have hn' : openN r (layL r L k way) < n := by have := openN_lay hL hw; omega
        obtain ⟨a, b⟩ := (mem_tils r n _ T (lay_ok hL hw) hn').1 hT
        obtain ⟨e1, e2⟩ := ext_lay hL hw
        have hwy := (free_at hL hw).choose_spec.hway
        refine ⟨by rw [b k (by rw [e2]; omega), e2], fun j hj => ?_⟩
        by_cases h0 : L.getD j 0 = 0
        · rw [h0]
          have := hno j hj
          cases hfj : r.f j
          · exact laid_out (tilingOk_iff.1 a).1 hfj
          · rw [openB_iff.2 ⟨hfj, h0⟩] at this; cases this
        · exact e1.trans b j h0
      rw [List.pairwise_append]
      refine ⟨?_, ?_, ?_⟩
      · cases h1 : free r L k 1
        · simp
        · rw [if_pos rfl]; exact step 1 h1
      · cases h1 : free r L k 2
        · simp
        · rw [if_pos rfl]; exact step 2 h1
      · intro a ha b hb
        cases h1 : free r L k 1
        · rw [h1] at ha; simp at ha
        · cases h2 : free r L k 2
          · rw [h2] at hb; simp at hb
          · rw [h1, if_pos rfl] at ha
            rw [h2, if_pos rfl] at hb
            obtain ⟨a1, a2⟩ := mem 1 a h1 ha
            obtain ⟨b1, b2⟩ := mem 2 b h2 hb
            exact ⟨k, fun j hj => (a2 j hj).trans (b2 j hj).symm, by rw [a1, b1]; decide⟩
theorem bare_open {r : Reg} (h : r.valid = true) : openN r (bareL r) < 40 := by
  have h1 := openN_lt (r := r) (bareL r)
  obtain ⟨v1, v2, v3, _⟩ := Reg.valid_iff.1 h
  have hA := area_in v1 v2
  have hl : (bareL r).length = r.cells.length := by rw [bareL_yes h]; simp
  omega
theorem mem_tilsR {r : Reg} (h : r.valid = true) {T : List Int} : T ∈ tilsR r ↔ tilingOk r T = true := by
  rw [tilsR_yes h, mem_tils r 40 _ T (bare_laid h) (bare_open h)]
  refine ⟨fun g => g.1, fun g => ⟨g, fun k hk => ?_⟩⟩
  rw [bareL_yes h] at hk
  exact absurd (getD_zero _ _) hk
theorem mem_tilsR' {r : Reg} {T : List Int} : T ∈ tilsR r ↔ tilingOk r T = true := by
  cases h : r.valid
  · rw [tilsR_no h]
    refine ⟨fun g => by simp at g, fun g => ?_⟩
    have := (laidOk_iff.1 (tilingOk_iff.1 g).1).1
    rw [h] at this; cases this
  · exact mem_tilsR h
theorem tilsR_order (r : Reg) : (tilsR r).Pairwise Bef := by
  cases h : r.valid
  · rw [tilsR_no h]; simp
  · rw [tilsR_yes h]; exact tils_order r 40 _ (bare_laid h) (bare_open h)
theorem tilsR_nodup (r : Reg) : (tilsR r).Nodup := (tilsR_order r).imp fun h => h.ne

/-- A list without repetitions is at most as long as one that has all its entries. -/
theorem nodup_len {α : Type} [DecidableEq α] : ∀ {a b : List α}, a.Nodup → (∀ x ∈ a, x ∈ b) → a.length ≤ b.length := by
  intro a
  induction a with
  | nil => intro b _ _; simp
  | cons x a ih =>
    intro b hn hs
    have hx := hs x (by simp)
    have h1 := ih (b := b.erase x) (List.nodup_cons.1 hn).2 fun y hy => by
      have hne : y ≠ x := fun e => (List.nodup_cons.1 hn).1 (e ▸ hy)
      exact (List.mem_erase_of_ne hne).2 (hs y (by simp [hy]))
    have h2 := List.length_erase_of_mem hx
    have h3 := List.length_pos_of_mem hx
    simp only [List.length_cons]; omega
/-- As many, if each is carried to one of the others, and back. -/
theorem len_carried {a b : List (List Int)} (ha : a.Nodup) (f g : List Int → List Int) (hf : ∀ x ∈ a, f x ∈ b) (hg : ∀ x ∈ a, g (f x) = x) : a.length ≤ b.length := by
  have h1 : (a.map f).Nodup := by
    rw [List.Nodup, List.pairwise_map]
    refine List.Pairwise.imp_of_mem ?_ ha
    intro x y hx hy hne e
    exact hne (by rw [← hg x hx, e, hg y hy])
  have := nodup_len h1 (b := b) fun x hx => by
    obtain ⟨y, hy, rfl⟩ := List.mem_map.1 hx
    exact hf y hy
  simpa using this
/-- The first completion: no tiling with the dominoes of the list comes before it. -/
theorem completeR_head {r : Reg} {L : List Int} (h : laidOk r L = true) : completeR r L = headQ (tils 40 r L) := by rw [completeR_yes h, compl_head]
theorem laid_open {r : Reg} {L : List Int} (h : laidOk r L = true) : openN r L < 40 := by
  have h1 := openN_lt (r := r) L
  obtain ⟨v1, v2, v3, _⟩ := Reg.valid_iff.1 (laidOk_iff.1 h).1
  have hA := area_in v1 v2
  have := (laidOk_iff.1 h).2.1
  omega
theorem complete_first {r : Reg} {L : List Int} (h : laidOk r L = true) (h2 : (completeR r L).2 = true) : (tilingOk r (completeR r L).1 = true ∧ Ext L (completeR r L).1) ∧ ∀ T, tilingOk r T = true → Ext L T → ¬ Bef T (completeR r L).1 := by
  have e := completeR_head h
  have ho := tils_order r 40 L h (laid_open h)
  have hm := fun T => mem_tils r 40 L T h (laid_open h)
  cases ht : tils 40 r L with
  | nil => rw [e, ht] at h2; simp [headQ] at h2
  | cons x l =>
    rw [ht] at ho hm
    have e1 : (completeR r L).1 = x := by rw [e, ht]; rfl
    rw [e1]
    refine ⟨(hm x).1 (by simp), fun T hT he hb => ?_⟩
    rcases List.mem_cons.1 ((hm T).2 ⟨hT, he⟩) with rfl | hl
    · exact hb.ne rfl
    · exact hb.asymm ((List.pairwise_cons.1 ho).1 T hl)
theorem complete_none {r : Reg} {L : List Int} (h : laidOk r L = true) (h2 : (completeR r L).2 = false) : (completeR r L).1 = [] ∧ ∀ T, tilingOk r T = true → ¬ Ext L T := by
  have e := completeR_head h
  cases ht : tils 40 r L with
  | nil =>
    rw [e, ht]
    refine ⟨rfl, fun T hT he => ?_⟩
    have := (mem_tils r 40 L T h (laid_open h)).2 ⟨hT, he⟩
    rw [ht] at this; simp at this
  | cons x l => rw [e, ht] at h2; simp [headQ] at h2
end Domi

/- Texts of dominoes: plain. -/
set_option linter.unusedVariables false
namespace Domi
open Go Go.RowKit

/-- The sign of a direction, and the direction of a sign. -/
def waySg (x : Int) : UInt8 := if x = 0 then 35 else if x = 1 then 101 else if x = 2 then 110 else if x = 3 then 119 else 115
def wayC (c : UInt8) : Int := if c = 101 then 1 else if c = 110 then 2 else if c = 119 then 3 else if c = 115 then 4 else 0
def okL (c : UInt8) : Bool := c == 46 || (c == 35 || c == 101 || c == 110 || c == 119 || c == 115)
theorem way_sign {x : Int} (h : 0 ≤ x ∧ x ≤ 4) : wayC (waySg x) = x ∧ waySg x ≠ 46 ∧ okL (waySg x) = true ∧ waySg x ≠ 47 := by
  have : x = 0 ∨ x = 1 ∨ x = 2 ∨ x = 3 ∨ x = 4 := by omega
  rcases this with rfl | rfl | rfl | rfl | rfl <;> decide
theorem okL_cases {c : UInt8} (h : okL c = true) : c = 46 ∨ c ≠ 46 ∧ waySg (wayC c) = c := by
  unfold okL at h
  simp only [Bool.or_eq_true, beq_iff_eq] at h
  rcases h with rfl | ((((rfl | rfl) | rfl) | rfl) | rfl)
  · exact .inl rfl
  all_goals exact .inr ⟨by decide, by decide⟩
def sgnL (r : Reg) (L : List Int) (k : Nat) : UInt8 := if r.f k then waySg (L.getD k 0) else 46
def laidText (r : Reg) (L : List Int) : List UInt8 := if laidOk r L then textU (sgnL r L) r.wide.toNat r.tall.toNat else []
theorem laidText_no {r : Reg} {L : List Int} (h : laidOk r L = false) : laidText r L = [] := by unfold laidText; rw [h]; rfl
theorem laidText_yes {r : Reg} {L : List Int} (h : laidOk r L = true) : laidText r L = textU (sgnL r L) r.wide.toNat r.tall.toNat := by unfold laidText; rw [if_pos h]
theorem laidText_len (r : Reg) (L : List Int) : (laidText r L).length ≤ 42 := by
  cases hv : laidOk r L
  · rw [laidText_no hv]; simp
  · obtain ⟨v1, v2, _, _⟩ := Reg.valid_iff.1 (laidOk_iff.1 hv).1
    rw [laidText_yes hv]
    have := text_len (sgnL r L) r.wide.toNat r.tall.toNat (by omega)
    have h5 : r.tall.toNat * (r.wide.toNat + 1) ≤ 6 * 7 := Nat.mul_le_mul (by omega) (by omega)
    omega
def layU (s : List UInt8) : List Int := (sigs s).map wayC
def readL (s : List UInt8) : Reg × List Int × Bool := if goodU okL s && laidOk (outR s) (layU s) then (outR s, layU s, true) else (Reg.zero, [], false)
theorem readL_yes {s : List UInt8} (h : goodU okL s = true) (hv : laidOk (outR s) (layU s) = true) : readL s = (outR s, layU s, true) := by unfold readL; rw [h, hv]; rfl
theorem readL_no {s : List UInt8} (h : goodU okL s = false ∨ laidOk (outR s) (layU s) = false) : readL s = (Reg.zero, [], false) := by
  unfold readL
  rcases h with h | h <;> rw [h] <;> simp
theorem readL_cases (s : List UInt8) : goodU okL s = true ∧ laidOk (outR s) (layU s) = true ∧ readL s = (outR s, layU s, true) ∨ (goodU okL s = false ∨ laidOk (outR s) (layU s) = false) ∧ readL s = (Reg.zero, [], false) := by
  cases h : goodU okL s
  · exact .inr ⟨.inl rfl, readL_no (.inl h)⟩
  · cases hv : laidOk (outR s) (layU s)
    · exact .inr ⟨.inr rfl, readL_no (.inr hv)⟩
    · exact .inl ⟨rfl, rfl, readL_yes h hv⟩
theorem goodL_text {s : List UInt8} (h : goodU okL s = true) (hv : laidOk (outR s) (layU s) = true) : laidText (outR s) (layU s) = s := by
  obtain ⟨hf, hc⟩ := goodU_iff.1 h
  rw [laidText_yes hv]
  have hl := sigs_len hf
  have hw : (outR s).wide.toNat = wideU s := by unfold outR; simp
  have ht : (outR s).tall.toNat = tallU s := by unfold outR; simp
  rw [hw, ht]
  refine text_of_signs hf fun k hk => ?_
  rw [← hl] at hk
  have hm : (sigs s).getD k 0 ∈ sigs s := by rw [List.getD_eq_getElem?_getD, List.getElem?_eq_getElem hk]; exact List.getElem_mem _
  have hok := hc _ hm
  have hL : (layU s).getD k 0 = wayC ((sigs s).getD k 0) := by
    unfold layU
    simp only [List.getD_eq_getElem?_getD, List.getElem?_map, List.getElem?_eq_getElem hk, Option.map_some, Option.getD_some]
  unfold sgnL
  rw [out_f s hk, hL]
  generalize (sigs s).getD k 0 = c at *
  rcases okL_cases hok with rfl | ⟨h1, h2⟩
  · rfl
  · have : (c != 46) = true := by simpa using h1
    rw [if_pos this, h2]
theorem text_goodL {r : Reg} {L : List Int} (hv : laidOk r L = true) : goodU okL (laidText r L) = true ∧ outR (laidText r L) = r ∧ layU (laidText r L) = L := by
  obtain ⟨hrv, hlen, _⟩ := laidOk_iff.1 hv
  obtain ⟨v1, v2, v3, _⟩ := Reg.valid_iff.1 hrv
  have hsg : ∀ k, sgnL r L k ≠ 47 ∧ okL (sgnL r L k) = true ∧ (sgnL r L k != 46) = r.f k ∧ wayC (sgnL r L k) = L.getD k 0 := fun k => by
    have hb := laidOk_bd hv k
    obtain ⟨w1, w2, w3, w4⟩ := way_sign hb
    unfold sgnL
    cases hf : r.f k
    · rw [laid_out hv hf]; exact ⟨by decide, by decide, by decide, by decide⟩
    · exact ⟨w4, w3, by simpa using w2, w1⟩
  rw [laidText_yes hv]
  obtain ⟨h1, h2, h3, h4⟩ := text_fit (sg := sgnL r L) (w := r.wide.toNat) (t := r.tall.toNat) (by omega) (by omega) fun k _ => (hsg k).1
  have hcl : r.cells.length = r.wide.toNat * r.tall.toNat := by
    have hw : r.wide = (r.wide.toNat : Int) := by omega
    have ht : r.tall = (r.tall.toNat : Int) := by omega
    rw [hw, ht, ← Int.natCast_mul] at v3
    omega
  refine ⟨goodU_iff.2 ⟨h1, fun c hc => ?_⟩, ?_, ?_⟩
  · rw [h4] at hc
    obtain ⟨k, _, rfl⟩ := List.mem_map.1 hc
    exact (hsg k).2.1
  · unfold outR
    rw [h2, h3, h4]
    have hc : ((List.range (r.wide.toNat * r.tall.toNat)).map (sgnL r L)).map (fun c => c != 46) = r.cells := by
      rw [List.map_map]
      refine List.ext_getElem (by simp [hcl]) fun k h5 h6 => ?_
      simp only [List.getElem_map, List.getElem_range, Function.comp]
      rw [(hsg k).2.2.1]
      unfold Reg.f
      rw [List.getD_eq_getElem?_getD, List.getElem?_eq_getElem h6, Option.getD_some]
    rw [hc]
    have hw : ((r.wide.toNat : Nat) : Int) = r.wide := by omega
    have ht : ((r.tall.toNat : Nat) : Int) = r.tall := by omega
    rw [hw, ht]
  · unfold layU
    rw [h4, List.map_map]
    refine List.ext_getElem (by simp [hlen, hcl]) fun k h5 h6 => ?_
    simp only [List.getElem_map, List.getElem_range, Function.comp]
    rw [(hsg k).2.2.2, List.getD_eq_getElem?_getD, List.getElem?_eq_getElem h6, Option.getD_some]
theorem read_laid {r : Reg} {L : List Int} (hv : laidOk r L = true) : readL (laidText r L) = (r, L, true) := by
  obtain ⟨h1, h2, h3⟩ := text_goodL hv
  rw [readL_yes h1 (by rw [h2, h3]; exact hv), h2, h3]
theorem spec_readL (s : List UInt8) : readL s = if s = [] ∨ laidText (outR s) (layU s) ≠ s then (Reg.zero, [], false) else (outR s, layU s, true) := by
  rcases readL_cases s with ⟨h1, h2, h3⟩ | ⟨h1, h3⟩
  · rw [h3, if_neg]
    rintro (g | g)
    · exact fit_nonempty (goodU_iff.1 h1).1 g
    · exact g (goodL_text h1 h2)
  · rw [h3]
    by_cases g : s = [] ∨ laidText (outR s) (layU s) ≠ s
    · rw [if_pos g]
    · exfalso
      have g1 : s ≠ [] := fun e => g (.inl e)
      have g2 : laidText (outR s) (layU s) = s := Classical.byContradiction fun e => g (.inr e)
      have hv : laidOk (outR s) (layU s) = true := by
        cases hv : laidOk (outR s) (layU s)
        · rw [laidText_no hv] at g2; exact absurd g2.symm g1
        · rfl
      obtain ⟨h4, _⟩ := text_goodL hv
      rw [g2] at h4
      rcases h1 with h | h
      · rw [h4] at h; cases h
      · rw [hv] at h; cases h
theorem readL_more {s : List UInt8} (h : (readL s).2.2 = true) : laidText (readL s).1 (readL s).2.1 = s ∧ readL (s ++ [47]) = (Reg.zero, [], false) := by
  rcases readL_cases s with ⟨h1, h2, h3⟩ | ⟨_, h3⟩
  · rw [h3]
    refine ⟨goodL_text h1 h2, readL_no (.inl ?_)⟩
    unfold goodU
    rw [fit_snoc (goodU_iff.1 h1).1]; rfl
  · rw [h3] at h; cases h
end Domi
