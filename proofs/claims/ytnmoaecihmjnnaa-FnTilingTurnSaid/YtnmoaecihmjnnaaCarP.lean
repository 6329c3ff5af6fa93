/- Dominoes carried to other places: turned, mirrored. Plain. -/
import Derived.Test.YtnmoaecihmjnnaaLaidQ
import Derived.Test.YtnmoaecihmjnnaaPure
namespace Domi
open Go Go.RowKit

/-- The list l with its first k entries put at the places 'tt', each turned by f. -/
def putI (tt : Nat → Nat) (f : Int → Int) (l : List Int) : Nat → List Int
  | 0 => List.replicate l.length 0
  | k + 1 => (putI tt f l k).set (tt k) (f (l.getD k 0))
theorem putI_length (tt : Nat → Nat) (f : Int → Int) (l : List Int) (k : Nat) : (putI tt f l k).length = l.length := by
  induction k with
  | zero => simp [putI]
  | succ k ih => simp [putI, ih]
theorem putI_get {tt : Nat → Nat} {f : Int → Int} {l : List Int} (h : OneToOne tt l.length) (k : Nat) (hk : k ≤ l.length) :
    (∀ j, j < k → (putI tt f l k).getD (tt j) 0 = f (l.getD j 0)) ∧ (∀ i, (∀ j, j < k → tt j ≠ i) → (putI tt f l k).getD i 0 = 0) := by
  induction k with
  | zero =>
    refine ⟨fun j hj => by omega, fun i _ => ?_⟩
    simp only [putI, List.getD_eq_getElem?_getD, List.getElem?_replicate]; split <;> rfl
  | succ k ih =>
    obtain ⟨i1, i2⟩ := ih (by omega)
    have hl : tt k < (putI tt f l k).length := by rw [putI_length]; exact h.lt k (by omega)
    refine ⟨fun j hj => ?_, fun i hi => ?_⟩
    · unfold putI
      rw [getD_put _ _ _ _ hl]
      by_cases e : j = k
      · subst e; rw [if_pos rfl]
      · rw [if_neg (fun e2 => e (h.inj _ _ (by omega) (by omega) e2.symm))]; exact i1 j (by omega)
    · unfold putI
      rw [getD_put _ _ _ _ hl, if_neg (hi k (by omega))]
      exact i2 i fun j hj => hi j (by omega)
def carL (tt : Nat → Nat) (f : Int → Int) (L : List Int) : List Int := putI tt f L L.length
theorem carL_len {tt : Nat → Nat} {f : Int → Int} {L : List Int} : (carL tt f L).length = L.length := putI_length _ _ _ _
theorem carL_get {tt : Nat → Nat} {f : Int → Int} {L : List Int} (h : OneToOne tt L.length) {k : Nat} (hk : k < L.length) : (carL tt f L).getD (tt k) 0 = f (L.getD k 0) := (putI_get h L.length (Nat.le_refl _)).1 k hk
/-- Where nothing lies, nothing need be put. -/
theorem putI_skip {tt : Nat → Nat} {f : Int → Int} {l : List Int} (h : OneToOne tt l.length) {k : Nat} (hk : k < l.length) (h0 : f (l.getD k 0) = 0) : putI tt f l (k + 1) = putI tt f l k := by
  have hz := (putI_get (f := f) h k (by omega)).2 (tt k) fun j hj e => by have := h.inj j k (by omega) hk e; omega
  have hl : tt k < (putI tt f l k).length := by rw [putI_length]; exact h.lt k hk
  show (putI tt f l k).set (tt k) (f (l.getD k 0)) = putI tt f l k
  rw [h0]
  apply List.ext_getElem (by simp)
  intro i h1 h2
  rw [List.getElem_set]
  split
  · rename_i e; subst e; rw [get_at _ 0 _ h2]; exact hz.symm
  · rfl

/-- A way to carry the cells of a region to those of another, and directions with them. -/
structure Carry (r q : Reg) (tt : Nat → Nat) (f : Int → Int) : Prop where
  one : OneToOne tt r.cells.length
  onto : ∀ k, k < r.cells.length → ∃ j, j < r.cells.length ∧ tt j = k
  valid : q.valid = true
  len : q.cells.length = r.cells.length
  cell : ∀ k, k < r.cells.length → q.f (tt k) = r.f k
  f0 : f 0 = 0
  fway : ∀ x, 1 ≤ x → x ≤ 4 → 1 ≤ f x ∧ f x ≤ 4
  fback : ∀ x, 1 ≤ x → x ≤ 4 → f (backI x) = backI (f x)
  step : ∀ (k t : Nat) (x : Int), k < r.cells.length → t < r.cells.length → 1 ≤ x → x ≤ 4 → stepI r k x = t → stepI q (tt k) (f x) = (tt t : Nat)
section
variable {r q : Reg} {tt : Nat → Nat} {f : Int → Int} {L : List Int}
theorem Carry.ok (C : Carry r q tt f) (h : laidOk r L = true) : laidOk q (carL tt f L) = true := by
  obtain ⟨hv, hlen, hall⟩ := laidOk_iff.1 h
  have hone : OneToOne tt L.length := by rw [hlen]; exact C.one
  refine laidOk_iff.2 ⟨C.valid, by rw [carL_len, hlen, C.len], fun k' hk' => ?_⟩
  rw [carL_len] at hk'
  obtain ⟨k, hk, rfl⟩ := C.onto k' (by omega)
  have hkL : k < L.length := by omega
  by_cases h0 : L.getD k 0 = 0
  · exact okAt_zero (by rw [carL_get hone hkL, h0, C.f0])
  · obtain ⟨t, F⟩ := lies_at h hkL h0
    have hs := C.step k t _ hk (by have := F.ht; omega) F.hway.1 F.hway.2 F.hst
    refine okAt_good (x := f (L.getD k 0)) (s := ((tt t : Nat) : Int)) (carL_get hone hkL) hs (by omega) (by rw [C.cell k hk]; exact F.fc) (by rw [Int.toNat_natCast, C.cell t (by have := F.ht; omega)]; exact F.ft) ?_
    rw [Int.toNat_natCast, carL_get hone F.ht, F.ot, C.fback _ F.hway.1 F.hway.2]
theorem Carry.ways (C : Carry r q tt f) (hlen : L.length = r.cells.length) (p : Int → Bool) (hp : p 0 = false) : wayN p (carL tt f L) = wayN (fun x => p (f x)) L := by
  have hone : OneToOne tt L.length := by rw [hlen]; exact C.one
  rw [wayN_num p hp, wayN_num (fun x => p (f x)) (by rw [C.f0]; exact hp), carL_len]
  congr 1
  refine Nat.le_antisymm ?_ ?_
  · have hg : ∀ k', ∃ k, k' < L.length → k < L.length ∧ tt k = k' := fun k' => by
      by_cases hk : k' < L.length
      · obtain ⟨j, h1, h2⟩ := C.onto k' (by omega)
        exact ⟨j, fun _ => ⟨by omega, h2⟩⟩
      · exact ⟨0, fun h => absurd h hk⟩
    refine num_inj (fun k' => Classical.choose (hg k')) (fun k' hk' hq => ?_) (fun k j hk hj _ _ e => ?_)
    · obtain ⟨h1, h2⟩ := Classical.choose_spec (hg k') hk'
      refine ⟨h1, ?_⟩
      rw [← h2, carL_get hone h1] at hq
      exact hq
    · rw [← (Classical.choose_spec (hg k) hk).2, ← (Classical.choose_spec (hg j) hj).2]
      exact congrArg tt e
  · refine num_inj tt (fun k hk hq => ⟨hone.lt k hk, by rw [carL_get hone hk]; exact hq⟩) (fun k j hk hj _ _ e => hone.inj k j hk hj e)
end

def turnWay (x : Int) : Int := if x = 0 then 0 else x % 4 + 1
def flipWay (x : Int) : Int := if x = 1 then 3 else if x = 3 then 1 else x
def turnN (r : Reg) (k : Nat) : Nat := (turnI r k).toNat
def mirN (r : Reg) (k : Nat) : Nat := (mirI r k).toNat
section
variable {r : Reg}
theorem turnN_at (hv : r.valid = true) {k : Nat} (hk : k < r.cells.length) : (turnN r k : Int) = (k : Int) % r.wide * r.tall + (r.tall - 1 - (k : Int) / r.wide) ∧ (turnN r k : Int) % r.tall = r.tall - 1 - (k : Int) / r.wide ∧ (turnN r k : Int) / r.tall = (k : Int) % r.wide := by
  obtain ⟨v1, v2, v3, _⟩ := Reg.valid_iff.1 hv
  obtain ⟨a1, a2, a3, a4, a5⟩ := cell_xy (r := r) (c := (k : Int)) (by omega) (by omega) (by omega)
  have hb := xy_lt (w := r.tall) (t := r.wide) (x := r.tall - 1 - (k : Int) / r.wide) (y := (k : Int) % r.wide) (by omega) (by omega) a1 a2
  have hm := xy_of (w := r.tall) (x := r.tall - 1 - (k : Int) / r.wide) (y := (k : Int) % r.wide) (by omega) (by omega)
  have e : (turnN r k : Int) = (k : Int) % r.wide * r.tall + (r.tall - 1 - (k : Int) / r.wide) := by unfold turnN turnI; omega
  rw [e]; exact ⟨rfl, hm⟩
theorem mirN_at (hv : r.valid = true) {k : Nat} (hk : k < r.cells.length) : (mirN r k : Int) = (k : Int) / r.wide * r.wide + (r.wide - 1 - (k : Int) % r.wide) ∧ (mirN r k : Int) % r.wide = r.wide - 1 - (k : Int) % r.wide ∧ (mirN r k : Int) / r.wide = (k : Int) / r.wide := by
  obtain ⟨v1, v2, v3, _⟩ := Reg.valid_iff.1 hv
  obtain ⟨a1, a2, a3, a4, a5⟩ := cell_xy (r := r) (c := (k : Int)) (by omega) (by omega) (by omega)
  have hb := xy_lt (w := r.wide) (t := r.tall) (x := r.wide - 1 - (k : Int) % r.wide) (y := (k : Int) / r.wide) (by omega) (by omega) a3 a4
  have hm := xy_of (w := r.wide) (x := r.wide - 1 - (k : Int) % r.wide) (y := (k : Int) / r.wide) (by omega) (by omega)
  have e : (mirN r k : Int) = (k : Int) / r.wide * r.wide + (r.wide - 1 - (k : Int) % r.wide) := by unfold mirN mirI; omega
  rw [e]; exact ⟨rfl, hm⟩
/-- The cell in column x and row y. -/
theorem at_xy (hv : r.valid = true) {x y : Int} (hx : 0 ≤ x ∧ x < r.wide) (hy : 0 ≤ y ∧ y < r.tall) : ∃ k : Nat, k < r.cells.length ∧ (k : Int) % r.wide = x ∧ (k : Int) / r.wide = y := by
  obtain ⟨v1, v2, v3, _⟩ := Reg.valid_iff.1 hv
  have h1 := xy_lt (w := r.wide) (t := r.tall) hx.1 hx.2 hy.1 hy.2
  have h2 := xy_of (w := r.wide) (y := y) hx.1 hx.2
  refine ⟨(y * r.wide + x).toNat, by omega, ?_, ?_⟩
  · rw [Int.toNat_of_nonneg h1.1]; exact h2.1
  · rw [Int.toNat_of_nonneg h1.1]; exact h2.2
theorem same_xy (hw : 1 ≤ r.wide) {j k : Nat} (h1 : (j : Int) % r.wide = (k : Int) % r.wide) (h2 : (j : Int) / r.wide = (k : Int) / r.wide) : j = k := by
  have a := of_xy (c := (j : Int)) (w := r.wide) (by omega)
  have b := of_xy (c := (k : Int)) (w := r.wide) (by omega)
  rw [h1, h2] at a
  omega
theorem turn_carry (hv : r.valid = true) : Carry r r.turn (turnN r) turnWay := by
  obtain ⟨v1, v2, v3, _⟩ := Reg.valid_iff.1 hv
  have hlen : r.turn.cells.length = r.cells.length := putL_length _ _ _
  refine ⟨turn_one (by omega) (by omega) v3, fun k' hk' => ?_, turn_valid hv, hlen, fun k hk => ?_, rfl, fun x h1 h4 => ?_, fun x h1 h4 => ?_, fun k t x hk ht h1 h4 hs => ?_⟩
  · obtain ⟨a1, a2, a3, a4, a5⟩ := cell_xy (r := r.turn) (c := (k' : Int)) (show 1 ≤ r.tall by omega) (by omega) (by show (k' : Int) < r.tall * r.wide; rw [Int.mul_comm]; omega)
    obtain ⟨k, hk, e1, e2⟩ := at_xy hv (x := (k' : Int) / r.tall) (y := r.tall - 1 - (k' : Int) % r.tall) ⟨a3, a4⟩ ⟨by have : (k' : Int) % r.tall < r.tall := a2; omega, by have : 0 ≤ (k' : Int) % r.tall := a1; omega⟩
    refine ⟨k, hk, ?_⟩
    obtain ⟨b1, b2, b3⟩ := turnN_at hv hk
    exact same_xy (r := r.turn) (show 1 ≤ r.tall by omega) (show (turnN r k : Int) % r.tall = (k' : Int) % r.tall by rw [b2, e2]; omega) (show (turnN r k : Int) / r.tall = (k' : Int) / r.tall by rw [b3, e1])
  · show r.turn.cells.getD (turnN r k) false = _
    exact (putL_get (turn_one (by omega) (by omega) v3) r.cells.length (Nat.le_refl _)).1 k hk
  · unfold turnWay; rw [if_neg (by omega)]; omega
  · have hc : x = 1 ∨ x = 2 ∨ x = 3 ∨ x = 4 := by omega
    rcases hc with rfl | rfl | rfl | rfl <;> rfl
  · obtain ⟨a1, a2, a3, a4, a5⟩ := cell_xy (r := r) (c := (k : Int)) (by omega) (by omega) (by omega)
    obtain ⟨b1, b2, b3⟩ := turnN_at hv hk
    obtain ⟨c1, c2, c3⟩ := turnN_at hv ht
    rw [stepI_xy (r := r) (by omega) (by omega) (by omega) h1 h4] at hs
    split at hs
    · rename_i hin
      simp only [Bool.and_eq_true, inB_iff] at hin
      have hxy := xy_of (w := r.wide) (x := (k : Int) % r.wide + dX x) (y := (k : Int) / r.wide + dY x) (by omega) (by omega)
      rw [hs] at hxy
      have hk2 : (turnN r k : Int) < r.tall * r.wide := by rw [Int.mul_comm]; have := (turn_one (r := r) (by omega) (by omega) v3).lt k hk; show ((turnI r k).toNat : Int) < _; omega
      have hw : 1 ≤ turnWay x ∧ turnWay x ≤ 4 := by unfold turnWay; rw [if_neg (by omega)]; omega
      have hd : dX (turnWay x) = - dY x ∧ dY (turnWay x) = dX x := by
        have hc : x = 1 ∨ x = 2 ∨ x = 3 ∨ x = 4 := by omega
        rcases hc with rfl | rfl | rfl | rfl <;> exact ⟨rfl, rfl⟩
      rw [stepI_xy (r := r.turn) (c := ((turnN r k : Nat) : Int)) (way := turnWay x) (show 1 ≤ r.tall by omega) (by omega) hk2 hw.1 hw.2]
      show (if inB ((turnN r k : Int) % r.tall + dX (turnWay x)) 0 (r.tall - 1) && inB ((turnN r k : Int) / r.tall + dY (turnWay x)) 0 (r.wide - 1) then ((turnN r k : Int) / r.tall + dY (turnWay x)) * r.tall + ((turnN r k : Int) % r.tall + dX (turnWay x)) else -1) = _
      rw [b2, b3, hd.1, hd.2, if_pos (by simp only [Bool.and_eq_true, inB_iff]; omega), c1, hxy.1, hxy.2]
      omega
    · omega
theorem mir_carry (hv : r.valid = true) : Carry r r.mir (mirN r) flipWay := by
  obtain ⟨v1, v2, v3, _⟩ := Reg.valid_iff.1 hv
  have hlen : r.mir.cells.length = r.cells.length := putL_length _ _ _
  refine ⟨mir_one (by omega) v3, fun k' hk' => ?_, mir_valid hv, hlen, fun k hk => ?_, rfl, fun x h1 h4 => ?_, fun x h1 h4 => ?_, fun k t x hk ht h1 h4 hs => ?_⟩
  · obtain ⟨a1, a2, a3, a4, a5⟩ := cell_xy (r := r) (c := (k' : Int)) (by omega) (by omega) (by omega)
    obtain ⟨k, hk, e1, e2⟩ := at_xy hv (x := r.wide - 1 - (k' : Int) % r.wide) (y := (k' : Int) / r.wide) ⟨by omega, by omega⟩ ⟨a3, a4⟩
    refine ⟨k, hk, ?_⟩
    obtain ⟨b1, b2, b3⟩ := mirN_at hv hk
    exact same_xy (r := r) (by omega) (by rw [b2, e1]; omega) (by rw [b3, e2])
  · show r.mir.cells.getD (mirN r k) false = _
    exact (putL_get (mir_one (by omega) v3) r.cells.length (Nat.le_refl _)).1 k hk
  · unfold flipWay; split
    · omega
    · split <;> omega
  · have hc : x = 1 ∨ x = 2 ∨ x = 3 ∨ x = 4 := by omega
    rcases hc with rfl | rfl | rfl | rfl <;> rfl
  · obtain ⟨a1, a2, a3, a4, a5⟩ := cell_xy (r := r) (c := (k : Int)) (by omega) (by omega) (by omega)
    obtain ⟨b1, b2, b3⟩ := mirN_at hv hk
    obtain ⟨c1, c2, c3⟩ := mirN_at hv ht
    rw [stepI_xy (r := r) (by omega) (by omega) (by omega) h1 h4] at hs
    split at hs
    · rename_i hin
      simp only [Bool.and_eq_true, inB_iff] at hin
      have hxy := xy_of (w := r.wide) (x := (k : Int) % r.wide + dX x) (y := (k : Int) / r.wide + dY x) (by omega) (by omega)
      rw [hs] at hxy
      have hk2 : (mirN r k : Int) < r.wide * r.tall := by have := (mir_one (r := r) (by omega) v3).lt k hk; show ((mirI r k).toNat : Int) < _; omega
      have hw : 1 ≤ flipWay x ∧ flipWay x ≤ 4 := by
        unfold flipWay; split
        · omega
        · split <;> omega
      have hd : dX (flipWay x) = - dX x ∧ dY (flipWay x) = dY x := by
        have hc : x = 1 ∨ x = 2 ∨ x = 3 ∨ x = 4 := by omega
        rcases hc with rfl | rfl | rfl | rfl <;> exact ⟨rfl, rfl⟩
      rw [stepI_xy (r := r.mir) (c := ((mirN r k : Nat) : Int)) (way := flipWay x) (show 1 ≤ r.wide by omega) (by omega) hk2 hw.1 hw.2]
      show (if inB ((mirN r k : Int) % r.wide + dX (flipWay x)) 0 (r.wide - 1) && inB ((mirN r k : Int) / r.wide + dY (flipWay x)) 0 (r.tall - 1) then ((mirN r k : Int) / r.wide + dY (flipWay x)) * r.wide + ((mirN r k : Int) % r.wide + dX (flipWay x)) else -1) = _
      rw [b2, b3, hd.1, hd.2, if_pos (by simp only [Bool.and_eq_true, inB_iff]; omega), c1, hxy.1, hxy.2]
      omega
    · omega
end

/-! ### what carrying twice, or four times, leaves -/
theorem carL_ext {L M : List Int} {tt : Nat → Nat} {f : Int → Int} (h : OneToOne tt L.length) (ho : ∀ k, k < L.length → ∃ j, j < L.length ∧ tt j = k) (hl : M.length = L.length) (hm : ∀ k, k < L.length → M.getD (tt k) 0 = f (L.getD k 0)) : carL tt f L = M := by
  refine ext_getD (by rw [carL_len, hl]) fun i hi => ?_
  rw [carL_len] at hi
  obtain ⟨j, hj, rfl⟩ := ho i hi
  rw [carL_get h hj, hm j hj]
theorem mirN_two {r : Reg} (hv : r.valid = true) {k : Nat} (hk : k < r.cells.length) : mirN r.mir (mirN r k) = k := by
  obtain ⟨v1, v2, v3, _⟩ := Reg.valid_iff.1 hv
  have hlen : r.mir.cells.length = r.cells.length := putL_length _ _ _
  obtain ⟨b1, b2, b3⟩ := mirN_at hv hk
  have hk2 : mirN r k < r.mir.cells.length := by rw [hlen]; exact (mir_one (r := r) (by omega) v3).lt k hk
  obtain ⟨c1, c2, c3⟩ := mirN_at (mir_valid hv) hk2
  have c2' : (mirN r.mir (mirN r k) : Int) % r.wide = r.wide - 1 - (mirN r k : Int) % r.wide := c2
  have c3' : (mirN r.mir (mirN r k) : Int) / r.wide = (mirN r k : Int) / r.wide := c3
  exact same_xy (r := r) (by omega) (by rw [c2', b2]; omega) (by rw [c3', b3])
theorem flip_two {x : Int} (h : 0 ≤ x ∧ x ≤ 4) : flipWay (flipWay x) = x := by
  have hc : x = 0 ∨ x = 1 ∨ x = 2 ∨ x = 3 ∨ x = 4 := by omega
  rcases hc with rfl | rfl | rfl | rfl | rfl <;> rfl
theorem turn_four_way {x : Int} (h : 0 ≤ x ∧ x ≤ 4) : turnWay (turnWay (turnWay (turnWay x))) = x := by
  have hc : x = 0 ∨ x = 1 ∨ x = 2 ∨ x = 3 ∨ x = 4 := by omega
  rcases hc with rfl | rfl | rfl | rfl | rfl <;> rfl
def mirL (r : Reg) (L : List Int) : List Int := carL (mirN r) flipWay L
def turnL (r : Reg) (L : List Int) : List Int := carL (turnN r) turnWay L
theorem mirL_ok {r : Reg} {L : List Int} (h : laidOk r L = true) : laidOk r.mir (mirL r L) = true := (mir_carry (laidOk_iff.1 h).1).ok h
theorem turnL_ok {r : Reg} {L : List Int} (h : laidOk r L = true) : laidOk r.turn (turnL r L) = true := (turn_carry (laidOk_iff.1 h).1).ok h
theorem mirL_two {r : Reg} {L : List Int} (h : laidOk r L = true) : mirL r.mir (mirL r L) = L := by
  obtain ⟨hv, hlen, _⟩ := laidOk_iff.1 h
  obtain ⟨hv2, hlen2, _⟩ := laidOk_iff.1 (mirL_ok h)
  have C := mir_carry hv
  have C2 := mir_carry hv2
  have l1 : (mirL r L).length = L.length := carL_len
  refine carL_ext (by rw [hlen2]; exact C2.one) (fun k hk => by rw [hlen2] at hk ⊢; exact C2.onto k hk) l1.symm fun k' hk' => ?_
  obtain ⟨k, hk, rfl⟩ := C.onto k' (by omega)
  rw [mirN_two hv hk, show (mirL r L).getD (mirN r k) 0 = flipWay (L.getD k 0) from carL_get (by rw [hlen]; exact C.one) (by omega), flip_two (laidOk_bd h k)]
theorem turnN_four {r : Reg} (hv : r.valid = true) {k : Nat} (hk : k < r.cells.length) : turnN r.turn.turn.turn (turnN r.turn.turn (turnN r.turn (turnN r k))) = k := by
  obtain ⟨v1, v2, v3, _⟩ := Reg.valid_iff.1 hv
  have hlen : ∀ q : Reg, q.turn.cells.length = q.cells.length := fun q => putL_length _ _ _
  have w1 := turn_valid hv
  have w2 := turn_valid w1
  have w3 := turn_valid w2
  have k1 : turnN r k < r.turn.cells.length := by rw [hlen]; exact (turn_carry hv).one.lt k hk
  have k2 : turnN r.turn (turnN r k) < r.turn.turn.cells.length := by rw [hlen]; exact (turn_carry w1).one.lt _ k1
  have k3 : turnN r.turn.turn (turnN r.turn (turnN r k)) < r.turn.turn.turn.cells.length := by rw [hlen]; exact (turn_carry w2).one.lt _ k2
  obtain ⟨_, a2, a3⟩ := turnN_at hv hk
  obtain ⟨_, b2, b3⟩ := turnN_at w1 k1
  obtain ⟨_, c2, c3⟩ := turnN_at w2 k2
  obtain ⟨_, d2, d3⟩ := turnN_at w3 k3
  have b2' : (turnN r.turn (turnN r k) : Int) % r.wide = r.wide - 1 - (turnN r k : Int) / r.tall := b2
  have b3' : (turnN r.turn (turnN r k) : Int) / r.wide = (turnN r k : Int) % r.tall := b3
  have c2' : (turnN r.turn.turn (turnN r.turn (turnN r k)) : Int) % r.tall = r.tall - 1 - (turnN r.turn (turnN r k) : Int) / r.wide := c2
  have c3' : (turnN r.turn.turn (turnN r.turn (turnN r k)) : Int) / r.tall = (turnN r.turn (turnN r k) : Int) % r.wide := c3
  have d2' : (turnN r.turn.turn.turn (turnN r.turn.turn (turnN r.turn (turnN r k))) : Int) % r.wide = r.wide - 1 - (turnN r.turn.turn (turnN r.turn (turnN r k)) : Int) / r.tall := d2
  have d3' : (turnN r.turn.turn.turn (turnN r.turn.turn (turnN r.turn (turnN r k))) : Int) / r.wide = (turnN r.turn.turn (turnN r.turn (turnN r k)) : Int) % r.tall := d3
  exact same_xy (r := r) (by omega) (by rw [d2', c3', b2', a3]; omega) (by rw [d3', c2', b3', a2]; omega)
theorem turnL_four {r : Reg} {L : List Int} (h : laidOk r L = true) : turnL r.turn.turn.turn (turnL r.turn.turn (turnL r.turn (turnL r L))) = L := by
  have h1 := turnL_ok h
  have h2 := turnL_ok h1
  have h3 := turnL_ok h2
  have C := turn_carry (laidOk_iff.1 h).1
  have C1 := turn_carry (laidOk_iff.1 h1).1
  have C2 := turn_carry (laidOk_iff.1 h2).1
  have C3 := turn_carry (laidOk_iff.1 h3).1
  have n0 := (laidOk_iff.1 h).2.1
  have n1 := (laidOk_iff.1 h1).2.1
  have n2 := (laidOk_iff.1 h2).2.1
  have n3 := (laidOk_iff.1 h3).2.1
  have l1 : (turnL r L).length = L.length := carL_len
  have l2 : (turnL r.turn (turnL r L)).length = (turnL r L).length := carL_len
  have l3 : (turnL r.turn.turn (turnL r.turn (turnL r L))).length = (turnL r.turn (turnL r L)).length := carL_len
  refine carL_ext (by rw [n3]; exact C3.one) (fun k hk => by rw [n3] at hk ⊢; exact C3.onto k hk) (by omega) fun k3 hk3 => ?_
  obtain ⟨k2, hk2, rfl⟩ := C2.onto k3 (by omega)
  obtain ⟨k1, hk1, rfl⟩ := C1.onto k2 (by omega)
  obtain ⟨k, hk, rfl⟩ := C.onto k1 (by omega)
  rw [turnN_four (laidOk_iff.1 h).1 hk,
    show (turnL r.turn.turn (turnL r.turn (turnL r L))).getD (turnN r.turn.turn (turnN r.turn (turnN r k))) 0 = turnWay ((turnL r.turn (turnL r L)).getD (turnN r.turn (turnN r k)) 0) from carL_get (by rw [n2]; exact C2.one) (by omega),
    show (turnL r.turn (turnL r L)).getD (turnN r.turn (turnN r k)) 0 = turnWay ((turnL r L).getD (turnN r k) 0) from carL_get (by rw [n1]; exact C1.one) (by omega),
    show (turnL r L).getD (turnN r k) 0 = turnWay (L.getD k 0) from carL_get (by rw [n0]; exact C.one) (by omega), turn_four_way (laidOk_bd h k)]
theorem mirL_flat {r : Reg} {L : List Int} (h : laidOk r L = true) : flatMany r.mir (mirL r L) = flatMany r L := by
  have hh := high_low h
  unfold flatMany
  rw [if_pos h, if_pos (mirL_ok h)]
  have := (mir_carry (laidOk_iff.1 h).1).ways (laidOk_iff.1 h).2.1 isEast rfl
  refine this.trans ?_
  have e : ∀ x : Int, isEast (flipWay x) = decide (x = 3) := fun x => by
    unfold isEast flipWay
    by_cases h1 : x = 1
    · subst h1; rfl
    · by_cases h3 : x = 3
      · subst h3; rfl
      · rw [if_neg h1, if_neg h3, decide_eq_false h1, decide_eq_false h3]
  rw [show (fun x => isEast (flipWay x)) = fun x => decide (x = 3) from funext e]
  rw [wayN_num _ rfl, wayN_num _ rfl]
  congr 1
  refine Nat.le_antisymm ?_ ?_
  · refine num_inj (other r L) (fun k hk hq => ?_) (fun k j hk hj hq hq' e => ?_)
    · have hq' : L.getD k 0 = 3 := by simpa using hq
      obtain ⟨a, b, _⟩ := other_at h hk (by rw [hq']; decide)
      exact ⟨a, by rw [b, hq']; rfl⟩
    · rw [← (other_at h hk (by rw [show L.getD k 0 = 3 by simpa using hq]; decide)).2.2, ← (other_at h hj (by rw [show L.getD j 0 = 3 by simpa using hq']; decide)).2.2, e]
  · refine num_inj (other r L) (fun k hk hq => ?_) (fun k j hk hj hq hq' e => ?_)
    · have hq' : L.getD k 0 = 1 := by simpa [isEast] using hq
      obtain ⟨a, b, _⟩ := other_at h hk (by rw [hq']; decide)
      exact ⟨a, by rw [b, hq']; rfl⟩
    · rw [← (other_at h hk (by rw [show L.getD k 0 = 1 by simpa [isEast] using hq]; decide)).2.2, ← (other_at h hj (by rw [show L.getD j 0 = 1 by simpa [isEast] using hq']; decide)).2.2, e]
def turnLR (r : Reg) (L : List Int) : List Int := if laidOk r L then turnL r L else []
def mirLR (r : Reg) (L : List Int) : List Int := if laidOk r L then mirL r L else []
end Domi
