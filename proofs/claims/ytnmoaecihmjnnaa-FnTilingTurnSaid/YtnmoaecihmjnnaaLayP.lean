/- Laying and lifting a domino: what it leaves. Plain. -/
import Derived.Test.YtnmoaecihmjnnaaLaidP
import Derived.Test.YtnmoaecihmjnnaaPartP
namespace Domi
open Go Go.RowKit

theorem backI_way {x : Int} (h : 1 ≤ x ∧ x ≤ 4) : (1 ≤ backI x ∧ backI x ≤ 4) ∧ backI (backI x) = x := by unfold backI; omega
theorem stepI_ne {r : Reg} {c way : Int} (hw : 1 ≤ r.wide) (h : 0 ≤ stepI r c way) : stepI r c way ≠ c := by
  have := stepI_way h
  have hc : way = 1 ∨ way = 2 ∨ way = 3 ∨ way = 4 := by omega
  rcases hc with rfl | rfl | rfl | rfl <;> (unfold stepI at h ⊢; simp at h ⊢; split at h <;> simp_all <;> omega)
theorem stepI_home {r : Reg} (hv : r.valid = true) {k : Nat} {x : Int} (hk : k < r.cells.length) (h : 0 ≤ stepI r k x) : stepI r (stepI r k x) (backI x) = k := by
  obtain ⟨v1, v2, v3, _⟩ := Reg.valid_iff.1 hv
  have hw := stepI_way h
  exact stepI_back (r := r) (c := (k : Int)) (way := x) (by omega) (by omega) (by omega) hw.1 hw.2 h
theorem getD_two {L : List Int} {c t : Nat} {x y : Int} (hc : c < L.length) (ht : t < L.length) (k : Nat) : ((L.set c x).set t y).getD k 0 = if t = k then y else if c = k then x else L.getD k 0 := by
  rw [getD_put _ t k y (by simpa using ht), getD_put _ c k x hc]

section
variable {r : Reg} {L : List Int}
/-- The two cells of a domino that may be laid. -/
structure FreeAt (r : Reg) (L : List Int) (c t : Nat) (way : Int) : Prop where
  hc : c < L.length
  ht : t < L.length
  hne : c ≠ t
  hway : 1 ≤ way ∧ way ≤ 4
  hst : stepI r c way = t
  hback : stepI r t (backI way) = c
  fc : r.f c = true
  ft : r.f t = true
  oc : L.getD c 0 = 0
  ot : L.getD t 0 = 0
theorem free_at (h : laidOk r L = true) {c : Nat} {way : Int} (hf : free r L c way = true) : ∃ t, FreeAt r L c t way := by
  obtain ⟨hv, hlen, hall⟩ := laidOk_iff.1 h
  obtain ⟨h1, h2, h3, h4, h5, h6⟩ := free_iff.1 hf
  obtain ⟨v1, v2, v3, _⟩ := Reg.valid_iff.1 hv
  obtain ⟨t, ht⟩ := Int.eq_ofNat_of_zero_le h2
  rw [ht, Int.toNat_natCast] at h4 h6
  rw [Int.toNat_natCast] at h3 h5
  have hbk := stepI_home hv (k := c) (x := way) (by omega) h2
  rw [ht] at hbk
  exact ⟨t, by omega, by have := f_lt h4; omega, fun e => stepI_ne (r := r) (by omega) h2 (by rw [ht, e]), stepI_way h2, ht, hbk, h3, h4, h5, h6⟩
theorem layL_is {c t : Nat} {way : Int} (h : FreeAt r L c t way) : layL r L c way = (L.set c way).set t (backI way) := by
  unfold layL; rw [h.hst, Int.toNat_natCast, Int.toNat_natCast]
theorem layL_get {c t : Nat} {way : Int} (h : FreeAt r L c t way) (k : Nat) : (layL r L c way).getD k 0 = if t = k then backI way else if c = k then way else L.getD k 0 := by
  rw [layL_is h, getD_two h.hc h.ht]
theorem layL_len {c way : Int} : (layL r L c way).length = L.length := by simp [layL]
/-- The list with a further domino lays dominoes. -/
theorem lay_ok (h : laidOk r L = true) {c : Nat} {way : Int} (hf : free r L c way = true) : laidOk r (layL r L c way) = true := by
  obtain ⟨hv, hlen, hall⟩ := laidOk_iff.1 h
  obtain ⟨t, F⟩ := free_at h hf
  obtain ⟨b1, b2⟩ := backI_way F.hway
  refine laidOk_iff.2 ⟨hv, by rw [layL_len]; exact hlen, fun k hk => ?_⟩
  rw [layL_len] at hk
  by_cases e1 : t = k
  · subst e1
    refine okAt_good (x := backI way) (s := (c : Int)) (by rw [layL_get F, if_pos rfl]) F.hback (by omega) F.ft (by rw [Int.toNat_natCast]; exact F.fc) ?_
    rw [Int.toNat_natCast, layL_get F, if_neg (fun e => F.hne e.symm), if_pos rfl, b2]
  · by_cases e2 : c = k
    · subst e2
      refine okAt_good (x := way) (s := (t : Int)) (by rw [layL_get F, if_neg e1, if_pos rfl]) F.hst (by omega) F.fc (by rw [Int.toNat_natCast]; exact F.ft) ?_
      rw [Int.toNat_natCast, layL_get F, if_pos rfl]
    · have hx : (layL r L c way).getD k 0 = L.getD k 0 := by rw [layL_get F, if_neg e1, if_neg e2]
      by_cases h0 : L.getD k 0 = 0
      · exact okAt_zero (hx.trans h0)
      · have A := laidOk_at h hk h0
        obtain ⟨m, hm⟩ := Int.eq_ofNat_of_zero_le A.dest.1
        have hb := A.back
        have hth := A.there
        rw [hm, Int.toNat_natCast] at hb hth
        have b3 := (backI_way A.way).1
        have n1 : t ≠ m := fun e => by subst e; rw [F.ot] at hb; omega
        have n2 : c ≠ m := fun e => by subst e; rw [F.oc] at hb; omega
        refine okAt_good (x := L.getD k 0) (s := (m : Int)) hx hm (by omega) A.here (by rw [Int.toNat_natCast]; exact hth) ?_
        rw [Int.toNat_natCast, layL_get F, if_neg n1, if_neg n2]; exact hb

/-- The two cells of a domino that lies there. -/
structure LiesAt (r : Reg) (L : List Int) (c t : Nat) (way : Int) : Prop where
  hc : c < L.length
  ht : t < L.length
  hne : c ≠ t
  hway : 1 ≤ way ∧ way ≤ 4
  hst : stepI r c way = t
  hback : stepI r t (backI way) = c
  fc : r.f c = true
  ft : r.f t = true
  oc : L.getD c 0 = way
  ot : L.getD t 0 = backI way
theorem lies_at (h : laidOk r L = true) {c : Nat} (hc : c < L.length) (h0 : L.getD c 0 ≠ 0) : ∃ t, LiesAt r L c t (L.getD c 0) := by
  obtain ⟨hv, hlen, hall⟩ := laidOk_iff.1 h
  obtain ⟨v1, v2, v3, _⟩ := Reg.valid_iff.1 hv
  have A := laidOk_at h hc h0
  obtain ⟨t, ht⟩ := Int.eq_ofNat_of_zero_le A.dest.1
  have hb := A.back
  have hth := A.there
  have hd := A.dest
  rw [ht] at hb hth hd
  rw [Int.toNat_natCast] at hb hth
  have hbk := stepI_home hv (k := c) (x := L.getD c 0) (by omega) A.dest.1
  rw [ht] at hbk
  exact ⟨t, hc, by omega, fun e => stepI_ne (r := r) (by omega) A.dest.1 (by rw [ht, e]), A.way, ht, hbk, A.here, hth, rfl, hb⟩
theorem liftL_is {c t : Nat} {way : Int} (h : LiesAt r L c t way) : liftL r L c = (L.set t 0).set c 0 := by
  unfold liftL; rw [Int.toNat_natCast, h.oc, h.hst, Int.toNat_natCast]
theorem liftL_get {c t : Nat} {way : Int} (h : LiesAt r L c t way) (k : Nat) : (liftL r L c).getD k 0 = if c = k then 0 else if t = k then 0 else L.getD k 0 := by
  rw [liftL_is h, getD_two h.ht h.hc]
theorem liftL_len {c : Int} : (liftL r L c).length = L.length := by simp [liftL]
theorem lift_ok (h : laidOk r L = true) {c : Nat} (hc : c < L.length) (h0 : L.getD c 0 ≠ 0) : laidOk r (liftL r L c) = true := by
  obtain ⟨hv, hlen, hall⟩ := laidOk_iff.1 h
  obtain ⟨t, F⟩ := lies_at h hc h0
  refine laidOk_iff.2 ⟨hv, by rw [liftL_len]; exact hlen, fun k hk => ?_⟩
  rw [liftL_len] at hk
  by_cases e1 : c = k
  · exact okAt_zero (by rw [liftL_get F, if_pos e1])
  · by_cases e2 : t = k
    · exact okAt_zero (by rw [liftL_get F, if_neg e1, if_pos e2])
    · have hx : (liftL r L c).getD k 0 = L.getD k 0 := by rw [liftL_get F, if_neg e1, if_neg e2]
      by_cases h00 : L.getD k 0 = 0
      · exact okAt_zero (hx.trans h00)
      · obtain ⟨m, G⟩ := lies_at h hk h00
        have n1 : c ≠ m := fun e => by
          subst e
          have h1 := G.hback
          rw [← G.ot, F.hst] at h1
          omega
        have n2 : t ≠ m := fun e => by
          subst e
          have h1 := G.hback
          have h2 := F.hback
          rw [← G.ot] at h1
          rw [← F.ot] at h2
          omega
        refine okAt_good (x := L.getD k 0) (s := (m : Int)) hx G.hst (by omega) G.fc (by rw [Int.toNat_natCast]; exact G.ft) ?_
        rw [Int.toNat_natCast, liftL_get F, if_neg n1, if_neg n2]; exact G.ot

theorem ext_getD {L M : List Int} (h : L.length = M.length) (g : ∀ k, k < L.length → L.getD k 0 = M.getD k 0) : L = M := by
  apply List.ext_getElem h
  intro k h1 h2
  rw [get_at L 0 k h1, get_at M 0 k h2]; exact g k h1
/-- What was lifted can be laid again. -/
theorem lift_lay (h : laidOk r L = true) {c : Nat} (hc : c < L.length) (h0 : L.getD c 0 ≠ 0) : free r (liftL r L c) c (L.getD c 0) = true ∧ layL r (liftL r L c) c (L.getD c 0) = L := by
  obtain ⟨hv, hlen, hall⟩ := laidOk_iff.1 h
  obtain ⟨t, F⟩ := lies_at h hc h0
  have hf : free r (liftL r L c) c (L.getD c 0) = true := by
    refine free_iff.2 ⟨by omega, by rw [F.hst]; omega, by rw [Int.toNat_natCast]; exact F.fc, by rw [F.hst, Int.toNat_natCast]; exact F.ft, by rw [Int.toNat_natCast, liftL_get F, if_pos rfl], ?_⟩
    rw [F.hst, Int.toNat_natCast, liftL_get F]
    split
    · rfl
    · rw [if_pos rfl]
  refine ⟨hf, ?_⟩
  obtain ⟨t', G⟩ := free_at (lift_ok h hc h0) hf
  have e : t' = t := by have h1 := G.hst; rw [F.hst] at h1; omega
  subst e
  refine ext_getD (by rw [layL_len, liftL_len]) fun k hk => ?_
  rw [layL_get G, liftL_get F]
  by_cases e1 : t' = k
  · subst e1; rw [if_pos rfl]; exact F.ot.symm
  · rw [if_neg e1]
    by_cases e2 : c = k
    · subst e2; rw [if_pos rfl]
    · rw [if_neg e2, if_neg e2, if_neg e1]
/-- What was laid can be lifted again. -/
theorem lay_lift (h : laidOk r L = true) {c : Nat} {way : Int} (hf : free r L c way = true) : liftOk (layL r L c way) c = true ∧ liftL r (layL r L c way) c = L := by
  obtain ⟨t, F⟩ := free_at h hf
  have hg : (layL r L c way).getD c 0 = way := by rw [layL_get F, if_neg (fun e => F.hne e.symm), if_pos rfl]
  have hw := F.hway
  have h0 : (layL r L c way).getD c 0 ≠ 0 := by rw [hg]; omega
  have hc : c < (layL r L c way).length := by rw [layL_len]; exact F.hc
  refine ⟨liftOk_iff.2 ⟨by omega, by rw [Int.toNat_natCast]; exact h0⟩, ?_⟩
  obtain ⟨t', G⟩ := lies_at (lay_ok h hf) hc h0
  have e : t' = t := by have h1 := G.hst; rw [hg, F.hst] at h1; omega
  subst e
  refine ext_getD (by rw [liftL_len, layL_len]) fun k hk => ?_
  rw [liftL_get G, layL_get F]
  by_cases e2 : c = k
  · subst e2; rw [if_pos rfl]; exact F.oc.symm
  · rw [if_neg e2]
    by_cases e1 : t' = k
    · subst e1; rw [if_pos rfl]; exact F.ot.symm
    · rw [if_neg e1, if_neg e1, if_neg e2]
/-- How many entries have a property, with one entry set. -/
theorem wayN_set (p : Int → Bool) (L : List Int) (i : Nat) (x : Int) (hi : i < L.length) : wayN p (L.set i x) + (if p (L.getD i 0) then 1 else 0) = wayN p L + (if p x then 1 else 0) := by
  unfold wayN
  induction L generalizing i with
  | nil => simp at hi
  | cons a l ih =>
    cases i with
    | zero =>
      simp only [List.set_cons_zero, List.filter_cons, List.getD_cons_zero]
      cases p x <;> cases p a <;> simp <;> omega
    | succ i =>
      have := ih i (by simpa using hi)
      simp only [List.set_cons_succ, List.filter_cons, List.getD_cons_succ]
      cases p a <;> simp at this ⊢ <;> omega
/-- One domino more. -/
theorem lay_many (h : laidOk r L = true) {c : Nat} {way : Int} (hf : free r L c way = true) : laidMany r (layL r L c way) = laidMany r L + 1 := by
  obtain ⟨t, F⟩ := free_at h hf
  unfold laidMany
  rw [if_pos h, if_pos (lay_ok h hf), layL_is F]
  have h1 := wayN_set isLow (L.set c way) t (backI way) (by simpa using F.ht)
  have h2 := wayN_set isLow L c way F.hc
  rw [getD_put L c t way F.hc, if_neg F.hne, F.ot] at h1
  rw [F.oc] at h2
  have hw := F.hway
  have hb : (if isLow (backI way) = true then (1 : Int) else 0) + (if isLow way = true then 1 else 0) = 1 := by
    have hc : way = 1 ∨ way = 2 ∨ way = 3 ∨ way = 4 := by omega
    rcases hc with rfl | rfl | rfl | rfl <;> decide
  have hz : isLow 0 = false := rfl
  simp only [hz, Bool.false_eq_true, if_false] at h1 h2
  omega
end
end Domi
