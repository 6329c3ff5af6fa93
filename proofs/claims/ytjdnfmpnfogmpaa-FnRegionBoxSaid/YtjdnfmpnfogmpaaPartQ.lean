/- Parts: the reference's relaxation, in pairs; and how many parts there are. Plain. -/
import Derived.Test.YtjdnfmpnfogmpaaPartP
namespace Domi
open Go Go.RowKit

section
variable {r : Reg} {P L : List Int} {D : Nat → Nat → Prop}
/-- Two neighbours get the lesser number of both. -/
theorem PJ.pair (h : PJ r P L D) (hv : r.valid = true) {c j : Nat} (e : E4 r c j) (hcj : c ≠ j) {x : Int} (hx : x = L.getD c 0 ∧ L.getD c 0 ≤ L.getD j 0 ∨ x = L.getD j 0 ∧ L.getD j 0 ≤ L.getD c 0) :
    PJ r P ((L.set c x).set j x) (fun k i => D k i ∨ (k = c ∧ i = j) ∨ (k = j ∧ i = c)) := by
  have hvj : val r L j = (L.getD j 0).toNat := val_yes e.2.1
  have hvc : val r L c = (L.getD c 0).toNat := val_yes e.1
  have hmj := h.mono j
  have hmc := h.mono c
  obtain ⟨c1, c2, c3⟩ := h.inv.yes c e.1
  obtain ⟨j1, j2, j3⟩ := h.inv.yes j e.2.1
  have e' : E4 r j c := e.symm hv
  have key : 0 ≤ x ∧ x ≤ L.getD c 0 ∧ Conn (E4 r) c x.toNat ∧ x ≤ L.getD j 0 ∧ Conn (E4 r) j x.toNat := by
    rcases hx with ⟨rfl, h1⟩ | ⟨rfl, h1⟩
    · exact ⟨c1, Int.le_refl _, c3, h1, conn_of h.inv e'⟩
    · exact ⟨j1, h1, conn_of h.inv e, Int.le_refl _, j3⟩
  have h1 := h.put e.1 key.1 key.2.1 key.2.2.1
  have hg : (L.set c x).getD j 0 = L.getD j 0 := by
    rw [getD_put _ _ _ _ (by rw [h.inv.len]; exact f_lt e.1), if_neg hcj]
  have h2 := h1.put e.2.1 key.1 (by rw [hg]; exact key.2.2.2.1) key.2.2.2.2
  refine h2.weak fun k i e3 hd => ?_
  rcases hd with hd | ⟨rfl, rfl⟩ | ⟨rfl, rfl⟩
  · exact .inl (.inl hd)
  · exact .inl (.inr ⟨rfl, by omega⟩)
  · exact .inr ⟨rfl, by omega⟩
end

/-- Which neighbours there are. -/
theorem E4_cases {r : Reg} (hv : r.valid = true) {c j : Nat} (e : E4 r c j) :
    (j = c + 1) ∨ ((j : Int) = c + r.wide) ∨ (j + 1 = c ∧ 0 < (c : Int) % r.wide) ∨ ((j : Int) + r.wide = c) := by
  obtain ⟨_, _, way, w1, w4, hs⟩ := e
  have hw : way = 1 ∨ way = 2 ∨ way = 3 ∨ way = 4 := by omega
  unfold stepI at hs
  rcases hw with rfl | rfl | rfl | rfl
  · simp at hs; split at hs <;> omega
  · simp at hs; split at hs <;> omega
  · simp at hs; split at hs <;> omega
  · simp at hs; split at hs <;> omega
theorem E4_left {r : Reg} {c j : Nat} (hj : j + 1 = c) (hm : 0 < (c : Int) % r.wide) (h1 : r.f c = true) (h2 : r.f j = true) : E4 r c j :=
  ⟨h1, h2, 3, by omega, by omega, by simp [stepI, hm]; omega⟩
theorem E4_south {r : Reg} (hv : r.valid = true) {c j : Nat} (hj : (j : Int) + r.wide = c) (h1 : r.f c = true) (h2 : r.f j = true) : E4 r c j := by
  obtain ⟨v1, v2, v3, _⟩ := Reg.valid_iff.1 hv
  have : 0 < (c : Int) / r.wide := by
    have h3 : r.wide * 1 ≤ (c : Int) := by omega
    have := Int.le_ediv_of_mul_le (c := r.wide) (a := 1) (b := (c : Int)) (by omega) (by omega)
    omega
  exact ⟨h1, h2, 4, by omega, by omega, by simp [stepI, this]; omega⟩

/-- Done: all edges before c; then the one to the west, too. -/
def DB (c : Nat) (k j : Nat) : Prop := k < c ∧ j < c
def DL (r : Reg) (c : Nat) (k j : Nat) : Prop := (k < c ∧ j < c) ∨ (0 < (c : Int) % r.wide ∧ ((k = c ∧ j + 1 = c) ∨ (k + 1 = c ∧ j = c)))
section
variable {r : Reg} {P L : List Int} {c : Nat}
theorem PJ.west (h : PJ r P L (DB c)) (hv : r.valid = true) {j : Nat} (hj : j + 1 = c) (hm : 0 < (c : Int) % r.wide) (h1 : r.f c = true) (h2 : r.f j = true) {x : Int} (hx : x = L.getD c 0 ∧ L.getD c 0 ≤ L.getD j 0 ∨ x = L.getD j 0 ∧ L.getD j 0 ≤ L.getD c 0) :
    PJ r P ((L.set c x).set j x) (DL r c) :=
  (h.pair hv (E4_left hj hm h1 h2) (by omega) hx).weak fun k i _ hd => by
    rcases hd with hd | ⟨_, ⟨rfl, hi⟩ | ⟨hi, rfl⟩⟩
    · exact .inl hd
    · exact .inr (.inl ⟨rfl, by omega⟩)
    · exact .inr (.inr ⟨by omega, rfl⟩)
theorem PJ.noWest (h : PJ r P L (DB c)) (hv : r.valid = true) (hn : ∀ j, j + 1 = c → 0 < (c : Int) % r.wide → r.f c = true → r.f j = true → False) : PJ r P L (DL r c) :=
  h.weak fun k i e hd => by
    rcases hd with hd | ⟨hm, ⟨rfl, hi⟩ | ⟨hi, rfl⟩⟩
    · exact hd
    · exact (hn i hi hm e.1 e.2.1).elim
    · exact (hn k hi hm e.2.1 e.1).elim
theorem dl_all (hv : r.valid = true) {k i : Nat} (e : E4 r k i) (hd : k < c + 1 ∧ i < c + 1) : DL r c k i ∨ (k = c ∧ (i : Int) + r.wide = c) ∨ (i = c ∧ (k : Int) + r.wide = c) := by
  obtain ⟨v1, _⟩ := Reg.valid_iff.1 hv
  by_cases hk : k < c
  · by_cases hi : i < c
    · exact .inl (.inl ⟨hk, hi⟩)
    · have : i = c := by omega
      subst this
      rcases E4_cases hv (e.symm hv) with h1 | h1 | h1 | h1
      · omega
      · omega
      · exact .inl (.inr ⟨h1.2, .inr ⟨h1.1, rfl⟩⟩)
      · exact .inr (.inr ⟨rfl, h1⟩)
  · have : k = c := by omega
    subst this
    rcases E4_cases hv e with h1 | h1 | h1 | h1
    · omega
    · omega
    · exact .inl (.inr ⟨h1.2, .inl ⟨rfl, h1.1⟩⟩)
    · exact .inr (.inl ⟨rfl, h1⟩)
theorem PJ.south (h : PJ r P L (DL r c)) (hv : r.valid = true) {j : Nat} (hj : (j : Int) + r.wide = c) (h1 : r.f c = true) (h2 : r.f j = true) {x : Int} (hx : x = L.getD c 0 ∧ L.getD c 0 ≤ L.getD j 0 ∨ x = L.getD j 0 ∧ L.getD j 0 ≤ L.getD c 0) :
    PJ r P ((L.set c x).set j x) (DB (c + 1)) := by
  obtain ⟨v1, _⟩ := Reg.valid_iff.1 hv
  exact (h.pair hv (E4_south hv hj h1 h2) (by omega) hx).weak fun k i e hd => by
    rcases dl_all hv e hd with hd | ⟨rfl, hi⟩ | ⟨rfl, hi⟩
    · exact .inl hd
    · exact .inr (.inl ⟨rfl, by omega⟩)
    · exact .inr (.inr ⟨by omega, rfl⟩)
theorem PJ.noSouth (h : PJ r P L (DL r c)) (hv : r.valid = true) (hn : ∀ j : Nat, (j : Int) + r.wide = c → r.f c = true → r.f j = true → False) : PJ r P L (DB (c + 1)) :=
  h.weak fun k i e hd => by
    rcases dl_all hv e hd with hd | ⟨rfl, hi⟩ | ⟨rfl, hi⟩
    · exact hd
    · exact (hn i hi e.1 e.2.1).elim
    · exact (hn k hi e.2.1 e.1).elim
end

/-! ### how many parts -/
noncomputable def partCount (r : Reg) : Nat := num r.cells.length (fun k => r.f k = true ∧ least (E4 r) k = k)
noncomputable def Reg.pmany (r : Reg) : Int := if r.valid then (partCount r : Int) else -1
theorem rep_iff {r : Reg} {k : Nat} : partN r k = (k : Int) ↔ r.f k = true ∧ least (E4 r) k = k := by
  cases hf : r.f k
  · rw [partN_no hf]; constructor
    · intro h; omega
    · intro h; cases h.1
  · rw [partN_yes hf]; constructor
    · intro h; exact ⟨rfl, by omega⟩
    · intro h; rw [h.2]
noncomputable def pmTo (r : Reg) (n : Nat) : Int := (num n (fun k => r.f k = true ∧ least (E4 r) k = k) : Int)
theorem pmTo_succ (r : Reg) (n : Nat) : pmTo r (n + 1) = pmTo r n + (if partN r n = (n : Int) then 1 else 0) := by
  unfold pmTo
  rw [num_succ]
  by_cases h : r.f n = true ∧ least (E4 r) n = n
  · rw [if_pos h, if_pos (rep_iff.2 h)]; simp
  · rw [if_neg h, if_neg (fun e => h (rep_iff.1 e))]; simp
theorem pmTo_bd (r : Reg) (n : Nat) : 0 ≤ pmTo r n ∧ pmTo r n ≤ n := by
  have := num_le n (fun k => r.f k = true ∧ least (E4 r) k = k)
  unfold pmTo; omega

/-- The law of PartsOf. -/
theorem partN_bd (r : Reg) (k : Nat) : -1 ≤ partN r k ∧ partN r k ≤ k := by
  cases hf : r.f k
  · rw [partN_no hf]; omega
  · rw [partN_yes hf]; have := least_self (E := E4 r) k; omega
theorem partN_sign (r : Reg) (k : Nat) : decide (0 ≤ partN r k) = r.f k := by
  cases hf : r.f k
  · rw [partN_no hf]; rfl
  · rw [partN_yes hf]; simp
theorem partN_part {r : Reg} (hv : r.valid = true) {k : Nat} (h : r.f k = true) : ∃ m : Nat, partN r k = (m : Int) ∧ m < r.cells.length ∧ partN r m = (m : Int) := by
  refine ⟨least (E4 r) k, partN_yes h, ?_, ?_⟩
  · have := least_self (E := E4 r) k; have := f_lt h; omega
  · refine rep_iff.2 ⟨?_, least_idem (fun _ _ e => e.symm hv) k⟩
    refine (least_conn (E4 r) k).stays (Q := fun j => r.f j = true) (fun a b e _ => e.2.1) h
theorem partN_near {r : Reg} (hv : r.valid = true) {k j : Nat} (e : E4 r k j) : partN r k = partN r j := by
  rw [partN_yes e.1, partN_yes e.2.1, least_eq (fun _ _ e => e.symm hv) (Conn.one e)]

end Domi
