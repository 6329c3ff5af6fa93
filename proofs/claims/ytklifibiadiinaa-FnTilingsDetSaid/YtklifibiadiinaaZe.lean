/- Plain words and laws on memory, regions and dominoes, of several texts. -/
import Derived.Test.YtklifibiadiinaaZa
import Derived.Test.YtklifibiadiinaaZb
import Derived.Test.YtklifibiadiinaaZc
import Derived.Test.YtklifibiadiinaaZd
import Derived.Test.YtklifibiadiinaaVRowKit

/- Flips: two dominoes around a corner. Plain. -/
set_option linter.unusedVariables false
namespace Domi
open Go Go.RowKit

/-- Is the corner inside the field? -/
def arOk (r : Reg) (c : Int) : Bool := decide (0 ≤ c) && (inB (c % (r.wide + 1)) 1 (r.wide - 1) && inB (c / (r.wide + 1)) 1 (r.tall - 1))
/-- The cell in the south-west of a corner. -/
def arB (r : Reg) (c : Int) : Int := (c / (r.wide + 1) - 1) * r.wide + c % (r.wide + 1) - 1
def flatC (r : Reg) (L : List Int) (c : Int) : Bool := arOk r c && (decide (L.getD (arB r c).toNat 0 = 1) && decide (L.getD (arB r c + r.wide).toNat 0 = 1))
def uprC (r : Reg) (L : List Int) (c : Int) : Bool := arOk r c && (decide (L.getD (arB r c).toNat 0 = 2) && decide (L.getD (arB r c + 1).toNat 0 = 2))
def canFl (r : Reg) (L : List Int) (c : Int) : Bool := flatC r L c || uprC r L c
def flipMay (r : Reg) (L : List Int) (c : Int) : Bool := laidOk r L && canFl r L c
def four (L : List Int) (a w : Nat) (x y z u : Int) : List Int := (((L.set a x).set (a + 1) y).set (a + w) z).set (a + w + 1) u
def flipL (r : Reg) (L : List Int) (c : Int) : List Int :=
  if flatC r L c then four L (arB r c).toNat r.wide.toNat 2 2 4 4 else if uprC r L c then four L (arB r c).toNat r.wide.toNat 1 3 1 3 else L
def flipOne (r : Reg) (L : List Int) (c : Int) : List Int × Bool := if laidOk r L then (flipL r L c, canFl r L c) else ([], false)
def corners (r : Reg) : Int := (r.wide + 1) * (r.tall + 1)
def flipsL (r : Reg) (L : List Int) : List Int := ((List.range (corners r).toNat).filter (fun k => canFl r L (k : Nat))).map Int.ofNat
def flipsOf (r : Reg) (L : List Int) : List Int := if laidOk r L then flipsL r L else []
def runL (r : Reg) (L : List Int) : List Int → List Int × Nat
  | [] => (L, 0)
  | c :: cs => ((runL r (flipL r L c) cs).1, (runL r (flipL r L c) cs).2 + if canFl r L c then 1 else 0)

/-- The four cells around a corner. -/
structure Sq (r : Reg) (c : Int) (a w : Nat) : Prop where
  v : r.valid = true
  ba : arB r c = (a : Int)
  bw : r.wide = (w : Int)
  w2 : 2 ≤ w
  lt : a + w + 1 < r.cells.length
  s1 : stepI r a 1 = ((a + 1 : Nat) : Int)
  s3 : stepI r (a + 1 : Nat) 3 = (a : Int)
  t1 : stepI r (a + w : Nat) 1 = ((a + w + 1 : Nat) : Int)
  t3 : stepI r (a + w + 1 : Nat) 3 = ((a + w : Nat) : Int)
  u2 : stepI r a 2 = ((a + w : Nat) : Int)
  u4 : stepI r (a + w : Nat) 4 = (a : Int)
  x2 : stepI r (a + 1 : Nat) 2 = ((a + w + 1 : Nat) : Int)
  x4 : stepI r (a + w + 1 : Nat) 4 = ((a + 1 : Nat) : Int)
theorem sq_of {r : Reg} {c : Int} (hv : r.valid = true) (h : arOk r c = true) : ∃ a w, Sq r c a w := by
  obtain ⟨v1, v2, v3, _⟩ := Reg.valid_iff.1 hv
  unfold arOk at h
  simp only [Bool.and_eq_true, decide_eq_true_eq, inB_iff] at h
  obtain ⟨h0, ⟨h1, h2⟩, h3, h4⟩ := h
  obtain ⟨x, hx⟩ : ∃ x, c % (r.wide + 1) - 1 = x := ⟨_, rfl⟩
  obtain ⟨y, hy⟩ : ∃ y, c / (r.wide + 1) - 1 = y := ⟨_, rfl⟩
  have eb : arB r c = y * r.wide + x := by unfold arB; rw [hy]; omega
  have p0 := xy_of (w := r.wide) (x := x) (y := y) (by omega) (by omega)
  have p1 := xy_of (w := r.wide) (x := x + 1) (y := y) (by omega) (by omega)
  have p2 := xy_of (w := r.wide) (x := x) (y := y + 1) (by omega) (by omega)
  have p3 := xy_of (w := r.wide) (x := x + 1) (y := y + 1) (by omega) (by omega)
  have q0 := xy_lt (w := r.wide) (t := r.tall) (x := x) (y := y) (by omega) (by omega) (by omega) (by omega)
  have q3 := xy_lt (w := r.wide) (t := r.tall) (x := x + 1) (y := y + 1) (by omega) (by omega) (by omega) (by omega)
  rw [Int.add_mul, Int.one_mul] at p2 p3 q3
  obtain ⟨a, ha⟩ := Int.eq_ofNat_of_zero_le q0.1
  obtain ⟨w, hw⟩ := Int.eq_ofNat_of_zero_le (show 0 ≤ r.wide by omega)
  have e0 : y * r.wide + x = (a : Int) := ha
  have e1 : y * r.wide + (x + 1) = ((a + 1 : Nat) : Int) := by omega
  have e2 : y * r.wide + r.wide + x = ((a + w : Nat) : Int) := by omega
  have e3 : y * r.wide + r.wide + (x + 1) = ((a + w + 1 : Nat) : Int) := by omega
  rw [e0] at p0; rw [e1] at p1; rw [e2] at p2; rw [e3] at p3
  refine ⟨a, w, ⟨hv, by rw [eb, e0], hw, by omega, by omega, ?_, ?_, ?_, ?_, ?_, ?_, ?_, ?_⟩⟩ <;> unfold stepI
  · rw [if_pos rfl, p0.1, if_pos (by omega)]; omega
  · rw [if_neg (by decide), if_neg (by decide), if_pos rfl, p1.1, if_pos (by omega)]; omega
  · rw [if_pos rfl, p2.1, if_pos (by omega)]; omega
  · rw [if_neg (by decide), if_neg (by decide), if_pos rfl, p3.1, if_pos (by omega)]; omega
  · rw [if_neg (by decide), if_pos rfl, p0.2, if_pos (by omega)]; omega
  · rw [if_neg (by decide), if_neg (by decide), if_neg (by decide), if_pos rfl, p2.2, if_pos (by omega)]; omega
  · rw [if_neg (by decide), if_pos rfl, p1.2, if_pos (by omega)]; omega
  · rw [if_neg (by decide), if_neg (by decide), if_neg (by decide), if_pos rfl, p3.2, if_pos (by omega)]; omega

theorem four_get {L : List Int} {a w : Nat} (h2 : 2 ≤ w) (h : a + w + 1 < L.length) (x y z u : Int) (k : Nat) :
    (four L a w x y z u).getD k 0 = if a + w + 1 = k then u else if a + w = k then z else if a + 1 = k then y else if a = k then x else L.getD k 0 := by
  unfold four
  rw [getD_put _ _ k u (by simp; omega), getD_put _ _ k z (by simp; omega), getD_put _ _ k y (by simp; omega), getD_put _ _ k x (by omega)]
theorem four_len (L : List Int) (a w : Nat) (x y z u : Int) : (four L a w x y z u).length = L.length := by simp [four]
theorem flipL_len (r : Reg) (L : List Int) (c : Int) : (flipL r L c).length = L.length := by
  unfold flipL; split
  · exact four_len ..
  · split
    · exact four_len ..
    · rfl

/-- Another list that lays dominoes on the same cells lays dominoes. -/
theorem swap_ok {r : Reg} {L L' : List Int} (h : laidOk r L = true) (hl : L'.length = L.length) (F : Nat → Prop) (out : ∀ k, ¬ F k → L'.getD k 0 = L.getD k 0)
    (hold : ∀ m, F m → ∃ m' : Nat, F m' ∧ stepI r m (L.getD m 0) = m')
    (hnew : ∀ m, F m → r.f m = true ∧ ∃ m' : Nat, F m' ∧ stepI r m (L'.getD m 0) = m' ∧ L'.getD m' 0 = backI (L'.getD m 0)) : laidOk r L' = true := by
  obtain ⟨hv, hlen, hall⟩ := laidOk_iff.1 h
  refine laidOk_iff.2 ⟨hv, by omega, fun k hk => ?_⟩
  by_cases hF : F k
  · obtain ⟨f1, m', hF', e1, e2⟩ := hnew k hF
    have f2 := (hnew m' hF').1
    exact okAt_good (x := L'.getD k 0) (s := (m' : Int)) rfl e1 (by omega) f1 (by rw [Int.toNat_natCast]; exact f2) (by rw [Int.toNat_natCast]; exact e2)
  · have e := out k hF
    by_cases h0 : L.getD k 0 = 0
    · exact okAt_zero (by rw [e, h0])
    · have A := laidOk_at h (by omega) h0
      obtain ⟨s, hs⟩ := Int.eq_ofNat_of_zero_le A.dest.1
      have hth := A.there; have hbk := A.back
      rw [hs, Int.toNat_natCast] at hth hbk
      have hnF : ¬ F s := fun hFs => by
        obtain ⟨m', hF', e1⟩ := hold s hFs
        have hm := stepI_home hv (k := k) (x := L.getD k 0) (by omega) A.dest.1
        rw [hs, ← hbk] at hm
        change stepI r (s : Int) _ = _ at hm
        rw [e1] at hm
        have : m' = k := by omega
        exact hF (this ▸ hF')
      exact okAt_good (x := L.getD k 0) (s := (s : Int)) e hs (by omega) A.here (by rw [Int.toNat_natCast]; exact hth) (by rw [Int.toNat_natCast, out s hnF]; exact hbk)

section
variable {r : Reg} {L : List Int} {c : Int} {a w : Nat}
theorem flatC_ar (h : flatC r L c = true) : arOk r c = true := by unfold flatC at h; simp at h; exact h.1
theorem uprC_ar (h : uprC r L c = true) : arOk r c = true := by unfold uprC at h; simp at h; exact h.1
theorem canFl_ar (h : canFl r L c = true) : arOk r c = true := by
  unfold canFl at h; rw [Bool.or_eq_true] at h
  exact h.elim flatC_ar uprC_ar
theorem flatC_eq (q : Sq r c a w) (h : arOk r c = true) : flatC r L c = (decide (L.getD a 0 = 1) && decide (L.getD (a + w) 0 = 1)) := by
  unfold flatC; rw [h, q.ba, q.bw, Bool.true_and]; rfl
theorem uprC_eq (q : Sq r c a w) (h : arOk r c = true) : uprC r L c = (decide (L.getD a 0 = 2) && decide (L.getD (a + 1) 0 = 2)) := by
  unfold uprC; rw [h, q.ba, Bool.true_and]; rfl
structure Sq4 (r : Reg) (L : List Int) (a w : Nat) (x y z u : Int) : Prop where
  ga : L.getD a 0 = x
  gb : L.getD (a + 1) 0 = y
  gc : L.getD (a + w) 0 = z
  gd : L.getD (a + w + 1) 0 = u
  fa : r.f a = true
  fb : r.f (a + 1) = true
  fc : r.f (a + w) = true
  fd : r.f (a + w + 1) = true
theorem sq_flat (h : laidOk r L = true) (q : Sq r c a w) (hf : flatC r L c = true) : Sq4 r L a w 1 3 1 3 := by
  rw [flatC_eq q (flatC_ar hf)] at hf
  simp only [Bool.and_eq_true, decide_eq_true_eq] at hf
  obtain ⟨h1, h2⟩ := hf
  obtain ⟨_, hlen, _⟩ := laidOk_iff.1 h
  have hlt := q.lt
  have A := laidOk_at h (k := a) (by omega) (by rw [h1]; decide)
  have C := laidOk_at h (k := a + w) (by omega) (by rw [h2]; decide)
  have a1 := A.there; have a2 := A.back; have c1 := C.there; have c2 := C.back
  rw [h1, q.s1, Int.toNat_natCast] at a1 a2
  rw [h2, q.t1, Int.toNat_natCast] at c1 c2
  exact ⟨h1, a2, h2, c2, A.here, a1, C.here, c1⟩
theorem sq_upr (h : laidOk r L = true) (q : Sq r c a w) (hf : uprC r L c = true) : Sq4 r L a w 2 2 4 4 := by
  rw [uprC_eq q (uprC_ar hf)] at hf
  simp only [Bool.and_eq_true, decide_eq_true_eq] at hf
  obtain ⟨h1, h2⟩ := hf
  obtain ⟨_, hlen, _⟩ := laidOk_iff.1 h
  have hlt := q.lt
  have A := laidOk_at h (k := a) (by omega) (by rw [h1]; decide)
  have C := laidOk_at h (k := a + 1) (by have := q.w2; omega) (by rw [h2]; decide)
  have a1 := A.there; have a2 := A.back; have c1 := C.there; have c2 := C.back
  rw [h1, q.u2, Int.toNat_natCast] at a1 a2
  rw [h2, q.x2, Int.toNat_natCast] at c1 c2
  exact ⟨h1, h2, a2, c2, A.here, C.here, a1, c1⟩
theorem sq_get (q : Sq r c a w) (hl : L.length = r.cells.length) (x y z u : Int) : (four L a w x y z u).getD a 0 = x ∧ (four L a w x y z u).getD (a + 1) 0 = y ∧ (four L a w x y z u).getD (a + w) 0 = z ∧ (four L a w x y z u).getD (a + w + 1) 0 = u := by
  have h2 := q.w2; have hlt := q.lt
  refine ⟨?_, ?_, ?_, ?_⟩ <;> rw [four_get h2 (by omega)]
  · rw [if_neg (by omega), if_neg (by omega), if_neg (by omega), if_pos rfl]
  · rw [if_neg (by omega), if_neg (by omega), if_pos rfl]
  · rw [if_neg (by omega), if_pos rfl]
  · rw [if_pos rfl]
theorem flipL_flat (q : Sq r c a w) (hf : flatC r L c = true) : flipL r L c = four L a w 2 2 4 4 := by
  unfold flipL; rw [if_pos hf, q.ba, q.bw, Int.toNat_natCast, Int.toNat_natCast]
theorem flipL_upr (q : Sq r c a w) (h : flatC r L c = false) (hf : uprC r L c = true) : flipL r L c = four L a w 1 3 1 3 := by
  unfold flipL; rw [h, if_neg (by decide), if_pos hf, q.ba, q.bw, Int.toNat_natCast, Int.toNat_natCast]
theorem flipL_no (h : canFl r L c = false) : flipL r L c = L := by
  unfold canFl at h; rw [Bool.or_eq_false_iff] at h
  unfold flipL; rw [h.1, h.2]; rfl
/-- The flipped list lays dominoes. -/
theorem flip_ok (h : laidOk r L = true) : laidOk r (flipL r L c) = true := by
  obtain ⟨hv, hlen, _⟩ := laidOk_iff.1 h
  cases hf : flatC r L c
  · cases hu : uprC r L c
    · rw [flipL_no (by unfold canFl; rw [hf, hu]; rfl)]; exact h
    · obtain ⟨a, w, q⟩ := sq_of hv (uprC_ar hu)
      have S := sq_upr h q hu
      have G := sq_get q hlen 1 3 1 3
      rw [flipL_upr q hf hu]
      refine swap_ok h (four_len ..) (fun m => m = a ∨ m = a + 1 ∨ m = a + w ∨ m = a + w + 1) (fun k hk => ?_) (fun m hm => ?_) fun m hm => ?_
      · rw [four_get q.w2 (by have := q.lt; omega), if_neg (by omega), if_neg (by omega), if_neg (by omega), if_neg (by omega)]
      · rcases hm with rfl | rfl | rfl | rfl
        · exact ⟨m + w, by simp, by rw [S.ga, q.u2]⟩
        · exact ⟨a + w + 1, by simp, by rw [S.gb, q.x2]⟩
        · exact ⟨a, by simp, by rw [S.gc, q.u4]⟩
        · exact ⟨a + 1, by simp, by rw [S.gd, q.x4]⟩
      · rcases hm with rfl | rfl | rfl | rfl
        · exact ⟨S.fa, m + 1, by simp, by rw [G.1, q.s1], by rw [G.1, G.2.1]; rfl⟩
        · exact ⟨S.fb, a, by simp, by rw [G.2.1, q.s3], by rw [G.1, G.2.1]; rfl⟩
        · exact ⟨S.fc, a + w + 1, by simp, by rw [G.2.2.1, q.t1], by rw [G.2.2.1, G.2.2.2]; rfl⟩
        · exact ⟨S.fd, a + w, by simp, by rw [G.2.2.2, q.t3], by rw [G.2.2.1, G.2.2.2]; rfl⟩
  · obtain ⟨a, w, q⟩ := sq_of hv (flatC_ar hf)
    have S := sq_flat h q hf
    have G := sq_get q hlen 2 2 4 4
    rw [flipL_flat q hf]
    refine swap_ok h (four_len ..) (fun m => m = a ∨ m = a + 1 ∨ m = a + w ∨ m = a + w + 1) (fun k hk => ?_) (fun m hm => ?_) fun m hm => ?_
    · rw [four_get q.w2 (by have := q.lt; omega), if_neg (by omega), if_neg (by omega), if_neg (by omega), if_neg (by omega)]
    · rcases hm with rfl | rfl | rfl | rfl
      · exact ⟨m + 1, by simp, by rw [S.ga, q.s1]⟩
      · exact ⟨a, by simp, by rw [S.gb, q.s3]⟩
      · exact ⟨a + w + 1, by simp, by rw [S.gc, q.t1]⟩
      · exact ⟨a + w, by simp, by rw [S.gd, q.t3]⟩
    · rcases hm with rfl | rfl | rfl | rfl
      · exact ⟨S.fa, m + w, by simp, by rw [G.1, q.u2], by rw [G.1, G.2.2.1]; rfl⟩
      · exact ⟨S.fb, a + w + 1, by simp, by rw [G.2.1, q.x2], by rw [G.2.1, G.2.2.2]; rfl⟩
      · exact ⟨S.fc, a, by simp, by rw [G.2.2.1, q.u4], by rw [G.1, G.2.2.1]; rfl⟩
      · exact ⟨S.fd, a + 1, by simp, by rw [G.2.2.2, q.x4], by rw [G.2.1, G.2.2.2]; rfl⟩
/-- A flip leads to one that leads back. -/
theorem flip_may (h : laidOk r L = true) (hc : canFl r L c = true) : canFl r (flipL r L c) c = true := by
  obtain ⟨hv, hlen, _⟩ := laidOk_iff.1 h
  have har := canFl_ar hc
  obtain ⟨a, w, q⟩ := sq_of hv har
  unfold canFl
  rw [Bool.or_eq_true]
  cases hf : flatC r L c
  · have hu : uprC r L c = true := by unfold canFl at hc; rw [hf] at hc; simpa using hc
    have G := sq_get q hlen 1 3 1 3
    left; rw [flipL_upr q hf hu, flatC_eq q har, G.1, G.2.2.1]; rfl
  · have G := sq_get q hlen 2 2 4 4
    right; rw [flipL_flat q hf, uprC_eq q har, G.1, G.2.1]; rfl
/-- What the reference asks: all four cells belong to the region. -/
def sqOk (r : Reg) (c : Int) : Bool := arOk r c && (r.f (arB r c).toNat && (r.f (arB r c + 1).toNat && (r.f (arB r c + r.wide).toNat && r.f (arB r c + r.wide + 1).toNat)))
theorem canFl_sq (h : laidOk r L = true) : (sqOk r c && canFl r L c) = canFl r L c := by
  obtain ⟨hv, hlen, _⟩ := laidOk_iff.1 h
  cases hc : canFl r L c
  · rw [Bool.and_false]
  · have har := canFl_ar hc
    obtain ⟨a, w, q⟩ := sq_of hv har
    have hx : r.f a = true ∧ r.f (a + 1) = true ∧ r.f (a + w) = true ∧ r.f (a + w + 1) = true := by
      unfold canFl at hc
      rw [Bool.or_eq_true] at hc
      rcases hc with hc | hc
      · have S := sq_flat h q hc; exact ⟨S.fa, S.fb, S.fc, S.fd⟩
      · have S := sq_upr h q hc; exact ⟨S.fa, S.fb, S.fc, S.fd⟩
    unfold sqOk
    rw [har, q.ba, q.bw, show ((a : Int)).toNat = a from rfl, show ((a : Int) + 1).toNat = a + 1 from rfl, show ((a : Int) + (w : Int)).toNat = a + w from rfl, show ((a : Int) + (w : Int) + 1).toNat = a + w + 1 from rfl, hx.1, hx.2.1, hx.2.2.1, hx.2.2.2]; rfl
end
end Domi

/- AcrossMany as the reference counts: plain. -/
set_option linter.unusedVariables false
namespace Domi
open Go Go.RowKit

/-- Half-way from one list to another. -/
def mixL (f g : Nat → Bool) (n k : Nat) : List Bool := (List.range n).map fun j => if j < k then g j else f j
theorem mixL_len (f g : Nat → Bool) (n k : Nat) : (mixL f g n k).length = n := by simp [mixL]
theorem mixL_set (f g : Nat → Bool) {n k : Nat} (h : k < n) {b : Bool} (hb : g k = b) : (mixL f g n k).set k b = mixL f g n (k + 1) := by
  refine List.ext_getElem (by simp [mixL]) fun i h1 h2 => ?_
  simp [mixL] at h1 h2
  rw [List.getElem_set]
  simp only [mixL, List.getElem_map, List.getElem_range]
  by_cases e : k = i
  · subst e; simp [hb]
  · rw [if_neg e]
    by_cases hi : i < k
    · rw [if_pos hi, if_pos (by omega)]
    · rw [if_neg hi, if_neg (by omega)]
theorem mixL_same (f g : Nat → Bool) {n k : Nat} (hb : g k = f k) : mixL f g n (k + 1) = mixL f g n k := by
  refine List.map_congr_left fun j _ => ?_
  by_cases hj : j < k
  · rw [if_pos hj, if_pos (by omega)]
  · by_cases e : j = k
    · subst e; rw [if_pos (by omega), if_neg hj, hb]
    · rw [if_neg hj, if_neg (by omega)]
theorem mixL_zero (f g : Nat → Bool) (n : Nat) : mixL f g n 0 = (List.range n).map f := List.map_congr_left fun j _ => if_neg (Nat.not_lt_zero _)
theorem mixL_all (f g : Nat → Bool) (n : Nat) : mixL f g n n = (List.range n).map g := List.map_congr_left fun j hj => if_pos (List.mem_range.1 hj)
theorem range_f (r : Reg) : (List.range r.cells.length).map r.f = r.cells := by
  refine List.ext_getElem (by simp) fun i h1 h2 => ?_
  simp [Reg.f, List.getD_eq_getElem?_getD, h2]
/-- What stays of a cell in the west, and in the east. -/
def wB (r : Reg) (w col set k : Nat) : Bool := r.f k && (decide (k % w < col) && !(inRow w set k && decide (k % w + 1 = col)))
def eB (r : Reg) (w col set k : Nat) : Bool := r.f k && (decide (col ≤ k % w) && !(inRow w set k && decide (k % w = col)))
theorem west_mix (r : Reg) (w col set : Nat) : mixL r.f (wB r w col set) r.cells.length r.cells.length = (westC r w col set).cells := mixL_all _ _ _
theorem east_mix (r : Reg) (w col set : Nat) : mixL r.f (eB r w col set) r.cells.length r.cells.length = (eastC r w col set).cells := mixL_all _ _ _
theorem mix_start (r : Reg) (g : Nat → Bool) : mixL r.f g r.cells.length 0 = r.cells := by rw [mixL_zero, range_f]
theorem wB_no {r : Reg} {w col set k : Nat} (h : col ≤ k % w ∨ (inRow w set k = true ∧ k % w + 1 = col)) : wB r w col set k = false := by
  unfold wB
  rcases h with h | ⟨h1, h2⟩
  · rw [decide_eq_false (by omega)]; simp
  · rw [h1, decide_eq_true h2]; simp
theorem wB_yes {r : Reg} {w col set k : Nat} (h1 : k % w < col) (h2 : inRow w set k = false ∨ k % w + 1 ≠ col) : wB r w col set k = r.f k := by
  unfold wB
  rw [decide_eq_true h1]
  rcases h2 with h2 | h2
  · rw [h2]; simp
  · rw [decide_eq_false h2]; simp
theorem eB_no {r : Reg} {w col set k : Nat} (h : k % w < col ∨ (inRow w set k = true ∧ k % w = col)) : eB r w col set k = false := by
  unfold eB
  rcases h with h | ⟨h1, h2⟩
  · rw [decide_eq_false (by omega)]; simp
  · rw [h1, decide_eq_true h2]; simp
theorem eB_yes {r : Reg} {w col set k : Nat} (h1 : col ≤ k % w) (h2 : inRow w set k = false ∨ k % w ≠ col) : eB r w col set k = r.f k := by
  unfold eB
  rw [decide_eq_true h1]
  rcases h2 with h2 | h2
  · rw [h2]; simp
  · rw [decide_eq_false h2]; simp
/-- Good up to a cell. -/
def GoodTo (r : Reg) (w col set n : Nat) : Prop := ∀ k, k < n → inRow w set k = true → (k % w + 1 = col ∨ k % w = col) → r.f k = true
theorem GoodTo.next {r : Reg} {w col set n : Nat} (h : GoodTo r w col set n) (hn : inRow w set n = true → (n % w + 1 = col ∨ n % w = col) → r.f n = true) : GoodTo r w col set (n + 1) := by
  intro k hk h1 h2
  by_cases e : k = n
  · subst e; exact hn h1 h2
  · exact h k (by omega) h1 h2
theorem acMany_no1 {r : Reg} {col set : Int} (h : r.valid = false) : acMany r col set = -1 := by unfold acMany; rw [h]; rfl
theorem acMany_no2 {r : Reg} {col set : Int} (h : inB col 1 (r.wide - 1) = false) : acMany r col set = -1 := by unfold acMany; rw [h, Bool.and_false]; rfl
theorem acMany_no3 {r : Reg} {col set : Int} (h : inB set 0 ((2 : Int) ^ r.tall.toNat - 1) = false) : acMany r col set = -1 := by unfold acMany; rw [h, Bool.and_false]; rfl
theorem acMany_yes {r : Reg} {col set : Nat} (hv : r.valid = true) (hc : inB col 1 (r.wide - 1) = true) (hs : inB set 0 ((2 : Int) ^ r.tall.toNat - 1) = true) : acMany r col set = (acCount r col set : Int) := by
  unfold acMany; rw [hv, hc, hs]; rfl
/-- The sum over all sets, as the law has it. -/
def acSumR (r : Reg) (col : Int) : Int := if r.valid && inB col 1 (r.wide - 1) then manyT r else -1
theorem acSumR_no1 {r : Reg} {col : Int} (h : r.valid = false) : acSumR r col = -1 := by unfold acSumR; rw [h]; rfl
theorem acSumR_no2 {r : Reg} {col : Int} (h : inB col 1 (r.wide - 1) = false) : acSumR r col = -1 := by unfold acSumR; rw [h, Bool.and_false]; rfl
theorem acSumR_yes {r : Reg} {col : Int} (hv : r.valid = true) (hc : inB col 1 (r.wide - 1) = true) : acSumR r col = manyT r := by unfold acSumR; rw [hv, hc]; rfl
theorem bit_of {s k : Nat} : ((s : Int) / 2 ^ k) % 2 = (if s.testBit k then 1 else 0) := by
  rw [Nat.testBit_eq_decide_div_mod_eq]
  have e : ((s : Int) / 2 ^ k) % 2 = ((s / 2 ^ k % 2 : Nat) : Int) := by push_cast; rfl
  rw [e]
  have h2 : s / 2 ^ k % 2 < 2 := Nat.mod_lt _ (by omega)
  by_cases h : s / 2 ^ k % 2 = 1
  · rw [h]; simp
  · rw [show s / 2 ^ k % 2 = 0 by omega]; simp
end Domi

/- Edges that come one by one, and the ones across them that go: what stays. Plain. -/
set_option linter.unusedVariables false
namespace Domi

/-- An edge between a and b, and the one across it, between p and q. -/
structure Edge where
  a : Nat
  b : Nat
  p : Nat
  q : Nat
def onE (L : List Edge) (x y : Nat) : Prop := ∃ e ∈ L, (e.a = x ∧ e.b = y) ∨ (e.a = y ∧ e.b = x)
def onD (L : List Edge) (x y : Nat) : Prop := ∃ e ∈ L, (e.p = x ∧ e.q = y) ∨ (e.p = y ∧ e.q = x)
theorem onE_symm {L : List Edge} : ∀ x y, onE L x y → onE L y x := fun _ _ ⟨e, h, g⟩ => ⟨e, h, g.symm⟩
theorem onD_symm {L : List Edge} : ∀ x y, onD L x y → onD L y x := fun _ _ ⟨e, h, g⟩ => ⟨e, h, g.symm⟩
/-- How many parts. -/
noncomputable def cc (n : Nat) (E : Nat → Nat → Prop) : Nat := num n fun k => least E k = k

section
variable {E F : Nat → Nat → Prop} {a b n : Nat}
theorem conn_add (hs : ∀ x y, E x y → E y x) (hF : ∀ x y, F x y → E x y ∨ (x = a ∧ y = b) ∨ (x = b ∧ y = a)) {x y : Nat} (h : Conn F x y) :
    Conn E x y ∨ (Conn E x a ∧ Conn E b y) ∨ (Conn E x b ∧ Conn E a y) := by
  induction h with
  | refl => exact .inl (.refl _)
  | @step u v _ e ih =>
    rcases hF _ _ e with g | ⟨rfl, rfl⟩ | ⟨rfl, rfl⟩
    · rcases ih with i | ⟨i, j⟩ | ⟨i, j⟩
      · exact .inl (.step i g)
      · exact .inr (.inl ⟨i, .step j g⟩)
      · exact .inr (.inr ⟨i, .step j g⟩)
    · rcases ih with i | ⟨i, _⟩ | ⟨i, _⟩
      · exact .inr (.inl ⟨i, .refl _⟩)
      · exact .inr (.inl ⟨i, .refl _⟩)
      · exact .inl i
    · rcases ih with i | ⟨i, _⟩ | ⟨i, _⟩
      · exact .inr (.inr ⟨i, .refl _⟩)
      · exact .inl i
      · exact .inr (.inr ⟨i, .refl _⟩)
theorem least_mono {k : Nat} (h : ∀ x y, E x y → F x y) : least F k ≤ least E k := least_le ((least_conn E k).mono h)
theorem cc_same (h1 : ∀ x y, Conn E x y ↔ Conn F x y) : cc n E = cc n F := by
  refine num_congr fun k _ => ?_
  have e : least E k = least F k := Nat.le_antisymm (least_le ((h1 _ _).2 (least_conn F k))) (least_le ((h1 _ _).1 (least_conn E k)))
  rw [e]
theorem cc_join (hs : ∀ x y, E x y → E y x) (hE : ∀ x y, E x y → F x y) (hF : ∀ x y, F x y → E x y ∨ (x = a ∧ y = b) ∨ (x = b ∧ y = a)) (h : Conn E a b) : cc n F = cc n E :=
  cc_same fun x y => ⟨fun g => by
    rcases conn_add hs hF g with i | ⟨i, j⟩ | ⟨i, j⟩
    · exact i
    · exact i.trans (h.trans j)
    · exact i.trans ((h.symm hs).trans j), fun g => g.mono hE⟩
theorem cc_less0 (hs : ∀ x y, E x y → E y x) (hsF : ∀ x y, F x y → F y x) (hE : ∀ x y, E x y → F x y) (hab : F a b) (hF : ∀ x y, F x y → E x y ∨ (x = a ∧ y = b) ∨ (x = b ∧ y = a)) (hb : b < n)
    (h : least E a < least E b) : cc n F + 1 = cc n E := by
  have key : ∀ k, least F k = k ↔ least E k = k ∧ k ≠ least E b := by
    intro k
    constructor
    · intro g
      have h1 := least_mono (k := k) hE
      have h2 := least_self (E := E) k
      refine ⟨by omega, ?_⟩
      rintro rfl
      have h3 : Conn F (least E b) (least E a) := (((least_conn E b).mono hE).symm hsF).trans ((Conn.one (hsF _ _ hab)).trans ((least_conn E a).mono hE))
      have := least_le h3
      omega
    · rintro ⟨g1, g2⟩
      refine least_is (.refl _) fun j hj => ?_
      rcases conn_add hs hF hj with i | ⟨i, j'⟩ | ⟨i, j'⟩
      · have := least_le i; omega
      · have := least_eq hs i
        have := least_le j'
        omega
      · exact absurd (g1.symm.trans (least_eq hs i)) g2
  have h0 : num n (fun k => least E k = k) = num n (fun k => (least E k = k ∧ k ≠ least E b) ∨ k = least E b) := num_congr fun k _ => by
    constructor
    · intro g
      by_cases e : k = least E b
      · exact .inr e
      · exact .inl ⟨g, e⟩
    · rintro (g | g)
      · exact g.1
      · rw [g]; exact least_idem hs b
  have hlb := least_self (E := E) b
  have h1 : num n (fun k => least F k = k) = num n (fun k => least E k = k ∧ k ≠ least E b) := num_congr fun k _ => key k
  unfold cc
  rw [h0, num_or (fun k _ g e => g.2 e), num_one (by omega), h1]
theorem cc_less (hs : ∀ x y, E x y → E y x) (hsF : ∀ x y, F x y → F y x) (hE : ∀ x y, E x y → F x y) (hab : F a b) (hF : ∀ x y, F x y → E x y ∨ (x = a ∧ y = b) ∨ (x = b ∧ y = a)) (ha : a < n) (hb : b < n)
    (h : ¬ Conn E a b) : cc n F + 1 = cc n E := by
  have hne : least E a ≠ least E b := fun e => h ((conn_iff hs).2 e)
  rcases Nat.lt_or_ge (least E a) (least E b) with hl | hl
  · exact cc_less0 hs hsF hE hab hF hb hl
  · exact cc_less0 (a := b) (b := a) hs hsF hE (hsF _ _ hab) (fun x y g => (hF x y g).imp id Or.symm) ha (by omega)
end

/-! ### even or odd -/
def par : Nat → (Nat → Bool) → Bool
  | 0, _ => false
  | n + 1, f => par n f ^^ f n
def parL (l : List Edge) (f : Edge → Bool) : Bool := match l with
  | [] => false
  | e :: l => f e ^^ parL l f
theorem par_xor (n : Nat) (f g : Nat → Bool) : par n (fun k => f k ^^ g k) = (par n f ^^ par n g) := by
  induction n with
  | zero => rfl
  | succ n ih => simp only [par, ih]; cases par n f <;> cases par n g <;> cases f n <;> cases g n <;> rfl
theorem par_no (n : Nat) (f : Nat → Bool) (h : ∀ k, k < n → f k = false) : par n f = false := by
  induction n with
  | zero => rfl
  | succ n ih => simp only [par, ih fun k hk => h k (by omega), h n (by omega)]; rfl
theorem par_congr {n : Nat} {f g : Nat → Bool} (h : ∀ k, k < n → f k = g k) : par n f = par n g := by
  induction n with
  | zero => rfl
  | succ n ih => simp only [par, ih fun k hk => h k (by omega), h n (by omega)]
theorem par_one (n a : Nat) (f : Nat → Bool) (h : ∀ k, k < n → k ≠ a → f k = false) : par n f = (decide (a < n) && f a) := by
  induction n with
  | zero => simp [par]
  | succ n ih =>
    rw [par, ih fun k hk => h k (by omega)]
    by_cases e : n = a
    · subst e; simp
    · rw [h n (by omega) e]
      by_cases h1 : a < n
      · rw [decide_eq_true h1, decide_eq_true (show a < n + 1 by omega)]; simp
      · rw [decide_eq_false h1, decide_eq_false (show ¬ a < n + 1 by omega)]; simp
theorem parL_no (l : List Edge) (f : Edge → Bool) (h : ∀ e ∈ l, f e = false) : parL l f = false := by
  induction l with
  | nil => rfl
  | cons e l ih => rw [parL, ih fun x hx => h x (by simp [hx]), h e (by simp)]; rfl
theorem parL_congr {l : List Edge} {f g : Edge → Bool} (h : ∀ e ∈ l, f e = g e) : parL l f = parL l g := by
  induction l with
  | nil => rfl
  | cons e l ih => rw [parL, parL, ih fun x hx => h x (by simp [hx]), h e (by simp)]
theorem parL_app (l m : List Edge) (f : Edge → Bool) : parL (l ++ m) f = (parL l f ^^ parL m f) := by
  induction l with
  | nil => simp [parL]
  | cons e l ih => simp only [List.cons_append, parL, ih]; cases f e <;> cases parL l f <;> cases parL m f <;> rfl
theorem parL_split (l : List Edge) (s : Edge → Bool) (f : Edge → Bool) : parL (l.filter s ++ l.filter fun e => !s e) f = parL l f := by
  induction l with
  | nil => rfl
  | cons e l ih =>
    rw [parL_app] at ih
    rw [parL_app]
    cases h : s e
    · simp only [List.filter_cons, h, Bool.not_false, if_true, Bool.false_eq_true, if_false, parL]
      rw [← ih]; cases f e <;> cases parL (l.filter s) f <;> simp
    · simp only [List.filter_cons, h, Bool.not_true, if_true, Bool.false_eq_true, if_false, parL]
      rw [← ih]; cases f e <;> cases parL (l.filter s) f <;> simp
/-- Summed over the places, every edge counts at both of its ends. -/
theorem par_swap (n : Nat) (C : Nat → Bool) (X : Edge → Bool) (l : List Edge) (hl : ∀ e ∈ l, e.a < n ∧ e.b < n) :
    par n (fun v => C v && parL l (fun e => X e && (decide (e.a = v) ^^ decide (e.b = v)))) = parL l (fun e => X e && (C e.a ^^ C e.b)) := by
  induction l with
  | nil => exact par_no _ _ fun k _ => by simp [parL]
  | cons e l ih =>
    rw [parL, ← ih fun x hx => hl x (by simp [hx])]
    obtain ⟨ha, hb⟩ := hl e (by simp)
    have h1 : par n (fun v => C v && parL (e :: l) (fun e => X e && (decide (e.a = v) ^^ decide (e.b = v)))) =
        par n (fun v => ((C v && X e && decide (e.a = v)) ^^ (C v && X e && decide (e.b = v))) ^^ (C v && parL l (fun e => X e && (decide (e.a = v) ^^ decide (e.b = v))))) := par_congr fun v _ => by
      rw [parL]
      cases C v <;> cases X e <;> cases decide (e.a = v) <;> cases decide (e.b = v) <;> simp
    rw [h1, par_xor, par_xor, par_one n e.a _ (fun k _ hk => by rw [decide_eq_false (fun h => hk h.symm)]; simp), par_one n e.b _ (fun k _ hk => by rw [decide_eq_false (fun h => hk h.symm)]; simp)]
    rw [decide_eq_true ha, decide_eq_true hb]
    cases C e.a <;> cases C e.b <;> cases X e <;> simp

/-- At every place, every set of faces has an even number of edges at its rim. -/
def EvenL (n : Nat) (L : List Edge) : Prop := ∀ v, v < n → ∀ X : Nat → Bool, parL L (fun e => (X e.p ^^ X e.q) && (decide (e.a = v) ^^ decide (e.b = v))) = false

theorem cross_conn {n : Nat} {pre post : List Edge} {e : Edge} (hL : ∀ x ∈ pre ++ e :: post, x.a < n ∧ x.b < n) (hev : EvenL n (pre ++ e :: post)) (h : ¬ Conn (onE pre) e.a e.b) : Conn (onD post) e.p e.q := by
  refine Classical.byContradiction fun hd => ?_
  classical
  have H := par_swap n (fun v => decide (Conn (onE pre) e.a v)) (fun x => decide (Conn (onD post) e.p x.p) ^^ decide (Conn (onD post) e.p x.q)) _ hL
  rw [par_no _ _ (fun v hv => by rw [hev v hv fun x => decide (Conn (onD post) e.p x)]; simp), parL_app, parL] at H
  rw [parL_no pre _ (fun x hx => by
    have : decide (Conn (onE pre) e.a x.a) = decide (Conn (onE pre) e.a x.b) := by
      refine decide_eq_decide.2 ⟨fun g => .step g ⟨x, hx, .inl ⟨rfl, rfl⟩⟩, fun g => .step g ⟨x, hx, .inr ⟨rfl, rfl⟩⟩⟩
    rw [this]; simp), parL_no post _ (fun x hx => by
    have : decide (Conn (onD post) e.p x.p) = decide (Conn (onD post) e.p x.q) := by
      refine decide_eq_decide.2 ⟨fun g => .step g ⟨x, hx, .inl ⟨rfl, rfl⟩⟩, fun g => .step g ⟨x, hx, .inr ⟨rfl, rfl⟩⟩⟩
    rw [this]; simp)] at H
  rw [decide_eq_true (Conn.refl (E := onD post) e.p), decide_eq_false hd, decide_eq_true (Conn.refl (E := onE pre) e.a), decide_eq_false h] at H
  simp at H

/-- What never falls. -/
noncomputable def eul (n m : Nat) (pre post : List Edge) : Int := (cc n (onE pre) : Int) - (cc m (onD post) : Int) + (pre.length : Int)
theorem eul_step {n m : Nat} {pre post : List Edge} {e : Edge} (hL : ∀ x ∈ pre ++ e :: post, (x.a < n ∧ x.b < n) ∧ (x.p < m ∧ x.q < m)) (hev : EvenL n (pre ++ e :: post)) : eul n m pre (e :: post) ≤ eul n m (pre ++ [e]) post := by
  have he := hL e (by simp)
  have i1 : ∀ x y, onE pre x y → onE (pre ++ [e]) x y := fun x y ⟨z, hz, g⟩ => ⟨z, by simp [hz], g⟩
  have i2 : ∀ x y, onE (pre ++ [e]) x y → onE pre x y ∨ (x = e.a ∧ y = e.b) ∨ (x = e.b ∧ y = e.a) := fun x y ⟨z, hz, g⟩ => by
    rcases List.mem_append.1 hz with hz | hz
    · exact .inl ⟨z, hz, g⟩
    · rw [List.mem_singleton] at hz; subst hz
      rcases g with ⟨g1, g2⟩ | ⟨g1, g2⟩
      · exact .inr (.inl ⟨g1.symm, g2.symm⟩)
      · exact .inr (.inr ⟨g2.symm, g1.symm⟩)
  have i3 : onE (pre ++ [e]) e.a e.b := ⟨e, by simp, .inl ⟨rfl, rfl⟩⟩
  have d1 : ∀ x y, onD post x y → onD (e :: post) x y := fun x y ⟨z, hz, g⟩ => ⟨z, by simp [hz], g⟩
  have d2 : ∀ x y, onD (e :: post) x y → onD post x y ∨ (x = e.p ∧ y = e.q) ∨ (x = e.q ∧ y = e.p) := fun x y ⟨z, hz, g⟩ => by
    rcases List.mem_cons.1 hz with hz | hz
    · subst hz
      rcases g with ⟨g1, g2⟩ | ⟨g1, g2⟩
      · exact .inr (.inl ⟨g1.symm, g2.symm⟩)
      · exact .inr (.inr ⟨g2.symm, g1.symm⟩)
    · exact .inl ⟨z, hz, g⟩
  have d3 : onD (e :: post) e.p e.q := ⟨e, by simp, .inl ⟨rfl, rfl⟩⟩
  unfold eul
  rw [List.length_append, List.length_singleton]
  by_cases h : Conn (onE pre) e.a e.b
  · rw [cc_join onE_symm i1 i2 h]
    by_cases g : Conn (onD post) e.p e.q
    · rw [cc_join onD_symm d1 d2 g]; omega
    · have := cc_less (n := m) onD_symm onD_symm d1 d3 d2 he.2.1 he.2.2 g
      omega
  · have h1 := cc_less (n := n) onE_symm onE_symm i1 i3 i2 he.1.1 he.1.2 h
    rw [cc_join onD_symm d1 d2 (cross_conn (fun x hx => (hL x hx).1) hev h)]
    omega
theorem eul_mono {n m : Nat} (mid : List Edge) : ∀ {pre post : List Edge}, (∀ x ∈ pre ++ (mid ++ post), (x.a < n ∧ x.b < n) ∧ (x.p < m ∧ x.q < m)) → EvenL n (pre ++ (mid ++ post)) → eul n m pre (mid ++ post) ≤ eul n m (pre ++ mid) post := by
  induction mid with
  | nil => intro pre post _ _; simp
  | cons e mid ih =>
    intro pre post hL hev
    refine Int.le_trans (eul_step (e := e) (post := mid ++ post) hL hev) ?_
    have e1 : pre ++ (e :: mid) = (pre ++ [e]) ++ mid := by simp
    have e2 : pre ++ (e :: mid ++ post) = (pre ++ [e]) ++ (mid ++ post) := by simp
    rw [e1]
    rw [e2] at hL hev
    exact ih hL hev
/-- If all edges and none tell the same, every set of edges does. -/
theorem eul_same {n m : Nat} {S T : List Edge} (hL : ∀ x ∈ S ++ T, (x.a < n ∧ x.b < n) ∧ (x.p < m ∧ x.q < m)) (hev : EvenL n (S ++ T)) (h : eul n m [] (S ++ T) = eul n m (S ++ T) []) : eul n m S T = eul n m [] (S ++ T) := by
  have h1 := eul_mono (n := n) (m := m) S (pre := []) (post := T) (by simpa using hL) (by simpa using hev)
  have h2 := eul_mono (n := n) (m := m) T (pre := S) (post := []) (by simpa using hL) (by simpa using hev)
  simp only [List.nil_append, List.append_nil] at h1 h2
  omega
end Domi

/- The edges of a field, and the corners across them. Plain. -/
set_option linter.unusedVariables false
namespace Domi

section
variable {W H : Nat}
theorem ix_mod {x y : Nat} (h : x < W) : (y * W + x) % W = x := by rw [Nat.add_comm, Nat.add_mul_mod_self_right]; exact Nat.mod_eq_of_lt h
theorem ix_div {x y : Nat} (h : x < W) : (y * W + x) / W = y := by rw [Nat.add_comm, Nat.add_mul_div_right _ _ (by omega)]; rw [Nat.div_eq_of_lt h]; omega
theorem ix_of (k : Nat) : k / W * W + k % W = k := by rw [Nat.mul_comm]; exact Nat.div_add_mod k W
theorem ix_lt {x y : Nat} (hx : x < W) (hy : y < H) : y * W + x < W * H := by
  have h1 : (y + 1) * W ≤ H * W := Nat.mul_le_mul_right _ hy
  rw [Nat.add_mul] at h1
  rw [Nat.mul_comm W H]
  omega
theorem ix_row {k : Nat} (h : k < W * H) : k / W < H := Nat.div_lt_of_lt_mul h
theorem ix_col {k : Nat} (h : k < W * H) : k % W < W := by
  refine Nat.mod_lt _ ?_
  rcases Nat.eq_zero_or_pos W with e | e
  · subst e; simp at h
  · exact e
/-- A place by its column and row. -/
theorem ix_cases {k : Nat} (h : k < W * H) : ∃ x y, x < W ∧ y < H ∧ k = y * W + x ∧ k % W = x ∧ k / W = y := ⟨k % W, k / W, ix_col h, ix_row h, (ix_of k).symm, rfl, rfl⟩
theorem ix_west {x y : Nat} (hx : x + 1 < W) : (y * W + (x + 1) - 1) % W = x ∧ (y * W + (x + 1) - 1) / W = y := by
  rw [show y * W + (x + 1) - 1 = y * W + x by omega]; exact ⟨ix_mod (by omega), ix_div (by omega)⟩
theorem ix_south {x y : Nat} : (y + 1) * W + x - W = y * W + x := by rw [Nat.add_mul]; omega
end

/-- The corner between four places; 0 is all that is outside. -/
def fc (W H i j : Nat) : Nat := if 0 < i ∧ i < W ∧ 0 < j ∧ j < H then j * W + i else 0
def eE (W H k : Nat) : Edge := ⟨k, k + 1, fc W H (k % W + 1) (k / W), fc W H (k % W + 1) (k / W + 1)⟩
def eN (W H k : Nat) : Edge := ⟨k, k + W, fc W H (k % W) (k / W + 1), fc W H (k % W + 1) (k / W + 1)⟩
def edgesTo (W H : Nat) : Nat → List Edge
  | 0 => []
  | n + 1 => edgesTo W H n ++ ((if n % W + 1 < W then [eE W H n] else []) ++ (if n / W + 1 < H then [eN W H n] else []))
def allE (W H : Nat) : List Edge := edgesTo W H (W * H)

section
variable {W H : Nat}
theorem fc_no {i j : Nat} (h : ¬ (0 < i ∧ i < W ∧ 0 < j ∧ j < H)) : fc W H i j = 0 := if_neg h
theorem fc_yes {i j : Nat} (h : 0 < i ∧ i < W ∧ 0 < j ∧ j < H) : fc W H i j = j * W + i := if_pos h
theorem fc_lt {i j : Nat} (hW : 0 < W) (hH : 0 < H) : fc W H i j < W * H := by
  by_cases h : 0 < i ∧ i < W ∧ 0 < j ∧ j < H
  · rw [fc_yes h]; exact ix_lt h.2.1 h.2.2.2
  · rw [fc_no h]; exact Nat.mul_pos hW hH
theorem mem_edgesTo {n : Nat} {e : Edge} : e ∈ edgesTo W H n ↔ ∃ k, k < n ∧ ((k % W + 1 < W ∧ e = eE W H k) ∨ (k / W + 1 < H ∧ e = eN W H k)) := by
  induction n with
  | zero => simp [edgesTo]
  | succ n ih =>
    rw [edgesTo, List.mem_append, List.mem_append, ih]
    have h1 : e ∈ (if n % W + 1 < W then [eE W H n] else []) ↔ n % W + 1 < W ∧ e = eE W H n := by
      by_cases h : n % W + 1 < W
      · rw [if_pos h]; simp [h]
      · rw [if_neg h]; exact ⟨fun x => by simp at x, fun x => absurd x.1 h⟩
    have h2 : e ∈ (if n / W + 1 < H then [eN W H n] else []) ↔ n / W + 1 < H ∧ e = eN W H n := by
      by_cases h : n / W + 1 < H
      · rw [if_pos h]; simp [h]
      · rw [if_neg h]; exact ⟨fun x => by simp at x, fun x => absurd x.1 h⟩
    rw [h1, h2]
    constructor
    · rintro (⟨k, hk, h⟩ | h)
      · exact ⟨k, by omega, h⟩
      · exact ⟨n, by omega, h⟩
    · rintro ⟨k, hk, h⟩
      by_cases e : k = n
      · subst e; exact .inr h
      · exact .inl ⟨k, by omega, h⟩
theorem mem_allE {e : Edge} : e ∈ allE W H ↔ ∃ k, k < W * H ∧ ((k % W + 1 < W ∧ e = eE W H k) ∨ (k / W + 1 < H ∧ e = eN W H k)) := mem_edgesTo
theorem east_in {k : Nat} (hk : k < W * H) (h : k % W + 1 < W) : k + 1 < W * H := by
  obtain ⟨x, y, hx, hy, rfl, h1, h2⟩ := ix_cases hk
  rw [h1] at h
  exact ix_lt (x := x + 1) h hy
theorem north_in {k : Nat} (hk : k < W * H) (h : k / W + 1 < H) : k + W < W * H := by
  obtain ⟨x, y, hx, hy, rfl, h1, h2⟩ := ix_cases hk
  rw [h2] at h
  have := ix_lt (x := x) (y := y + 1) hx h
  rw [Nat.add_mul] at this; omega
theorem allE_bd (hW : 0 < W) (hH : 0 < H) : ∀ e ∈ allE W H, (e.a < W * H ∧ e.b < W * H) ∧ (e.p < W * H ∧ e.q < W * H) := by
  intro e he
  obtain ⟨k, hk, ⟨h, rfl⟩ | ⟨h, rfl⟩⟩ := mem_allE.1 he
  · exact ⟨⟨hk, east_in hk h⟩, fc_lt hW hH, fc_lt hW hH⟩
  · exact ⟨⟨hk, north_in hk h⟩, fc_lt hW hH, fc_lt hW hH⟩
theorem parL_edges (n : Nat) (f : Edge → Bool) : parL (edgesTo W H n) f = par n (fun k => (decide (k % W + 1 < W) && f (eE W H k)) ^^ (decide (k / W + 1 < H) && f (eN W H k))) := by
  induction n with
  | zero => rfl
  | succ n ih =>
    rw [edgesTo, parL_app, parL_app, ih, par]
    by_cases h1 : n % W + 1 < W <;> by_cases h2 : n / W + 1 < H <;> simp [h1, h2, parL]
theorem allE_even (hW : 0 < W) : EvenL (W * H) (allE W H) := by
  intro v hv X
  unfold allE
  rw [parL_edges]
  obtain ⟨x, y, hx, hy, hvx, h1, h2⟩ := ix_cases hv
  let dE : Nat → Bool := fun k => X (fc W H (k % W + 1) (k / W)) ^^ X (fc W H (k % W + 1) (k / W + 1))
  let dN : Nat → Bool := fun k => X (fc W H (k % W) (k / W + 1)) ^^ X (fc W H (k % W + 1) (k / W + 1))
  have e0 : par (W * H) (fun k => (decide (k % W + 1 < W) && ((X (eE W H k).p ^^ X (eE W H k).q) && (decide ((eE W H k).a = v) ^^ decide ((eE W H k).b = v)))) ^^ (decide (k / W + 1 < H) && ((X (eN W H k).p ^^ X (eN W H k).q) && (decide ((eN W H k).a = v) ^^ decide ((eN W H k).b = v))))) =
      par (W * H) (fun k => ((dE k && decide (k = v)) ^^ (dE k && decide (k + 1 = v))) ^^ ((dN k && decide (k = v)) ^^ (dN k && decide (k + W = v)))) := par_congr fun k hk => by
    have a1 : (decide (k % W + 1 < W) && dE k) = dE k := by
      by_cases h : k % W + 1 < W
      · rw [decide_eq_true h]; simp
      · have : dE k = false := by
          show (X (fc W H (k % W + 1) (k / W)) ^^ X (fc W H (k % W + 1) (k / W + 1))) = false
          rw [fc_no (by omega), fc_no (by omega)]; simp
        rw [this]; simp
    have a2 : (decide (k / W + 1 < H) && dN k) = dN k := by
      by_cases h : k / W + 1 < H
      · rw [decide_eq_true h]; simp
      · have : dN k = false := by
          show (X (fc W H (k % W) (k / W + 1)) ^^ X (fc W H (k % W + 1) (k / W + 1))) = false
          rw [fc_no (by omega), fc_no (by omega)]; simp
        rw [this]; simp
    show ((decide (k % W + 1 < W) && (dE k && (decide (k = v) ^^ decide (k + 1 = v)))) ^^ (decide (k / W + 1 < H) && (dN k && (decide (k = v) ^^ decide (k + W = v))))) = _
    rw [← Bool.and_assoc, a1, ← Bool.and_assoc, a2]
    cases dE k <;> cases dN k <;> simp
  rw [e0, par_xor, par_xor, par_xor]
  have b1 : par (W * H) (fun k => dE k && decide (k = v)) = dE v := by
    rw [par_one _ v _ fun k _ hk => by rw [decide_eq_false hk]; simp]
    rw [decide_eq_true hv]; simp
  have b2 : par (W * H) (fun k => dN k && decide (k = v)) = dN v := by
    rw [par_one _ v _ fun k _ hk => by rw [decide_eq_false hk]; simp]
    rw [decide_eq_true hv]; simp
  have b3 : par (W * H) (fun k => dE k && decide (k + 1 = v)) = (X (fc W H x y) ^^ X (fc W H x (y + 1))) := by
    rcases Nat.eq_zero_or_pos v with e | e
    · rw [par_no _ _ fun k _ => by rw [decide_eq_false (by omega)]; simp]
      have : x = 0 := by rw [e] at h1; simpa using h1.symm
      subst this
      have a1 : fc W H 0 y = 0 := fc_no (by omega)
      have a2 : fc W H 0 (y + 1) = 0 := fc_no (by omega)
      simp [a1, a2]
    · rw [par_one _ (v - 1) _ fun k _ hk => by rw [decide_eq_false (by omega)]; simp, decide_eq_true (show v - 1 < W * H by omega), decide_eq_true (show v - 1 + 1 = v by omega)]
      simp only [Bool.true_and, Bool.and_true]
      show (X (fc W H ((v - 1) % W + 1) ((v - 1) / W)) ^^ X (fc W H ((v - 1) % W + 1) ((v - 1) / W + 1))) = _
      cases x with
      | zero =>
        rw [fc_no (i := 0) (by omega), fc_no (i := 0) (by omega)]
        have : (v - 1) % W + 1 = W := by
          cases y with
          | zero => omega
          | succ y =>
            rw [hvx, show (y + 1) * W + 0 - 1 = y * W + (W - 1) by rw [Nat.add_mul]; omega, ix_mod (by omega)]; omega
        have a1 : fc W H ((v - 1) % W + 1) ((v - 1) / W) = 0 := fc_no (by omega)
        have a2 : fc W H ((v - 1) % W + 1) ((v - 1) / W + 1) = 0 := fc_no (by omega)
        simp [a1, a2]
      | succ x =>
        have := ix_west (W := W) (x := x) (y := y) hx
        rw [hvx, this.1, this.2]
  have b4 : par (W * H) (fun k => dN k && decide (k + W = v)) = (X (fc W H x y) ^^ X (fc W H (x + 1) y)) := by
    cases y with
    | zero =>
      rw [par_no _ _ fun k _ => by rw [decide_eq_false (by omega)]; simp]
      rw [fc_no (by omega), fc_no (by omega)]; simp
    | succ y =>
      have hk : v - W = y * W + x := by rw [hvx]; exact ix_south
      have hvW : v = y * W + x + W := by rw [hvx, Nat.add_mul]; omega
      rw [par_one _ (v - W) _ fun k _ hk => by rw [decide_eq_false (by omega)]; simp, decide_eq_true (show v - W < W * H by omega), decide_eq_true (show v - W + W = v by omega)]
      simp only [Bool.true_and, Bool.and_true]
      show (X (fc W H ((v - W) % W) ((v - W) / W + 1)) ^^ X (fc W H ((v - W) % W + 1) ((v - W) / W + 1))) = _
      rw [hk, ix_mod hx, ix_div hx]
  rw [b1, b2, b3, b4]
  show ((((X (fc W H (v % W + 1) (v / W)) ^^ X (fc W H (v % W + 1) (v / W + 1))) ^^ (X (fc W H x y) ^^ X (fc W H x (y + 1)))) ^^ ((X (fc W H (v % W) (v / W + 1)) ^^ X (fc W H (v % W + 1) (v / W + 1))) ^^ (X (fc W H x y) ^^ X (fc W H (x + 1) y))))) = false
  rw [h1, h2]
  cases X (fc W H x y) <;> cases X (fc W H (x + 1) y) <;> cases X (fc W H x (y + 1)) <;> cases X (fc W H (x + 1) (y + 1)) <;> rfl

/-! ### all edges, and none -/
theorem cc_none {n : Nat} {E : Nat → Nat → Prop} (h : ∀ x y, ¬ E x y) : cc n E = n := by
  have : ∀ m, num m (fun k => least E k = k) = m := by
    intro m
    induction m with
    | zero => rfl
    | succ m ih =>
      rw [num_succ, ih, if_pos]
      refine least_is (.refl _) fun j hj => ?_
      have : j = m := by
        cases hj with
        | refl => rfl
        | step _ e => exact (h _ _ e).elim
      omega
  exact this n
theorem least_lone {E : Nat → Nat → Prop} {k : Nat} (hs : ∀ a b, E a b → E b a) (h : ∀ y, ¬ E k y) : least E k = k := by
  refine least_is (.refl _) fun j hj => ?_
  have hj := hj.symm hs
  cases hj with
  | refl => exact Nat.le_refl _
  | step _ e => exact (h _ (hs _ _ e)).elim
theorem cc_split {n : Nat} {E : Nat → Nat → Prop} (hs : ∀ a b, E a b → E b a) {P : Nat → Prop} (h : ∀ k, k < n → ¬ P k → ∀ y, ¬ E k y) : cc n E = num n (fun k => P k ∧ least E k = k) + num n (fun k => ¬ P k) := by
  unfold cc
  rw [← num_or fun k _ a b => b a.1]
  refine num_congr fun k hk => ?_
  by_cases hp : P k
  · simp [hp]
  · simp [hp, least_lone hs (h k hk hp)]
theorem on_east {k : Nat} (hk : k < W * H) (h : k % W + 1 < W) : onE (allE W H) (k + 1) k := ⟨eE W H k, mem_allE.2 ⟨k, hk, .inl ⟨h, rfl⟩⟩, .inr ⟨rfl, rfl⟩⟩
theorem on_north {k : Nat} (hk : k < W * H) (h : k / W + 1 < H) : onE (allE W H) (k + W) k := ⟨eN W H k, mem_allE.2 ⟨k, hk, .inr ⟨h, rfl⟩⟩, .inr ⟨rfl, rfl⟩⟩
theorem cc_all (hW : 0 < W) (hH : 0 < H) : cc (W * H) (onE (allE W H)) = 1 := by
  have h := num_single (n := W * H) (E := onE (allE W H)) (P := fun k => k < W * H) onE_symm (Nat.mul_pos hW hH) (Nat.mul_pos hW hH) (fun k hk h0 => by
    obtain ⟨x, y, hx, hy, rfl, h1, h2⟩ := ix_cases hk
    cases x with
    | zero =>
      cases y with
      | zero => simp at h0
      | succ y =>
        have hl : y * W + 0 < W * H := ix_lt hx (by omega)
        have := on_north (W := W) (H := H) hl (by rw [ix_div hx]; omega)
        rw [show y * W + 0 + W = (y + 1) * W + 0 by rw [Nat.add_mul]; omega] at this
        exact ⟨_, by rw [Nat.add_mul]; omega, hl, this⟩
    | succ x =>
      have hl : y * W + x < W * H := ix_lt (by omega) hy
      have := on_east (W := W) (H := H) hl (by rw [ix_mod (by omega)]; exact hx)
      exact ⟨y * W + x, by omega, hl, this⟩)
  unfold cc
  rw [← h]
  exact num_congr fun k hk => by simp [hk]
/-- The corners that are in use. -/
def usedB (W k : Nat) : Bool := decide (k = 0) || (decide (0 < k % W) && decide (0 < k / W))
theorem used_fc (hx : 0 < W) {i j : Nat} : usedB W (fc W H i j) = true := by
  by_cases h : 0 < i ∧ i < W ∧ 0 < j ∧ j < H
  · rw [fc_yes h]; simp [usedB, ix_mod h.2.1, ix_div h.2.1, h.1, h.2.2.1]
  · rw [fc_no h]; simp [usedB]
theorem used_ix {k : Nat} (hk : k < W * H) (h : usedB W k = true) : k = 0 ∨ (k = fc W H (k % W) (k / W) ∧ 0 < k % W ∧ 0 < k / W) := by
  unfold usedB at h
  simp only [Bool.or_eq_true, Bool.and_eq_true, decide_eq_true_eq] at h
  rcases h with h | h
  · exact .inl h
  · exact .inr ⟨by rw [fc_yes ⟨h.1, ix_col hk, h.2, ix_row hk⟩]; exact (ix_of k).symm, h.1, h.2⟩
theorem allD_used (hW : 0 < W) {p q : Nat} (h : onD (allE W H) p q) : usedB W p = true ∧ usedB W q = true := by
  obtain ⟨e, he, g⟩ := h
  obtain ⟨k, _, ⟨_, rfl⟩ | ⟨_, rfl⟩⟩ := mem_allE.1 he <;> rcases g with ⟨rfl, rfl⟩ | ⟨rfl, rfl⟩ <;> exact ⟨used_fc hW, used_fc hW⟩
theorem on_rim {i j : Nat} (hi : i + 1 < W) (hj : j + 1 < H) : onD (allE W H) (fc W H (i + 1) (j + 1)) (fc W H i (j + 1)) := by
  refine ⟨eN W H (j * W + i), mem_allE.2 ⟨_, ix_lt (by omega) (by omega), .inr ⟨by rw [ix_div (by omega)]; exact hj, rfl⟩⟩, .inr ⟨?_, ?_⟩⟩
  · show fc W H ((j * W + i) % W) ((j * W + i) / W + 1) = _
    rw [ix_div (by omega), ix_mod (by omega)]
  · show fc W H ((j * W + i) % W + 1) ((j * W + i) / W + 1) = _
    rw [ix_div (by omega), ix_mod (by omega)]
theorem cc_allD (hW : 0 < W) (hH : 0 < H) : cc (W * H) (onD (allE W H)) = 1 + num (W * H) (fun k => ¬ usedB W k = true) := by
  rw [cc_split onD_symm (P := fun k => usedB W k = true) fun k _ hk y h => hk (allD_used hW h).1]
  congr 1
  have h := num_single (n := W * H) (E := onD (allE W H)) (P := fun k => usedB W k = true ∧ k < W * H) onD_symm (Nat.mul_pos hW hH) ⟨by simp [usedB], Nat.mul_pos hW hH⟩ (fun k hk h0 => by
    rcases used_ix hk.2 hk.1 with e | ⟨e, hi, hj⟩
    · exact absurd e h0
    · obtain ⟨i, hi'⟩ : ∃ i, k % W = i + 1 := ⟨k % W - 1, by omega⟩
      obtain ⟨j, hj'⟩ : ∃ j, k / W = j + 1 := ⟨k / W - 1, by omega⟩
      have c1 := ix_col hk.2
      have c2 := ix_row hk.2
      rw [hi', hj'] at e
      have hr := on_rim (W := W) (H := H) (i := i) (j := j) (by omega) (by omega)
      rw [← e] at hr
      refine ⟨_, ?_, ⟨used_fc hW, fc_lt hW hH⟩, hr⟩
      rw [e, fc_yes (i := i + 1) (j := j + 1) (by omega)]
      by_cases h : 0 < i
      · rw [fc_yes (i := i) (j := j + 1) (by omega)]; omega
      · rw [fc_no (i := i) (j := j + 1) (by omega)]; omega)
  rw [← h]
  exact num_congr fun k hk => by simp [hk]
theorem num_filter (n : Nat) (Q : Nat → Bool) : num n (fun k => Q k = true) = ((List.range n).filter Q).length := by
  induction n with
  | zero => rfl
  | succ n ih => rw [num_succ, ih, List.range_succ, List.filter_append]; by_cases h : Q n = true <;> simp [h]
set_option maxRecDepth 100000 in
theorem count_all : ∀ W, W < 9 → ∀ H, H < 9 → 3 ≤ W → 3 ≤ H → (allE W H).length + ((List.range (W * H)).filter (fun k => !usedB W k)).length + 2 = 2 * (W * H) := by decide +kernel
theorem eul_ends (hW : 3 ≤ W) (hH : 3 ≤ H) (hW8 : W ≤ 8) (hH8 : H ≤ 8) : eul (W * H) (W * H) [] (allE W H) = eul (W * H) (W * H) (allE W H) [] := by
  unfold eul
  rw [cc_none (E := onE []) (fun x y ⟨e, h, _⟩ => by simp at h), cc_none (E := onD []) (fun x y ⟨e, h, _⟩ => by simp at h), cc_all (by omega) (by omega), cc_allD (by omega) (by omega)]
  have h1 := count_all W (by omega) H (by omega) hW hH
  have h2 : num (W * H) (fun k => ¬ usedB W k = true) = ((List.range (W * H)).filter (fun k => !usedB W k)).length := by
    rw [← num_filter]; exact num_congr fun k _ => by simp
  rw [h2]
  simp only [List.length_nil]
  omega
end
end Domi

/- Parts less holes: cells, less pairs side by side, and squares of four. Plain. -/
set_option linter.unusedVariables false
namespace Domi

section
variable {n m : Nat} {E F : Nat → Nat → Prop} {P Q : Nat → Prop} {f g : Nat → Nat}
theorem classes_le (sE : ∀ a b, E a b → E b a) (sF : ∀ a b, F a b → F b a) (hQ : ∀ b, Q b → b < m) (hf : ∀ a, P a → Q (f a)) (cQ : ∀ a b, F a b → Q a → Q b) (hF : ∀ a b, F a b → Q a → Conn E (g a) (g b)) (hgf : ∀ a, P a → Conn E (g (f a)) a) :
    num n (fun k => P k ∧ least E k = k) ≤ num m (fun k => Q k ∧ least F k = k) := by
  have hq : ∀ a b, Conn F a b → Q a → Q b := fun a b h ha => h.stays (Q := Q) cQ ha
  have hc : ∀ a b, Conn F a b → Q a → Conn E (g a) (g b) := fun a b h => by
    induction h with
    | refl => exact fun _ => .refl _
    | step h0 e ih => exact fun ha => (ih ha).trans (hF _ _ e (hq _ _ h0 ha))
  refine num_inj (fun k => least F (f k)) (fun k hk hp => ?_) (fun k j hk hj hp hp' e => ?_)
  · have h1 := hq _ _ (least_conn F (f k)) (hf k hp.1)
    exact ⟨hQ _ h1, h1, least_idem sF _⟩
  · have h1 := hc _ _ ((conn_iff sF).2 e) (hf k hp.1)
    have h2 := ((hgf k hp.1).symm sE).trans (h1.trans (hgf j hp'.1))
    rw [← hp.2, ← hp'.2]; exact least_eq sE h2
theorem num_classes (sE : ∀ a b, E a b → E b a) (sF : ∀ a b, F a b → F b a) (hP : ∀ a, P a → a < n) (hQ : ∀ b, Q b → b < m) (hf : ∀ a, P a → Q (f a)) (hg : ∀ b, Q b → P (g b)) (cP : ∀ a b, E a b → P a → P b) (cQ : ∀ a b, F a b → Q a → Q b)
    (hE : ∀ a b, E a b → P a → Conn F (f a) (f b)) (hF : ∀ a b, F a b → Q a → Conn E (g a) (g b)) (hgf : ∀ a, P a → Conn E (g (f a)) a) (hfg : ∀ b, Q b → Conn F (f (g b)) b) :
    num n (fun k => P k ∧ least E k = k) = num m (fun k => Q k ∧ least F k = k) :=
  Nat.le_antisymm (classes_le sE sF hQ hf cQ hF hgf) (classes_le sF sE hP hg cP hE hfg)
end

/-- The place z lies at the corner p. -/
def Touch (W H z p : Nat) : Prop := ∃ i j, (i = z % W ∨ i = z % W + 1) ∧ (j = z / W ∨ j = z / W + 1) ∧ p = fc W H i j
def G8 (W H : Nat) (c : Nat → Bool) (a b : Nat) : Prop := a < W * H ∧ b < W * H ∧ c a = false ∧ c b = false ∧ (a % W ≤ b % W + 1 ∧ b % W ≤ a % W + 1) ∧ (a / W ≤ b / W + 1 ∧ b / W ≤ a / W + 1)
def G4 (W H : Nat) (c : Nat → Bool) (a b : Nat) : Prop := a < W * H ∧ b < W * H ∧ c a = true ∧ c b = true ∧ ((b = a + 1 ∧ a % W + 1 < W) ∨ (a = b + 1 ∧ b % W + 1 < W) ∨ b = a + W ∨ a = b + W)
def RimC (W H z : Nat) : Prop := z % W = 0 ∨ z % W + 1 = W ∨ z / W = 0 ∨ z / W + 1 = H
def sS (c : Nat → Bool) (e : Edge) : Bool := c e.a && c e.b
def fourB (W : Nat) (c : Nat → Bool) (k : Nat) : Bool := c k && c (k - 1) && c (k - W) && c (k - W - 1)
def fcell (W : Nat) (c : Nat → Bool) (k : Nat) : Nat := if k = 0 then 0 else if c k = false then k else if c (k - 1) = false then k - 1 else if c (k - W) = false then k - W else k - W - 1

section
variable {W H : Nat} {c : Nat → Bool}
theorem G8.symm : ∀ a b, G8 W H c a b → G8 W H c b a := fun _ _ ⟨a, b, h, i, j, k⟩ => ⟨b, a, i, h, j.symm, k.symm⟩
theorem edge_touch {e : Edge} (he : e ∈ allE W H) : (Touch W H e.a e.p ∧ Touch W H e.a e.q) ∧ (Touch W H e.b e.p ∧ Touch W H e.b e.q) := by
  obtain ⟨k, hk, ⟨h, rfl⟩ | ⟨h, rfl⟩⟩ := mem_allE.1 he
  · obtain ⟨x, y, hx, hy, hkx, h1, h2⟩ := ix_cases hk
    have h3 : (k + 1) % W = x + 1 := by rw [hkx, Nat.add_assoc]; exact ix_mod (by omega)
    have h4 : (k + 1) / W = y := by rw [hkx, Nat.add_assoc]; exact ix_div (by omega)
    refine ⟨⟨⟨k % W + 1, k / W, .inr rfl, .inl rfl, rfl⟩, ⟨k % W + 1, k / W + 1, .inr rfl, .inr rfl, rfl⟩⟩, ⟨k % W + 1, k / W, .inl ?_, .inl ?_, rfl⟩, ⟨k % W + 1, k / W + 1, .inl ?_, .inr ?_, rfl⟩⟩
    · show k % W + 1 = (k + 1) % W; omega
    · show k / W = (k + 1) / W; omega
    · show k % W + 1 = (k + 1) % W; omega
    · show k / W + 1 = (k + 1) / W + 1; omega
  · obtain ⟨x, y, hx, hy, hkx, h1, h2⟩ := ix_cases hk
    have hs : k + W = (y + 1) * W + x := by rw [hkx, Nat.add_mul]; omega
    have h3 : (k + W) % W = x := by rw [hs]; exact ix_mod hx
    have h4 : (k + W) / W = y + 1 := by rw [hs]; exact ix_div hx
    refine ⟨⟨⟨k % W, k / W + 1, .inl rfl, .inr rfl, rfl⟩, ⟨k % W + 1, k / W + 1, .inr rfl, .inr rfl, rfl⟩⟩, ⟨k % W, k / W + 1, .inl ?_, .inl ?_, rfl⟩, ⟨k % W + 1, k / W + 1, .inr ?_, .inl ?_, rfl⟩⟩
    · show k % W = (k + W) % W; omega
    · show k / W + 1 = (k + W) / W; omega
    · show k % W + 1 = (k + W) % W + 1; omega
    · show k / W + 1 = (k + W) / W; omega
theorem fc_inj {i j i' j' : Nat} (h : fc W H i j = fc W H i' j') (h0 : fc W H i j ≠ 0) : i = i' ∧ j = j' ∧ (0 < i ∧ i < W ∧ 0 < j ∧ j < H) := by
  by_cases h1 : 0 < i ∧ i < W ∧ 0 < j ∧ j < H
  · by_cases h2 : 0 < i' ∧ i' < W ∧ 0 < j' ∧ j' < H
    · rw [fc_yes h1, fc_yes h2] at h
      have e1 := ix_mod (y := j) h1.2.1
      have e2 := ix_mod (y := j') h2.2.1
      have e3 := ix_div (y := j) h1.2.1
      have e4 := ix_div (y := j') h2.2.1
      rw [h] at e1 e3
      exact ⟨by omega, by omega, h1⟩
    · rw [fc_no h2] at h; exact absurd h h0
  · exact absurd (fc_no h1) h0
theorem fc_zero {i j : Nat} (h : fc W H i j = 0) : ¬ (0 < i ∧ i < W ∧ 0 < j ∧ j < H) := fun h1 => by rw [fc_yes h1] at h; omega
/-- The four places at an inner corner. -/
theorem four_at {i j z : Nat} (h : 0 < i ∧ i < W ∧ 0 < j ∧ j < H) (hz : z < W * H) (hx : i = z % W ∨ i = z % W + 1) (hy : j = z / W ∨ j = z / W + 1) :
    z = j * W + i ∨ z = j * W + i - 1 ∨ z = j * W + i - W ∨ z = j * W + i - W - 1 := by
  obtain ⟨x, y, hx', hy', hzx, h1, h2⟩ := ix_cases hz
  rw [h1] at hx
  rw [h2] at hy
  rcases hx with rfl | rfl <;> rcases hy with rfl | rfl
  · exact .inl hzx
  · exact .inr (.inr (.inl (by rw [Nat.add_mul]; omega)))
  · exact .inr (.inl (by omega))
  · exact .inr (.inr (.inr (by rw [Nat.add_mul]; omega)))

/-- No place at the rim belongs to the set. -/
def Ringed (W H : Nat) (c : Nat → Bool) : Prop := ∀ k, c k = true → k < W * H ∧ (0 < k % W ∧ k % W + 1 < W) ∧ (0 < k / W ∧ k / W + 1 < H)
theorem Ringed.rim (hr : Ringed W H c) {z : Nat} (h : RimC W H z) : c z = false := by
  cases e : c z
  · rfl
  · have := hr z e; unfold RimC at h; omega
theorem full_touch (hr : Ringed W H c) {p z : Nat} (hp : fourB W c p = true) (hz : z < W * H) (h : Touch W H z p) : c z = true := by
  unfold fourB at hp
  simp only [Bool.and_eq_true] at hp
  obtain ⟨⟨⟨h1, h2⟩, h3⟩, h4⟩ := hp
  obtain ⟨i, j, hx, hy, e⟩ := h
  have hp0 := hr p h1
  have hne : p ≠ 0 := by rintro rfl; simp at hp0
  rw [e] at hne
  obtain ⟨_, _, hin⟩ := fc_inj rfl hne
  rw [fc_yes hin] at e
  rcases four_at hin hz hx hy with g | g | g | g <;> rw [g, ← e] <;> assumption
theorem ring_conn (hr : Ringed W H c) (hW : 0 < W) (hH : 0 < H) : ∀ z, z < W * H → RimC W H z → Conn (G8 W H c) z 0 := by
  intro z
  induction z using Nat.strongRecOn with
  | _ z ih =>
    intro hz hR
    have hc := hr.rim hR
    obtain ⟨x, y, hx, hy, hzx, h1, h2⟩ := ix_cases hz
    have west : ∀ x', x = x' + 1 → RimC W H (y * W + x') → Conn (G8 W H c) z 0 := by
      rintro x' rfl hR'
      have hl : y * W + x' < W * H := ix_lt (by omega) hy
      refine (Conn.one ⟨hz, hl, hc, hr.rim hR', ?_, ?_⟩).trans (ih (y * W + x') (by omega) hl hR')
      · rw [h1, ix_mod (by omega)]; omega
      · rw [h2, ix_div (by omega)]; omega
    have south : ∀ y', y = y' + 1 → RimC W H (y' * W + x) → Conn (G8 W H c) z 0 := by
      rintro y' rfl hR'
      have hl : y' * W + x < W * H := ix_lt hx (by omega)
      refine (Conn.one ⟨hz, hl, hc, hr.rim hR', ?_, ?_⟩).trans (ih (y' * W + x) (by rw [hzx, Nat.add_mul]; omega) hl hR')
      · rw [h1, ix_mod hx]; omega
      · rw [h2, ix_div hx]; omega
    unfold RimC at hR
    rw [h1, h2] at hR
    rcases Nat.eq_zero_or_pos y with hy0 | hy0
    · rcases Nat.eq_zero_or_pos x with hx0 | hx0
      · have : z = 0 := by rw [hzx, hy0, hx0]; simp
        rw [this]; exact .refl _
      · exact west (x - 1) (by omega) (.inr (.inr (.inl (by rw [ix_div (by omega)]; exact hy0))))
    · rcases Nat.eq_zero_or_pos x with hx0 | hx0
      · exact south (y - 1) (by omega) (.inl (by rw [ix_mod hx]; exact hx0))
      · by_cases hyH : y + 1 = H
        · exact west (x - 1) (by omega) (.inr (.inr (.inr (by rw [ix_div (by omega)]; exact hyH))))
        · exact south (y - 1) (by omega) (.inr (.inl (by rw [ix_mod hx]; omega)))
/-- Is a corner in use, and not the middle of four cells? -/
def NF (W H : Nat) (c : Nat → Bool) (p : Nat) : Prop := p < W * H ∧ usedB W p = true ∧ fourB W c p = false
theorem fcell_at (hr : Ringed W H c) (hW : 0 < W) (hH : 0 < H) {p : Nat} (h : NF W H c p) : fcell W c p < W * H ∧ c (fcell W c p) = false ∧ Touch W H (fcell W c p) p := by
  obtain ⟨hp, hu, hf⟩ := h
  have h00 : c 0 = false := hr.rim (.inl (Nat.zero_mod _))
  rcases used_ix hp hu with rfl | ⟨e, hi, hj⟩
  · refine ⟨Nat.mul_pos hW hH, h00, 0, 0, .inl ?_, .inl ?_, ?_⟩
    · simp [fcell]
    · simp [fcell]
    · rw [fc_no (by omega)]
  · have c1 := ix_col hp
    have c2 := ix_row hp
    have hne : p ≠ 0 := by rintro rfl; simp at hi
    obtain ⟨i, j, rfl, i1, j1⟩ : ∃ i j, p = (j + 1) * W + (i + 1) ∧ p % W = i + 1 ∧ p / W = j + 1 := ⟨p % W - 1, p / W - 1, by
      rw [show p / W - 1 + 1 = p / W by omega, show p % W - 1 + 1 = p % W by omega]; exact (ix_of p).symm, by omega, by omega⟩
    rw [i1] at c1
    rw [j1] at c2
    have hfc : (j + 1) * W + (i + 1) = fc W H (i + 1) (j + 1) := (fc_yes ⟨by omega, c1, by omega, c2⟩).symm
    have eW : (j + 1) * W + (i + 1) - 1 = (j + 1) * W + i := by omega
    have eS : (j + 1) * W + (i + 1) - W = j * W + (i + 1) := by rw [Nat.add_mul]; omega
    have eSW : (j + 1) * W + (i + 1) - W - 1 = j * W + i := by rw [Nat.add_mul]; omega
    unfold fcell
    rw [if_neg hne]
    unfold fourB at hf
    rw [eSW, eS, eW] at hf ⊢
    by_cases h1 : c ((j + 1) * W + (i + 1)) = false
    · rw [if_pos h1]
      exact ⟨hp, h1, i + 1, j + 1, .inl i1.symm, .inl j1.symm, hfc⟩
    · rw [if_neg h1]
      by_cases h2 : c ((j + 1) * W + i) = false
      · rw [if_pos h2]
        exact ⟨ix_lt (by omega) c2, h2, i + 1, j + 1, .inr (by rw [ix_mod (by omega)]), .inl (by rw [ix_div (by omega)]), hfc⟩
      · rw [if_neg h2]
        by_cases h3 : c (j * W + (i + 1)) = false
        · rw [if_pos h3]
          exact ⟨ix_lt (by omega) (by omega), h3, i + 1, j + 1, .inl (by rw [ix_mod (by omega)]), .inr (by rw [ix_div (by omega)]), hfc⟩
        · rw [if_neg h3]
          simp only [Bool.not_eq_false] at h1 h2 h3
          rw [h1, h2, h3] at hf
          exact ⟨ix_lt (by omega) (by omega), by simpa using hf, i + 1, j + 1, .inr (by rw [ix_mod (by omega)]), .inr (by rw [ix_div (by omega)]), hfc⟩
theorem touch_conn (hr : Ringed W H c) (hW : 0 < W) (hH : 0 < H) {z p : Nat} (hz : z < W * H) (hc : c z = false) (hp : NF W H c p) (ht : Touch W H z p) : Conn (G8 W H c) z (fcell W c p) := by
  obtain ⟨f1, f2, f3⟩ := fcell_at hr hW hH hp
  obtain ⟨i, j, hx, hy, e⟩ := ht
  by_cases h0 : p = 0
  · have hcell : fcell W c p = 0 := by subst h0; simp [fcell]
    rw [hcell]
    refine ring_conn hr hW hH z hz ?_
    have := fc_zero (e ▸ h0)
    have c1 := ix_col hz
    have c2 := ix_row hz
    unfold RimC
    generalize z % W = x at *
    generalize z / W = y at *
    omega
  · obtain ⟨i', j', hx', hy', e'⟩ := f3
    obtain ⟨e1, e2, _⟩ := fc_inj (e.symm.trans e') (by rw [← e]; exact h0)
    subst e1; subst e2
    exact Conn.one ⟨hz, f1, hc, f2, by omega, by omega⟩
/-- The edges that do not join two cells of the set. -/
def restE (W H : Nat) (c : Nat → Bool) : List Edge := (allE W H).filter fun e => !sS c e
def setE (W H : Nat) (c : Nat → Bool) : List Edge := (allE W H).filter (sS c)
theorem mem_rest {e : Edge} : e ∈ restE W H c ↔ e ∈ allE W H ∧ (c e.a = false ∨ c e.b = false) := by
  unfold restE sS; rw [List.mem_filter]; cases c e.a <;> cases c e.b <;> simp
theorem mem_set {e : Edge} : e ∈ setE W H c ↔ e ∈ allE W H ∧ c e.a = true ∧ c e.b = true := by
  unfold setE sS; rw [List.mem_filter]; cases c e.a <;> cases c e.b <;> simp
theorem rest_touch (hW : 0 < W) (hH : 0 < H) {p q : Nat} (h : onD (restE W H c) p q) : ∃ z, z < W * H ∧ c z = false ∧ Touch W H z p ∧ Touch W H z q := by
  obtain ⟨e, he, g⟩ := h
  obtain ⟨h1, h2⟩ := mem_rest.1 he
  have hb := allE_bd hW hH e h1
  obtain ⟨⟨t1, t2⟩, t3, t4⟩ := edge_touch h1
  rcases h2 with h2 | h2
  · rcases g with ⟨rfl, rfl⟩ | ⟨rfl, rfl⟩
    · exact ⟨e.a, hb.1.1, h2, t1, t2⟩
    · exact ⟨e.a, hb.1.1, h2, t2, t1⟩
  · rcases g with ⟨rfl, rfl⟩ | ⟨rfl, rfl⟩
    · exact ⟨e.b, hb.1.2, h2, t3, t4⟩
    · exact ⟨e.b, hb.1.2, h2, t4, t3⟩
theorem around (hW : 0 < W) {z p : Nat} (hz : z < W * H) (hc : c z = false) (ht : Touch W H z p) : Conn (onD (restE W H c)) (fc W H (z % W + 1) (z / W + 1)) p := by
  obtain ⟨x, y, hx, hy, hzx, h1, h2⟩ := ix_cases hz
  obtain ⟨i, j, hi, hj, rfl⟩ := ht
  rw [h1] at hi ⊢
  rw [h2] at hj ⊢
  have cE : Conn (onD (restE W H c)) (fc W H (x + 1) (y + 1)) (fc W H (x + 1) y) := by
    by_cases h : x + 1 < W
    · refine Conn.one ⟨eE W H z, mem_rest.2 ⟨mem_allE.2 ⟨z, hz, .inl ⟨by omega, rfl⟩⟩, .inl hc⟩, .inr ⟨?_, ?_⟩⟩
      · show fc W H (z % W + 1) (z / W) = _; rw [h1, h2]
      · show fc W H (z % W + 1) (z / W + 1) = _; rw [h1, h2]
    · rw [fc_no (by omega), fc_no (by omega)]; exact .refl _
  have cN : Conn (onD (restE W H c)) (fc W H (x + 1) (y + 1)) (fc W H x (y + 1)) := by
    by_cases h : y + 1 < H
    · refine Conn.one ⟨eN W H z, mem_rest.2 ⟨mem_allE.2 ⟨z, hz, .inr ⟨by omega, rfl⟩⟩, .inl hc⟩, .inr ⟨?_, ?_⟩⟩
      · show fc W H (z % W) (z / W + 1) = _; rw [h1, h2]
      · show fc W H (z % W + 1) (z / W + 1) = _; rw [h1, h2]
    · rw [fc_no (by omega), fc_no (by omega)]; exact .refl _
  have cW : Conn (onD (restE W H c)) (fc W H x (y + 1)) (fc W H x y) := by
    cases x with
    | zero => rw [fc_no (by omega), fc_no (by omega)]; exact .refl _
    | succ x =>
      have hl : y * W + x < W * H := ix_lt (by omega) hy
      refine Conn.one ⟨eE W H (y * W + x), mem_rest.2 ⟨mem_allE.2 ⟨_, hl, .inl ⟨by rw [ix_mod (by omega)]; exact hx, rfl⟩⟩, .inr ?_⟩, .inr ⟨?_, ?_⟩⟩
      · show c (y * W + x + 1) = false; rw [Nat.add_assoc, ← hzx]; exact hc
      · show fc W H ((y * W + x) % W + 1) ((y * W + x) / W) = _; rw [ix_mod (by omega), ix_div (by omega)]
      · show fc W H ((y * W + x) % W + 1) ((y * W + x) / W + 1) = _; rw [ix_mod (by omega), ix_div (by omega)]
  rcases hi with rfl | rfl <;> rcases hj with rfl | rfl
  · exact cN.trans cW
  · exact cN
  · exact cE
  · exact .refl _
theorem full_lone (hr : Ringed W H c) (hW : 0 < W) (hH : 0 < H) {k : Nat} (h : ¬ NF W H c k) (hk : k < W * H) : ∀ y, ¬ onD (restE W H c) k y := by
  intro y hy
  obtain ⟨z, hz, hc, t1, t2⟩ := rest_touch hW hH hy
  have hu : usedB W k = true := by
    obtain ⟨i, j, _, _, e⟩ := t1
    rw [e]; exact used_fc hW
  have hf : fourB W c k = true := by
    cases e : fourB W c k
    · exact absurd ⟨hk, hu, e⟩ h
    · rfl
  rw [full_touch hr hf hz t1] at hc; cases hc
theorem faces_same (hr : Ringed W H c) (hW : 0 < W) (hH : 0 < H) : num (W * H) (fun k => NF W H c k ∧ least (onD (restE W H c)) k = k) = num (W * H) (fun k => (k < W * H ∧ c k = false) ∧ least (G8 W H c) k = k) := by
  have nf : ∀ z, z < W * H → c z = false → NF W H c (fc W H (z % W + 1) (z / W + 1)) := fun z hz hc => by
    refine ⟨fc_lt hW hH, used_fc hW, ?_⟩
    cases e : fourB W c (fc W H (z % W + 1) (z / W + 1))
    · rfl
    · rw [full_touch hr e hz ⟨_, _, .inr rfl, .inr rfl, rfl⟩] at hc; cases hc
  have near : ∀ p q, onD (restE W H c) p q → NF W H c p → NF W H c q := fun p q h hp => by
    refine Classical.byContradiction fun hn => ?_
    have hq : q < W * H := by
      obtain ⟨z, hz, hc, t1, i, j, _, _, e⟩ := rest_touch hW hH h
      rw [e]; exact fc_lt hW hH
    exact full_lone hr hW hH hn hq _ (onD_symm _ _ h)
  refine num_classes (f := fcell W c) (g := fun z => fc W H (z % W + 1) (z / W + 1)) onD_symm G8.symm (fun a h => h.1) (fun a h => h.1) (fun a h => ⟨(fcell_at hr hW hH h).1, (fcell_at hr hW hH h).2.1⟩) (fun z h => nf z h.1 h.2) near (fun a b e _ => ⟨e.2.1, e.2.2.2.1⟩) ?_ ?_ ?_ ?_
  · intro p q h hp
    obtain ⟨z, hz, hc, t1, t2⟩ := rest_touch hW hH h
    exact ((touch_conn hr hW hH hz hc hp t1).symm G8.symm).trans (touch_conn hr hW hH hz hc (near p q h hp) t2)
  · rintro a b ⟨ha, hb, ca, cb, hx, hy⟩ _
    have ta : Touch W H a (fc W H (max (a % W) (b % W)) (max (a / W) (b / W))) := ⟨_, _, by omega, by omega, rfl⟩
    have tb : Touch W H b (fc W H (max (a % W) (b % W)) (max (a / W) (b / W))) := ⟨_, _, by omega, by omega, rfl⟩
    exact (around hW ha ca ta).trans ((around hW hb cb tb).symm onD_symm)
  · intro p hp
    obtain ⟨f1, f2, f3⟩ := fcell_at hr hW hH hp
    exact around hW f1 f2 f3
  · intro z hz
    exact (touch_conn hr hW hH hz.1 hz.2 (nf z hz.1 hz.2) ⟨_, _, .inr rfl, .inr rfl, rfl⟩).symm G8.symm
theorem ccD_rest (hr : Ringed W H c) (hW : 0 < W) (hH : 0 < H) : cc (W * H) (onD (restE W H c)) = num (W * H) (fun k => (k < W * H ∧ c k = false) ∧ least (G8 W H c) k = k) + (num (W * H) (fun k => ¬ usedB W k = true) + num (W * H) (fun k => fourB W c k = true)) := by
  have e2 : num (W * H) (fun k => ¬ NF W H c k) = num (W * H) (fun k => ¬ usedB W k = true) + num (W * H) (fun k => fourB W c k = true) := by
    rw [← num_or]
    · refine num_congr fun k hk => ?_
      unfold NF
      cases hu : usedB W k <;> cases hf : fourB W c k <;> simp [hk]
    · intro k hk hu hf
      apply hu
      unfold fourB at hf
      simp only [Bool.and_eq_true] at hf
      have := hr k hf.1.1.1
      unfold usedB
      simp [this.2.1.1, this.2.2.1]
  rw [cc_split onD_symm (P := NF W H c) fun k hk hn => full_lone hr hW hH hn hk, faces_same hr hW hH, e2]
/-! ### the edges of the set -/
theorem onE_set {a b : Nat} : onE (setE W H c) a b ↔ G4 W H c a b := by
  constructor
  · rintro ⟨e, he, g⟩
    obtain ⟨h1, h2, h3⟩ := mem_set.1 he
    obtain ⟨k, hk, ⟨h, rfl⟩ | ⟨h, rfl⟩⟩ := mem_allE.1 h1
    · have hl := east_in hk h
      rcases g with ⟨rfl, rfl⟩ | ⟨rfl, rfl⟩
      · exact ⟨hk, hl, h2, h3, .inl ⟨rfl, h⟩⟩
      · exact ⟨hl, hk, h3, h2, .inr (.inl ⟨rfl, h⟩)⟩
    · have hl := north_in hk h
      rcases g with ⟨rfl, rfl⟩ | ⟨rfl, rfl⟩
      · exact ⟨hk, hl, h2, h3, .inr (.inr (.inl rfl))⟩
      · exact ⟨hl, hk, h3, h2, .inr (.inr (.inr rfl))⟩
  · rintro ⟨ha, hb, ca, cb, h⟩
    have up : ∀ k, k < W * H → k + W < W * H → k / W + 1 < H := fun k hk h => by
      have hW : 0 < W := by
        rcases Nat.eq_zero_or_pos W with e | e
        · subst e; simp at hk
        · exact e
      have := ix_row h
      rwa [Nat.add_div_right _ hW] at this
    rcases h with ⟨rfl, h⟩ | ⟨rfl, h⟩ | rfl | rfl
    · exact ⟨eE W H a, mem_set.2 ⟨mem_allE.2 ⟨a, ha, .inl ⟨h, rfl⟩⟩, ca, cb⟩, .inl ⟨rfl, rfl⟩⟩
    · exact ⟨eE W H b, mem_set.2 ⟨mem_allE.2 ⟨b, hb, .inl ⟨h, rfl⟩⟩, cb, ca⟩, .inr ⟨rfl, rfl⟩⟩
    · exact ⟨eN W H a, mem_set.2 ⟨mem_allE.2 ⟨a, ha, .inr ⟨up a ha hb, rfl⟩⟩, ca, cb⟩, .inl ⟨rfl, rfl⟩⟩
    · exact ⟨eN W H b, mem_set.2 ⟨mem_allE.2 ⟨b, hb, .inr ⟨up b hb ha, rfl⟩⟩, cb, ca⟩, .inr ⟨rfl, rfl⟩⟩
theorem ccE_set : cc (W * H) (onE (setE W H c)) = num (W * H) (fun k => c k = true ∧ least (G4 W H c) k = k) + num (W * H) (fun k => ¬ c k = true) := by
  have e : onE (setE W H c) = G4 W H c := funext fun a => funext fun b => propext onE_set
  rw [cc_split onE_symm (P := fun k => c k = true) fun k hk hn y h => hn (onE_set.1 h).2.2.1, e]
theorem set_len (n : Nat) : ((edgesTo W H n).filter (sS c)).length = num n (fun k => k % W + 1 < W ∧ (c k = true ∧ c (k + 1) = true)) + num n (fun k => k / W + 1 < H ∧ (c k = true ∧ c (k + W) = true)) := by
  induction n with
  | zero => rfl
  | succ n ih =>
    rw [edgesTo, List.filter_append, List.length_append, ih, num_succ, num_succ, List.filter_append, List.length_append]
    have h1 : ((if n % W + 1 < W then [eE W H n] else []).filter (sS c)).length = (open Classical in if n % W + 1 < W ∧ (c n = true ∧ c (n + 1) = true) then 1 else 0) := by
      by_cases h : n % W + 1 < W
      · rw [if_pos h]
        have : sS c (eE W H n) = (c n && c (n + 1)) := rfl
        cases hn : c n <;> cases hm : c (n + 1) <;> simp [this, hn, hm, h]
      · rw [if_neg h, if_neg (by omega)]; rfl
    have h2 : ((if n / W + 1 < H then [eN W H n] else []).filter (sS c)).length = (open Classical in if n / W + 1 < H ∧ (c n = true ∧ c (n + W) = true) then 1 else 0) := by
      by_cases h : n / W + 1 < H
      · rw [if_pos h]
        have : sS c (eN W H n) = (c n && c (n + W)) := rfl
        cases hn : c n <;> cases hm : c (n + W) <;> simp [this, hn, hm, h]
      · rw [if_neg h, if_neg (by omega)]; rfl
    rw [h1, h2]
    by_cases a : n % W + 1 < W ∧ (c n = true ∧ c (n + 1) = true) <;> by_cases b : n / W + 1 < H ∧ (c n = true ∧ c (n + W) = true) <;> simp only [if_neg, a, b, not_false_eq_true] <;> omega
theorem set_length (hr : Ringed W H c) : (setE W H c).length = num (W * H) (fun k => c k = true ∧ c (k + 1) = true) + num (W * H) (fun k => c k = true ∧ c (k + W) = true) := by
  unfold setE allE
  rw [set_len]
  congr 1
  · exact num_congr fun k _ => ⟨fun h => h.2, fun h => ⟨(hr k h.1).2.1.2, h⟩⟩
  · exact num_congr fun k _ => ⟨fun h => h.2, fun h => ⟨(hr k h.1).2.2.2, h⟩⟩
theorem full_shift (hr : Ringed W H c) : num (W * H) (fun k => fourB W c k = true) = num (W * H) (fun k => c k = true ∧ c (k + 1) = true ∧ c (k + W) = true ∧ c (k + W + 1) = true) := by
  have e : ∀ k, fourB W c k = true ↔ c k = true ∧ c (k - 1) = true ∧ c (k - W) = true ∧ c (k - W - 1) = true := fun k => by
    unfold fourB; simp only [Bool.and_eq_true, and_assoc]
  refine Nat.le_antisymm (num_inj (fun k => k - W - 1) (fun k hk h => ?_) (fun k j hk hj hp hq h => ?_)) (num_inj (fun k => k + W + 1) (fun k hk h => ?_) (fun k j _ _ _ _ h => by omega))
  · obtain ⟨h1, h2, h3, h4⟩ := (e k).1 h
    obtain ⟨x, y, hx, hy, hkx, e1, e2⟩ := ix_cases hk
    have hr1 := hr k h1
    rw [e1, e2] at hr1
    have hy1 : W ≤ y * W := Nat.le_mul_of_pos_left W hr1.2.2.1
    refine ⟨by omega, h4, ?_, ?_, ?_⟩
    · rw [show k - W - 1 + 1 = k - W by omega]; exact h3
    · rw [show k - W - 1 + W = k - 1 by omega]; exact h2
    · rw [show k - W - 1 + W + 1 = k by omega]; exact h1
  · have a1 := hr k ((e k).1 hp).1
    have a2 := hr j ((e j).1 hq).1
    have b1 : W ≤ k / W * W := Nat.le_mul_of_pos_left W a1.2.2.1
    have b2 : W ≤ j / W * W := Nat.le_mul_of_pos_left W a2.2.2.1
    have d1 := ix_of (W := W) k
    have d2 := ix_of (W := W) j
    have h : k - W - 1 = j - W - 1 := h
    omega
  · obtain ⟨h1, h2, h3, h4⟩ := h
    refine ⟨(hr _ h4).1, (e _).2 ⟨h4, ?_, ?_, ?_⟩⟩
    · rw [show k + W + 1 - 1 = k + W by omega]; exact h3
    · rw [show k + W + 1 - W = k + 1 by omega]; exact h2
    · rw [show k + W + 1 - W - 1 = k by omega]; exact h1
/-- Parts less holes (and less the outside): cells, less pairs, and squares. -/
theorem euler_grid (hr : Ringed W H c) (hW : 3 ≤ W) (hH : 3 ≤ H) (hW8 : W ≤ 8) (hH8 : H ≤ 8) :
    (num (W * H) (fun k => c k = true ∧ least (G4 W H c) k = k) : Int) - (num (W * H) (fun k => (k < W * H ∧ c k = false) ∧ least (G8 W H c) k = k) : Int) + 1 =
      (num (W * H) (fun k => c k = true) : Int) - ((num (W * H) (fun k => c k = true ∧ c (k + 1) = true) : Int) + (num (W * H) (fun k => c k = true ∧ c (k + W) = true) : Int)) + (num (W * H) (fun k => c k = true ∧ c (k + 1) = true ∧ c (k + W) = true ∧ c (k + W + 1) = true) : Int) := by
  have hmem : ∀ e, e ∈ setE W H c ++ restE W H c ↔ e ∈ allE W H := fun e => by
    rw [List.mem_append, mem_set, mem_rest]
    constructor
    · rintro (h | h) <;> exact h.1
    · intro h
      cases h1 : c e.a
      · exact .inr ⟨h, .inl rfl⟩
      · cases h2 : c e.b
        · exact .inr ⟨h, .inr rfl⟩
        · exact .inl ⟨h, rfl, rfl⟩
  have oE : onE (setE W H c ++ restE W H c) = onE (allE W H) := funext fun a => funext fun b => propext ⟨fun ⟨e, h, g⟩ => ⟨e, (hmem e).1 h, g⟩, fun ⟨e, h, g⟩ => ⟨e, (hmem e).2 h, g⟩⟩
  have oD : onD (setE W H c ++ restE W H c) = onD (allE W H) := funext fun a => funext fun b => propext ⟨fun ⟨e, h, g⟩ => ⟨e, (hmem e).1 h, g⟩, fun ⟨e, h, g⟩ => ⟨e, (hmem e).2 h, g⟩⟩
  have len : (setE W H c ++ restE W H c).length = (allE W H).length := by
    unfold setE restE
    rw [List.length_append]
    induction allE W H with
    | nil => rfl
    | cons e l ih => cases h : sS c e <;> simp [h] <;> omega
  have e1 : eul (W * H) (W * H) [] (setE W H c ++ restE W H c) = eul (W * H) (W * H) [] (allE W H) := by unfold eul; rw [oD]
  have e2 : eul (W * H) (W * H) (setE W H c ++ restE W H c) [] = eul (W * H) (W * H) (allE W H) [] := by unfold eul; rw [oE, len]
  have hs := eul_same (n := W * H) (m := W * H) (S := setE W H c) (T := restE W H c) (fun x hx => allE_bd (by omega) (by omega) x ((hmem x).1 hx)) (fun v hv X => by
    unfold setE restE; rw [parL_split]; exact allE_even (by omega) v hv X) (by rw [e1, e2]; exact eul_ends hW hH hW8 hH8)
  rw [e1] at hs
  unfold eul at hs
  rw [ccE_set, ccD_rest hr (by omega) (by omega), cc_allD (by omega) (by omega), cc_none (E := onE []) (fun x y ⟨e, h, _⟩ => by simp at h), set_length hr, full_shift hr] at hs
  have hn : num (W * H) (fun k => c k = true) + num (W * H) (fun k => ¬ c k = true) = W * H := by
    rw [← num_or fun k _ a b => b a]
    have := cc_none (n := W * H) (E := fun _ _ => False) (fun _ _ h => h)
    unfold cc at this
    refine Eq.trans ?_ this
    refine num_congr fun k _ => ⟨fun _ => least_lone (E := fun _ _ => False) (fun _ _ h => h) (fun _ h => h), fun _ => Classical.em _⟩
  simp only [List.length_nil] at hs
  omega
end
end Domi

/- Parts less holes of a region, as its law sums it: plain. -/
set_option linter.unusedVariables false
namespace Domi

/-- Is the k-th place of the field with a rim a cell? -/
def cB (r : Reg) (k : Nat) : Bool := r.at_ ((k : Int) % (r.wide + 2) - 1) ((k : Int) / (r.wide + 2) - 1)
/-- One cell's part of the sum. -/
def eulT (r : Reg) (k : Nat) : Int :=
  (if r.f k then 1 else 0) + (-1) * (if r.f k && r.at_ ((k : Int) % r.wide + 1) ((k : Int) / r.wide) then 1 else 0) + (-1) * (if r.f k && r.at_ ((k : Int) % r.wide) ((k : Int) / r.wide + 1) then 1 else 0) +
    (if r.f k && r.at_ ((k : Int) % r.wide + 1) ((k : Int) / r.wide) && r.at_ ((k : Int) % r.wide) ((k : Int) / r.wide + 1) && r.at_ ((k : Int) % r.wide + 1) ((k : Int) / r.wide + 1) then 1 else 0)

section
variable {r : Reg} {w t : Nat}
theorem cB_ix (F : Fld r w t) {x y : Nat} (hx : x < w + 2) : cB r (y * (w + 2) + x) = r.at_ ((x : Int) - 1) ((y : Int) - 1) := by
  unfold cB
  rw [F.hw]
  have e1 : ((y * (w + 2) + x : Nat) : Int) % ((w : Int) + 2) = ((y * (w + 2) + x) % (w + 2) : Nat) := by rw [Int.natCast_emod]; rfl
  have e2 : ((y * (w + 2) + x : Nat) : Int) / ((w : Int) + 2) = ((y * (w + 2) + x) / (w + 2) : Nat) := by rw [Int.natCast_ediv]; rfl
  rw [e1, e2, ix_mod hx, ix_div hx]
theorem f_ix (F : Fld r w t) {x y : Nat} (hx : x < w) (hy : y < t) : r.f (y * w + x) = r.at_ x y := by
  have hl : y * w + x < r.cells.length := by rw [F.len]; exact ix_lt hx hy
  rw [← at_here F.hv hl, F.hw]
  have e1 : ((y * w + x : Nat) : Int) % (w : Int) = ((y * w + x) % w : Nat) := by rw [Int.natCast_emod]
  have e2 : ((y * w + x : Nat) : Int) / (w : Int) = ((y * w + x) / w : Nat) := by rw [Int.natCast_ediv]
  rw [e1, e2, ix_mod hx, ix_div hx]
theorem at_in {x y : Int} (F : Fld r w t) (h : r.at_ x y = true) : (0 ≤ x ∧ x < w) ∧ (0 ≤ y ∧ y < t) := by
  unfold Reg.at_ at h
  simp only [Bool.and_eq_true, inB_iff] at h
  have := F.hw
  have := F.ht
  omega
theorem cB_ringed (F : Fld r w t) : Ringed (w + 2) (t + 2) (cB r) := by
  intro k h
  have hk := ix_of (W := w + 2) k
  have hx : k % (w + 2) < w + 2 := Nat.mod_lt _ (by omega)
  rw [← hk, cB_ix F hx] at h
  have := at_in F h
  have hy : k / (w + 2) + 1 < t + 2 := by omega
  refine ⟨?_, by omega, by omega, hy⟩
  rw [← hk]
  exact ix_lt hx (by omega)
/-- From the wider field to the field, and back. -/
def dn (w k : Nat) : Nat := (k / (w + 2) - 1) * w + (k % (w + 2) - 1)
def up (w j : Nat) : Nat := (j / w + 1) * (w + 2) + (j % w + 1)
theorem up_at (F : Fld r w t) {j : Nat} (hj : j < w * t) : up w j < (w + 2) * (t + 2) ∧ up w j % (w + 2) = j % w + 1 ∧ up w j / (w + 2) = j / w + 1 ∧ dn w (up w j) = j ∧ cB r (up w j) = r.f j := by
  have hx := ix_col hj
  have hy := ix_row hj
  have m := ix_mod (W := w + 2) (x := j % w + 1) (y := j / w + 1) (by omega)
  have d := ix_div (W := w + 2) (x := j % w + 1) (y := j / w + 1) (by omega)
  refine ⟨ix_lt (by omega) (by omega), m, d, ?_, ?_⟩
  · unfold dn up
    rw [m, d]
    exact ix_of j
  · unfold up
    rw [cB_ix F (by omega)]
    have := f_ix F hx hy
    rw [ix_of] at this
    rw [this]
    congr 1 <;> omega
theorem dn_at (F : Fld r w t) {k : Nat} (h : cB r k = true) : dn w k < w * t ∧ dn w k % w = k % (w + 2) - 1 ∧ dn w k / w = k / (w + 2) - 1 ∧ up w (dn w k) = k ∧ r.f (dn w k) = true := by
  obtain ⟨h1, h2, h3⟩ := cB_ringed F k h
  have m := ix_mod (W := w) (x := k % (w + 2) - 1) (y := k / (w + 2) - 1) (by omega)
  have d := ix_div (W := w) (x := k % (w + 2) - 1) (y := k / (w + 2) - 1) (by omega)
  have hl : dn w k < w * t := ix_lt (by omega) (by omega)
  have hu : up w (dn w k) = k := by
    unfold up dn
    rw [m, d, show k / (w + 2) - 1 + 1 = k / (w + 2) by omega, show k % (w + 2) - 1 + 1 = k % (w + 2) by omega]
    exact ix_of k
  refine ⟨hl, m, d, hu, ?_⟩
  rw [← (up_at F hl).2.2.2.2, hu]; exact h
theorem num_dn (F : Fld r w t) {Q : Nat → Prop} {R : Nat → Prop} (h : ∀ j, j < w * t → r.f j = true → (Q (up w j) ↔ R j)) : num ((w + 2) * (t + 2)) (fun k => cB r k = true ∧ Q k) = num (w * t) (fun j => r.f j = true ∧ R j) := by
  refine Nat.le_antisymm (num_inj (dn w) (fun k _ hk => ?_) (fun k j _ _ hk hj e => ?_)) (num_inj (up w) (fun j hj h1 => ?_) (fun k j hk hj _ _ e => ?_))
  · obtain ⟨a, _, _, b, c⟩ := dn_at F hk.1
    exact ⟨a, c, (h _ a c).1 (by rw [b]; exact hk.2)⟩
  · rw [← (dn_at F hk.1).2.2.2.1, ← (dn_at F hj.1).2.2.2.1, e]
  · obtain ⟨a, _, _, b, c⟩ := up_at F hj
    exact ⟨a, by rw [c]; exact h1.1, (h _ hj h1.1).2 h1.2⟩
  · rw [← (up_at F hk).2.2.2.1, ← (up_at F hj).2.2.2.1, e]
theorem cB_east (F : Fld r w t) {j : Nat} (hj : j < w * t) : cB r (up w j + 1) = r.at_ ((j : Int) % r.wide + 1) ((j : Int) / r.wide) := by
  have hx := ix_col hj
  unfold up
  rw [Nat.add_assoc, cB_ix F (by omega), F.hw, ← Int.natCast_emod, ← Int.natCast_ediv]
  congr 1 <;> omega
theorem cB_north (F : Fld r w t) {j : Nat} (hj : j < w * t) : cB r (up w j + (w + 2)) = r.at_ ((j : Int) % r.wide) ((j : Int) / r.wide + 1) := by
  have hx := ix_col hj
  unfold up
  rw [show (j / w + 1) * (w + 2) + (j % w + 1) + (w + 2) = (j / w + 1 + 1) * (w + 2) + (j % w + 1) by rw [Nat.add_mul (j / w + 1)]; omega, cB_ix F (by omega), F.hw, ← Int.natCast_emod, ← Int.natCast_ediv]
  congr 1 <;> omega
theorem cB_ne (F : Fld r w t) {j : Nat} (hj : j < w * t) : cB r (up w j + (w + 2) + 1) = r.at_ ((j : Int) % r.wide + 1) ((j : Int) / r.wide + 1) := by
  have hx := ix_col hj
  unfold up
  rw [show (j / w + 1) * (w + 2) + (j % w + 1) + (w + 2) + 1 = (j / w + 1 + 1) * (w + 2) + (j % w + 2) by rw [Nat.add_mul (j / w + 1)]; omega, cB_ix F (by omega), F.hw, ← Int.natCast_emod, ← Int.natCast_ediv]
  congr 1 <;> omega
theorem parts_up (F : Fld r w t) : num ((w + 2) * (t + 2)) (fun k => cB r k = true ∧ least (G4 (w + 2) (t + 2) (cB r)) k = k) = partCount r := by
  rw [parts_g F.hv]
  unfold gparts
  have hW : (r.wide * r.tall).toNat = w * t := by rw [F.hw, F.ht, ← Int.natCast_mul]; rfl
  rw [hW]
  have gp : ∀ k, GP r.wide r.tall r.pf k ↔ r.f k = true := gp_f F.hv
  have hlen : ∀ j, r.f j = true → j < w * t := fun j h => by have := f_lt h; rw [F.len] at this; exact this
  have up_f : ∀ j, r.f j = true → cB r (up w j) = true := fun j h => by rw [(up_at F (hlen j h)).2.2.2.2]; exact h
  refine num_carry (f := dn w) (g := up w) ?_ ?_ (fun a h => (cB_ringed F a h).1) (fun b h => hlen b ((gp b).1 h)) ?_ ?_ ?_ ?_
  · rintro a b ⟨h1, h2, h3, h4, h5⟩
    exact ⟨h2, h1, h4, h3, by omega⟩
  · exact fun a b h => h.symm (fun x y hA => by unfold A4 at *; omega)
  · intro a h
    obtain ⟨a1, _, _, a2, a3⟩ := dn_at F h
    exact ⟨(gp _).2 a3, a2⟩
  · intro b h
    have h := (gp b).1 h
    exact ⟨up_f b h, (up_at F (hlen b h)).2.2.2.1⟩
  · rintro a b ⟨h1, h2, h3, h4, h5⟩
    obtain ⟨a1, a2, a3, a4, a5⟩ := dn_at F h3
    obtain ⟨b1, b2, b3, b4, b5⟩ := dn_at F h4
    refine ⟨h3, h4, (gp _).2 a5, (gp _).2 b5, ?_⟩
    rw [F.hw, ← Int.natCast_emod, ← Int.natCast_emod, ← Int.natCast_ediv, ← Int.natCast_ediv, a2, a3, b2, b3]
    have ra := (cB_ringed F a h3).2
    have rb := (cB_ringed F b h4).2
    have da := ix_of (W := w + 2) a
    have db := ix_of (W := w + 2) b
    have key : (b % (w + 2) = a % (w + 2) + 1 ∧ b / (w + 2) = a / (w + 2)) ∨ (a % (w + 2) = b % (w + 2) + 1 ∧ a / (w + 2) = b / (w + 2)) ∨ (b % (w + 2) = a % (w + 2) ∧ b / (w + 2) = a / (w + 2) + 1) ∨ (a % (w + 2) = b % (w + 2) ∧ a / (w + 2) = b / (w + 2) + 1) := by
      rcases h5 with ⟨e, hc⟩ | ⟨e, hc⟩ | e | e
      · refine .inl ?_
        rw [e, ← da, Nat.add_assoc, ix_mod (by omega), ix_div (by omega)]
        rw [ix_mod (by omega), ix_div (by omega)]
        exact ⟨rfl, rfl⟩
      · refine .inr (.inl ?_)
        rw [e, ← db, Nat.add_assoc, ix_mod (by omega), ix_div (by omega)]
        rw [ix_mod (by omega), ix_div (by omega)]
        exact ⟨rfl, rfl⟩
      · refine .inr (.inr (.inl ?_))
        rw [e, Nat.add_mod_right, Nat.add_div_right _ (by omega)]
        exact ⟨rfl, rfl⟩
      · refine .inr (.inr (.inr ?_))
        rw [e, Nat.add_mod_right, Nat.add_div_right _ (by omega)]
        exact ⟨rfl, rfl⟩
    unfold A4
    omega
  · rintro a b ⟨h1, h2, h3⟩
    have fa := (gp a).1 h1
    have fb := (gp b).1 h2
    obtain ⟨a1, a2, a3, a4, a5⟩ := up_at F (hlen a fa)
    obtain ⟨b1, b2, b3, b4, b5⟩ := up_at F (hlen b fb)
    refine ⟨h1, h2, a1, b1, up_f a fa, up_f b fb, ?_⟩
    rw [F.hw, ← Int.natCast_emod, ← Int.natCast_emod, ← Int.natCast_ediv, ← Int.natCast_ediv] at h3
    have ca := ix_col (hlen a fa)
    have cb := ix_col (hlen b fb)
    unfold A4 at h3
    rw [a2, b2]
    unfold up
    rcases h3 with ⟨e1, e2⟩ | ⟨e1, e2⟩ | ⟨e1, e2⟩ | ⟨e1, e2⟩
    · refine .inl ⟨?_, by omega⟩
      rw [show b / w = a / w by omega, show b % w = a % w + 1 by omega]; omega
    · refine .inr (.inr (.inl ?_))
      rw [show b / w = a / w + 1 by omega, show b % w = a % w by omega, Nat.add_mul (a / w + 1)]; omega
    · refine .inr (.inl ⟨?_, by omega⟩)
      rw [show b / w = a / w by omega, show a % w = b % w + 1 by omega]; omega
    · refine .inr (.inr (.inr ?_))
      rw [show a / w = b / w + 1 by omega, show b % w = a % w by omega, Nat.add_mul (b / w + 1)]; omega
theorem holes_up (F : Fld r w t) : num ((w + 2) * (t + 2)) (fun k => (k < (w + 2) * (t + 2) ∧ cB r k = false) ∧ least (G8 (w + 2) (t + 2) (cB r)) k = k) = rootsN (E8 r) r.fr r.n2 := by
  have hn : r.n2 = (w + 2) * (t + 2) := by
    unfold Reg.n2
    rw [F.hw, F.ht]
    have : ((w : Int) + 2) * ((t : Int) + 2) = (((w + 2) * (t + 2) : Nat) : Int) := by push_cast; rfl
    rw [this]; rfl
  have hfr : ∀ k, r.fr k = true ↔ k < (w + 2) * (t + 2) ∧ cB r k = false := fun k => by
    unfold Reg.fr
    rw [hn]
    show (decide (k < (w + 2) * (t + 2)) && !cB r k) = true ↔ _
    simp
  have hE : G8 (w + 2) (t + 2) (cB r) = E8 r := funext fun a => funext fun b => propext (by
    unfold G8 E8
    rw [hfr, hfr, F.hw]
    have c : ((w : Int) + 2) = ((w + 2 : Nat) : Int) := by push_cast; rfl
    rw [c, ← Int.natCast_emod, ← Int.natCast_emod, ← Int.natCast_ediv, ← Int.natCast_ediv]
    constructor
    · rintro ⟨h1, h2, h3, h4, h5, h6⟩
      exact ⟨⟨h1, h3⟩, ⟨h2, h4⟩, by omega, by omega⟩
    · rintro ⟨⟨h1, h3⟩, ⟨h2, h4⟩, h5, h6⟩
      exact ⟨h1, h2, h3, h4, by omega, by omega⟩)
  unfold rootsN
  rw [hE, hn]
  exact num_congr fun k _ => by rw [hfr]
/-- The law of HolesMany. -/
theorem euler_law (hv : r.valid = true) : r.pmany - r.holesR = sumI (eulT r) r.cells.length := by
  have F := fld_of hv
  generalize r.wide.toNat = w at F
  generalize r.tall.toNat = t at F
  have hw6 := F.w6
  have ht6 := F.t6
  have hw0 := F.w0
  have ht0 : 0 < t := by
    obtain ⟨_, h2, _⟩ := Reg.valid_iff.1 hv
    have := F.ht
    omega
  have H := euler_grid (cB_ringed F) (by omega) (by omega) (by omega) (by omega)
  rw [parts_up F, holes_up F] at H
  have n1 : num ((w + 2) * (t + 2)) (fun k => cB r k = true) = num (w * t) (fun k => r.f k = true) := by
    have := num_dn F (Q := fun _ => True) (R := fun _ => True) (fun _ _ _ => Iff.rfl)
    simpa using this
  have n2 := num_dn F (Q := fun k => cB r (k + 1) = true) (R := fun j => r.at_ ((j : Int) % r.wide + 1) ((j : Int) / r.wide) = true) (fun j hj _ => by rw [cB_east F hj])
  have n3 := num_dn F (Q := fun k => cB r (k + (w + 2)) = true) (R := fun j => r.at_ ((j : Int) % r.wide) ((j : Int) / r.wide + 1) = true) (fun j hj _ => by rw [cB_north F hj])
  have n4 := num_dn F (Q := fun k => cB r (k + 1) = true ∧ cB r (k + (w + 2)) = true ∧ cB r (k + (w + 2) + 1) = true) (R := fun j => r.at_ ((j : Int) % r.wide + 1) ((j : Int) / r.wide) = true ∧ r.at_ ((j : Int) % r.wide) ((j : Int) / r.wide + 1) = true ∧ r.at_ ((j : Int) % r.wide + 1) ((j : Int) / r.wide + 1) = true) (fun j hj _ => by rw [cB_east F hj, cB_north F hj, cB_ne F hj])
  rw [n1, n2, n3, n4] at H
  have hs : sumI (eulT r) r.cells.length = (num (w * t) (fun k => r.f k = true) : Int) - ((num (w * t) (fun j => r.f j = true ∧ r.at_ ((j : Int) % r.wide + 1) ((j : Int) / r.wide) = true) : Int) + (num (w * t) (fun j => r.f j = true ∧ r.at_ ((j : Int) % r.wide) ((j : Int) / r.wide + 1) = true) : Int)) + (num (w * t) (fun j => r.f j = true ∧ r.at_ ((j : Int) % r.wide + 1) ((j : Int) / r.wide) = true ∧ r.at_ ((j : Int) % r.wide) ((j : Int) / r.wide + 1) = true ∧ r.at_ ((j : Int) % r.wide + 1) ((j : Int) / r.wide + 1) = true) : Int) := by
    unfold eulT
    rw [sumI_add, sumI_add, sumI_add, sumI_mul, sumI_mul, sumI_num, sumI_num, sumI_num, sumI_num, F.len]
    simp only [Bool.and_eq_true, and_assoc]
    omega
  rw [hs, ← H]
  rw [holesR_yes hv]
  unfold Reg.pmany Reg.holes
  rw [if_pos hv]
  omega
theorem eulT_bd (r : Reg) (k : Nat) : -2 ≤ eulT r k ∧ eulT r k ≤ 2 := by
  unfold eulT
  split <;> split <;> split <;> split <;> omega
end
end Domi

/- The reference's relaxation over all pairs of places: plain. -/
set_option linter.unusedVariables false
namespace Domi
open Go Go.RowKit

/-- What the list says of a place at first. -/
def self8 (r : Reg) (k : Nat) : Int := if r.fr k then k else -1
def self8L (r : Reg) : List Int := (List.range r.n2).map (self8 r)
theorem self8_get {r : Reg} {k : Nat} (h : k < r.n2) : (self8L r).getD k 0 = self8 r k := by simp [self8L, List.getD_eq_getElem?_getD, h]
theorem self8_inv (r : Reg) : HInv (E8 r) r.fr r.n2 (self8L r) :=
  ⟨by simp [self8L], fun k hk hf => by rw [self8_get hk]; simp [self8, hf], fun k hk hf => by rw [self8_get hk]; simp only [self8, hf, if_true]; exact ⟨by omega, by omega, by rw [Int.toNat_natCast]; exact .refl _⟩⟩
/-- Nothing is to be done at this pair. -/
def Quiet8 (r : Reg) (L : List Int) (k j : Nat) : Prop := E8 r k j → ¬ (L.getD j 0 < L.getD k 0 ∧ 0 ≤ L.getD j 0)
/-- In the midst of a round that began with the sum s: the pairs before (c, d) are done. -/
structure HJ (r : Reg) (s : Nat) (L : List Int) (ch : Bool) (c d : Nat) : Prop where
  inv : HInv (E8 r) r.fr r.n2 L
  le : sumN r.n2 L ≤ s
  lt : ch = true → sumN r.n2 L < s
  quiet : ch = false → ∀ k j, k < r.n2 → j < r.n2 → (k < c ∨ (k = c ∧ j < d)) → Quiet8 r L k j
section
variable {r : Reg} {s : Nat} {L : List Int} {ch : Bool} {c d : Nat}
theorem HJ.start (h : HInv (E8 r) r.fr r.n2 L) : HJ r (sumN r.n2 L) L false 0 0 := ⟨h, Nat.le_refl _, fun h => (by cases h), fun _ k j _ _ h => (by omega)⟩
theorem HJ.row (h : HJ r s L ch c r.n2) : HJ r s L ch (c + 1) 0 := ⟨h.inv, h.le, h.lt, fun e k j hk hj hd => h.quiet e k j hk hj (by omega)⟩
theorem HJ.skip (h : HJ r s L ch c d) (hq : Quiet8 r L c d) : HJ r s L ch c (d + 1) :=
  ⟨h.inv, h.le, h.lt, fun e k j hk hj hd => by
    by_cases e2 : k = c ∧ j = d
    · obtain ⟨rfl, rfl⟩ := e2; exact hq
    · exact h.quiet e k j hk hj (by omega)⟩
theorem HJ.put (h : HJ r s L ch c d) (hc : c < r.n2) (hd : d < r.n2) (hn : (-1 ≤ (c : Int) % (r.wide + 2) - (d : Int) % (r.wide + 2) ∧ (c : Int) % (r.wide + 2) - (d : Int) % (r.wide + 2) ≤ 1) ∧ (-1 ≤ (c : Int) / (r.wide + 2) - (d : Int) / (r.wide + 2) ∧ (c : Int) / (r.wide + 2) - (d : Int) / (r.wide + 2) ≤ 1))
    (hlt : L.getD d 0 < L.getD c 0) (h0 : 0 ≤ L.getD d 0) : HJ r s (L.set c (L.getD d 0)) true c (d + 1) := by
  have e : E8 r c d := ⟨(h.inv.fr_iff hc).2 (by omega), (h.inv.fr_iff hd).2 h0, hn⟩
  have hs := sumN_put (L := L) (k := c) (x := L.getD d 0) (by rw [h.inv.len]; exact hc) h0 hlt r.n2
  rw [if_pos hc] at hs
  have := h.le
  exact ⟨h.inv.put hc hd e hlt h0, by omega, fun _ => by omega, fun e => by cases e⟩
theorem quiet_near (h : ¬ ((-1 ≤ (c : Int) % (r.wide + 2) - (d : Int) % (r.wide + 2) ∧ (c : Int) % (r.wide + 2) - (d : Int) % (r.wide + 2) ≤ 1) ∧ (-1 ≤ (c : Int) / (r.wide + 2) - (d : Int) / (r.wide + 2) ∧ (c : Int) / (r.wide + 2) - (d : Int) / (r.wide + 2) ≤ 1))) : Quiet8 r L c d := fun e => absurd e.2.2 h
theorem quiet_le (h : ¬ (L.getD d 0 < L.getD c 0 ∧ 0 ≤ L.getD d 0)) : Quiet8 r L c d := fun _ => h
/-- A round without a change is the last. -/
theorem HJ.done (h : HJ r s L false r.n2 0) : ∀ k, k < r.n2 → (L.getD k 0 = k ↔ (r.fr k = true ∧ least (E8 r) k = k)) := by
  have hd := h.inv.done (fun _ _ e => e.symm) (fun _ _ e => ⟨e.lt.1, e.lt.2.1, e.lt.2.2⟩) (fun k j hk hj e => h.quiet rfl k j hk hj (.inl hk) e)
  intro k hk
  cases hf : r.fr k
  · rw [h.inv.no k hk hf]
    exact ⟨fun e => by omega, fun e => by cases e.1⟩
  · rw [hd k hk hf]
    exact ⟨fun e => ⟨rfl, by omega⟩, fun e => by omega⟩
end
/-- The numbers of a block, added up. -/
def sumW (g : Nat) (w : World) : Nat → Nat
  | 0 => 0
  | m + 1 => sumW g w m + (match w.cell? ⟨g, m, none⟩ with | some (.int _ x) => x.toNat | _ => 0)
theorem sumW_is {g : Nat} {w : World} {L : List Int} : ∀ m, (∀ k, k < m → w.cell? ⟨g, k, none⟩ = some (.int .i64 (L.getD k 0))) → sumW g w m = sumN m L := by
  intro m
  induction m with
  | zero => intro _; rfl
  | succ m ih =>
    intro h
    unfold sumW sumN
    rw [ih (fun k hk => h k (by omega)), h m (by omega)]
end Domi

/- The law's own count of rows: plain. -/
set_option linter.unusedVariables false
namespace Domi
open Go Go.RowKit

/-- Does a row of a tiling fit the set? -/
def rowOk (w : Nat) (T : List Int) (col set y : Nat) : Bool := decide (T.getD (y * w + col) 0 = 3) == set.testBit y
/-- Do the first rows fit? -/
def rowsOk (w : Nat) (T : List Int) (col set : Nat) : Nat → Bool
  | 0 => true
  | y + 1 => rowsOk w T col set y && rowOk w T col set y
theorem rowsOk_iff {w : Nat} {T : List Int} {col set n : Nat} : rowsOk w T col set n = true ↔ ∀ y, y < n → (T.getD (y * w + col) 0 = 3 ↔ set.testBit y = true) := by
  induction n with
  | zero => simp [rowsOk]
  | succ n ih =>
    rw [rowsOk, Bool.and_eq_true, ih]
    constructor
    · rintro ⟨h1, h2⟩ y hy
      by_cases e : y = n
      · subst e
        unfold rowOk at h2
        rw [beq_iff_eq] at h2
        rw [← h2, decide_eq_true_iff]
      · exact h1 y (by omega)
    · intro h
      refine ⟨fun y hy => h y (by omega), ?_⟩
      have := h n (by omega)
      unfold rowOk
      rw [beq_iff_eq, Bool.eq_iff_iff, decide_eq_true_iff]
      exact this
theorem rowsOk_later {w : Nat} {T : List Int} {col set n m : Nat} (h : rowsOk w T col set n = false) (hm : n ≤ m) : rowsOk w T col set m = false := by
  cases e : rowsOk w T col set m
  · rfl
  · rw [rowsOk_iff.2 fun y hy => rowsOk_iff.1 e y (by omega)] at h; cases h
section
variable {r : Reg} {w t col set : Nat}
theorem cross_pair (F : Fld r w t) (hc : 1 ≤ col ∧ col < w) {T : List Int} (hT : laidOk r T = true) (y : Nat) : T.getD (y * w + col) 0 = 3 ↔ T.getD (y * w + col - 1) 0 = 1 := by
  obtain ⟨h1, h2⟩ := line_cell F.w0 hc (y := y)
  obtain ⟨k, hk⟩ : ∃ k, y * w + col - 1 = k := ⟨_, rfl⟩
  have hk1 : y * w + col = k + 1 := by omega
  rw [hk] at h1 h2
  rw [hk, hk1]
  have hx : k % w + 1 < w := by omega
  constructor
  · intro h
    have hl : k + 1 < T.length := by
      rcases Nat.lt_or_ge (k + 1) T.length with g | g
      · exact g
      · rw [List.getD_eq_getElem?_getD, List.getElem?_eq_none g] at h; simp at h
    obtain ⟨u, G⟩ := lies_at hT hl (by rw [h]; decide)
    rw [h] at G
    obtain ⟨e1, _⟩ := (F.dest G.hway G.hst).2.1 rfl
    have e : u = k := by omega
    subst e
    exact G.ot
  · intro h
    have hl : k < T.length := by
      rcases Nat.lt_or_ge k T.length with g | g
      · exact g
      · rw [List.getD_eq_getElem?_getD, List.getElem?_eq_none g] at h; simp at h
    obtain ⟨u, G⟩ := lies_at hT hl (by rw [h]; decide)
    rw [h] at G
    obtain ⟨e1, _⟩ := (F.dest G.hway G.hst).1 rfl
    subst e1
    exact G.ot
theorem rowsOk_across (F : Fld r w t) (hc : 1 ≤ col ∧ col < w) (hs : set < 2 ^ t) {T : List Int} (hT : tilingOk r T = true) : rowsOk w T col set t = decide (acrossN w T col t = set) := by
  rw [Bool.eq_iff_iff, rowsOk_iff, decide_eq_true_iff, acrossN_eq hs]
  have h1 := (tilingOk_iff.1 hT).1
  constructor
  · intro h y hy; rw [← cross_pair F hc h1]; exact h y hy
  · intro h y hy; rw [cross_pair F hc h1]; exact h y hy
/-- One cell's part of the west's sum. -/
def westT (r : Reg) (w col set j : Nat) : Int := (if r.f j && decide (j % w < col) then shade w j else 0) - (if inRow w set j && decide (j % w + 1 = col) then shade w j else 0)
theorem west_zero (F : Fld r w t) (hc : 1 ≤ col ∧ col < w) (hs : set < 2 ^ t) (hn : acCount r col set ≠ 0) : sumI (westT r w col set) r.cells.length = 0 := west_shade F hc hs hn
theorem shade_bd (w j : Nat) : -1 ≤ shade w j ∧ shade w j ≤ 1 := by unfold shade; omega
theorem westT_bd (r : Reg) (w col set j : Nat) : -2 ≤ westT r w col set j ∧ westT r w col set j ≤ 2 := by
  have := shade_bd w j
  unfold westT
  constructor <;> (split <;> split <;> omega)
end
end Domi

/- The matrix of signs of a region: plain. -/
set_option linter.unusedVariables false
namespace Domi
open Go Go.RowKit

/-- The cells of a kind before n, by their indices. -/
def darkTo' (r : Reg) (n : Nat) : List Int := ((List.range n).filter fun k => r.f k && darkB r.wide k).map fun k : Nat => (k : Int)
def lightTo' (r : Reg) (n : Nat) : List Int := ((List.range n).filter fun k => r.f k && !darkB r.wide k).map fun k : Nat => (k : Int)
def darkL (r : Reg) : List Int := darkTo' r r.cells.length
def lightL (r : Reg) : List Int := lightTo' r r.cells.length
/-- The sign between a dark cell and a light one, by the directions 1 .. m. -/
def sgnV (r : Reg) (a : Int) (m : Nat) : Int := if (m = 2 ∨ m = 4) ∧ a % r.wide % 2 = 1 then -1 else 1
def sgnTo (r : Reg) (a b : Int) : Nat → Int
  | 0 => 0
  | m + 1 => if stepI r a ((m : Int) + 1) = b then sgnV r a (m + 1) else sgnTo r a b m
def rowTo (r : Reg) (a : Int) (m : Nat) : List Int := (lightL r).map fun b => sgnTo r a b m
def signR (r : Reg) : List (List Int) := (darkL r).map fun a => rowTo r a 4
def signM (r : Reg) : List (List Int) := if r.bal then signR r else []
theorem signM_no {r : Reg} (h : r.bal = false) : signM r = [] := by unfold signM; rw [h]; rfl
theorem signM_yes {r : Reg} (h : r.bal = true) : signM r = signR r := by unfold signM; rw [h]; rfl

section
variable {r : Reg}
theorem filt_range {p : Nat → Bool} {n : Nat} : ((List.range (n + 1)).filter p).map (fun k : Nat => (k : Int)) = ((List.range n).filter p).map (fun k : Nat => (k : Int)) ++ if p n then [(n : Int)] else [] := by
  rw [List.range_succ, List.filter_append, List.map_append]
  congr 1
  cases h : p n <;> simp [h]
theorem darkTo_yes {n : Nat} (h : r.f n = true) (hd : darkB r.wide n = true) : darkTo' r (n + 1) = darkTo' r n ++ [(n : Int)] := by unfold darkTo'; rw [filt_range, h, hd]; rfl
theorem darkTo_no {n : Nat} (h : r.f n = false ∨ darkB r.wide n = false) : darkTo' r (n + 1) = darkTo' r n := by
  unfold darkTo'; rw [filt_range]
  rcases h with h | h <;> rw [h] <;> simp
theorem lightTo_yes {n : Nat} (h : r.f n = true) (hd : darkB r.wide n = false) : lightTo' r (n + 1) = lightTo' r n ++ [(n : Int)] := by unfold lightTo'; rw [filt_range, h, hd]; rfl
theorem lightTo_no {n : Nat} (h : r.f n = false ∨ darkB r.wide n = true) : lightTo' r (n + 1) = lightTo' r n := by
  unfold lightTo'; rw [filt_range]
  rcases h with h | h <;> rw [h] <;> simp
theorem len_filt (p : Nat → Bool) (n : Nat) : (((List.range n).filter p).map (fun k : Nat => (k : Int))).length ≤ n := by
  rw [List.length_map]; have := List.length_filter_le p (List.range n); simpa using this
theorem darkTo_len (r : Reg) (n : Nat) : (darkTo' r n).length ≤ n := len_filt _ n
theorem lightTo_len (r : Reg) (n : Nat) : (lightTo' r n).length ≤ n := len_filt _ n
theorem mem_filt {p : Nat → Bool} {n : Nat} {x : Int} : x ∈ ((List.range n).filter p).map (fun k : Nat => (k : Int)) ↔ ∃ k, k < n ∧ p k = true ∧ (k : Int) = x := by
  simp only [List.mem_map, List.mem_filter, List.mem_range]
  exact ⟨fun ⟨k, ⟨a, b⟩, c⟩ => ⟨k, a, b, c⟩, fun ⟨k, a, b, c⟩ => ⟨k, ⟨a, b⟩, c⟩⟩
theorem mem_dark {x : Int} : x ∈ darkL r ↔ ∃ k, k < r.cells.length ∧ (r.f k = true ∧ darkB r.wide k = true) ∧ (k : Int) = x := by
  unfold darkL darkTo'; rw [mem_filt]; simp only [Bool.and_eq_true]
theorem mem_light {x : Int} : x ∈ lightL r ↔ ∃ k, k < r.cells.length ∧ (r.f k = true ∧ darkB r.wide k = false) ∧ (k : Int) = x := by
  unfold lightL lightTo'; rw [mem_filt]; simp only [Bool.and_eq_true, Bool.not_eq_true']
theorem up_filt (p : Nat → Bool) (n : Nat) : (((List.range n).filter p).map (fun k : Nat => (k : Int))).Pairwise (· < ·) := by
  rw [List.pairwise_map]
  exact (List.Pairwise.filter _ List.pairwise_lt_range).imp fun h => by omega
theorem up_inj {l : List Int} (hl : l.Pairwise (· < ·)) {j k : Nat} (hj : j < l.length) (hk : k < l.length) (h : l.getD j 0 = l.getD k 0) : j = k := by
  rw [← get_at _ _ _ hj, ← get_at _ _ _ hk] at h
  have H := List.pairwise_iff_getElem.1 hl
  rcases Nat.lt_trichotomy j k with e | e | e
  · have := H j k hj hk e; omega
  · exact e
  · have := H k j hk hj e; omega
theorem light_inj {j k : Nat} (hj : j < (lightL r).length) (hk : k < (lightL r).length) (h : (lightL r).getD j 0 = (lightL r).getD k 0) : j = k := up_inj (up_filt _ _) hj hk h
theorem dark_inj {j k : Nat} (hj : j < (darkL r).length) (hk : k < (darkL r).length) (h : (darkL r).getD j 0 = (darkL r).getD k 0) : j = k := up_inj (up_filt _ _) hj hk h
/-- What Index says. -/
def IxOf (l : List Int) (x n : Int) : Prop := (∃ k : Nat, n = k ∧ k < l.length ∧ l.getD k 0 = x) ∨ (n = -1 ∧ ∀ j, j < l.length → l.getD j 0 ≠ x)
theorem rowTo_len (r : Reg) (a : Int) (m : Nat) : (rowTo r a m).length = (lightL r).length := by simp [rowTo]
theorem rowTo_zero (r : Reg) (a : Int) : rowTo r a 0 = List.replicate (lightL r).length 0 := by
  unfold rowTo sgnTo
  rw [List.map_const']
theorem rowTo_hit {a : Int} {m k : Nat} (hk : k < (lightL r).length) (h : (lightL r).getD k 0 = stepI r a ((m : Int) + 1)) : (rowTo r a m).set k (sgnV r a (m + 1)) = rowTo r a (m + 1) := by
  refine List.ext_getElem (by simp [rowTo]) fun i h1 h2 => ?_
  simp [rowTo] at h1 h2
  rw [List.getElem_set]
  simp only [rowTo, List.getElem_map, sgnTo]
  by_cases e : k = i
  · subst e
    rw [if_pos rfl, if_pos]
    rw [get_at _ 0 _ hk, h]
  · rw [if_neg e, if_neg]
    intro e2
    rw [get_at _ 0 _ h2, ← h] at e2
    exact e (light_inj hk h2 e2)
theorem rowTo_miss {a : Int} {m : Nat} (h : ∀ j, j < (lightL r).length → (lightL r).getD j 0 ≠ stepI r a ((m : Int) + 1)) : rowTo r a (m + 1) = rowTo r a m := by
  refine List.ext_getElem (by simp [rowTo]) fun i h1 h2 => ?_
  simp [rowTo] at h1 h2
  simp only [rowTo, List.getElem_map, sgnTo]
  rw [if_neg]
  intro e
  exact h i h2 (by rw [← get_at _ 0 _ h2]; exact e.symm)
theorem set_set' {α : Type} (l : List α) (k : Nat) (x y : α) : (l.set k x).set k y = l.set k y := by simp
/-- Rows filled from the front. -/
def signTo (r : Reg) (i : Nat) : List (List Int) := (List.range (darkL r).length).map fun j => if j < i then rowTo r ((darkL r).getD j 0) 4 else []
theorem signTo_zero (r : Reg) : signTo r 0 = List.replicate (darkL r).length [] := by
  unfold signTo
  simp only [Nat.not_lt_zero, if_false]
  rw [List.map_const', List.length_range]
theorem signTo_len (r : Reg) (i : Nat) : (signTo r i).length = (darkL r).length := by simp [signTo]
theorem signTo_all (r : Reg) : signTo r (darkL r).length = signR r := by
  refine List.ext_getElem (by simp [signTo, signR]) fun i h1 h2 => ?_
  simp [signTo] at h1
  simp only [signTo, signR, List.getElem_map, List.getElem_range, if_pos h1]
  rw [get_at _ 0 _ h1]
theorem signTo_set {i : Nat} (hi : i < (darkL r).length) : (signTo r i).set i (rowTo r ((darkL r).getD i 0) 4) = signTo r (i + 1) := by
  refine List.ext_getElem (by simp [signTo]) fun j h1 h2 => ?_
  simp [signTo] at h1 h2
  rw [List.getElem_set]
  simp only [signTo, List.getElem_map, List.getElem_range]
  by_cases e : i = j
  · subst e; rw [if_pos rfl, if_pos (by omega)]
  · rw [if_neg e]
    by_cases e2 : j < i
    · rw [if_pos e2, if_pos (by omega)]
    · rw [if_neg e2, if_neg (by omega)]
/-- Rows one after the other. -/
def signS (r : Reg) (k : Nat) : List (List Int) := (darkTo' r k).map fun a => rowTo r a 4
theorem signS_yes {k : Nat} (h : r.f k = true) (hd : darkB r.wide k = true) : signS r (k + 1) = signS r k ++ [rowTo r k 4] := by unfold signS; rw [darkTo_yes h hd, List.map_append]; rfl
theorem signS_no {k : Nat} (h : r.f k = false ∨ darkB r.wide k = false) : signS r (k + 1) = signS r k := by unfold signS; rw [darkTo_no h]
theorem signS_all (r : Reg) : signS r r.cells.length = signR r := rfl
def rowS (r : Reg) (a : Int) (k : Nat) : List Int := (lightTo' r k).map fun b => sgnTo r a b 4
theorem rowS_yes {a : Int} {k : Nat} (h : r.f k = true) (hd : darkB r.wide k = false) : rowS r a (k + 1) = rowS r a k ++ [sgnTo r a k 4] := by unfold rowS; rw [lightTo_yes h hd, List.map_append]; rfl
theorem rowS_no {a : Int} {k : Nat} (h : r.f k = false ∨ darkB r.wide k = true) : rowS r a (k + 1) = rowS r a k := by unfold rowS; rw [lightTo_no h]
theorem rowS_all (r : Reg) (a : Int) : rowS r a r.cells.length = rowTo r a 4 := rfl
theorem rowS_len (r : Reg) (a : Int) (k : Nat) : (rowS r a k).length ≤ k := by unfold rowS; rw [List.length_map]; exact lightTo_len r k
theorem signS_len (r : Reg) (k : Nat) : (signS r k).length ≤ k := by unfold signS; rw [List.length_map]; exact darkTo_len r k
theorem sgn_hit {a b : Int} {m : Nat} (h : stepI r a ((m : Int) + 1) = b) : sgnTo r a b (m + 1) = sgnV r a (m + 1) := by rw [sgnTo, if_pos h]
theorem sgn_miss {a b : Int} {m : Nat} (h : stepI r a ((m : Int) + 1) ≠ b) : sgnTo r a b (m + 1) = sgnTo r a b m := by rw [sgnTo, if_neg h]
end
end Domi

/- A matrix of the call's own: an array of rows that lie apart from each other. No program is named here. -/
set_option linter.unusedVariables false
namespace Domi
open Go Go.RowKit

def nilV : Value := .slice none 0 0
/-- Since w0 nothing that was there has turned; v is a slice of new memory, of the rows M, each in new memory of its own. -/
structure Mx (w0 w : World) (tO tR : TypeId) (v : Value) (vs : List Value) (M : List (List Int)) : Prop where
  g : w0.grownBy w none
  out : Own w w0.heap.size tO v vs
  len : vs.length = M.length
  rows : ∀ i, i < vs.length → Own w w0.heap.size tR (vs.getD i nilV) ((M.getD i []).map (Value.int .i64))
  apart : ∀ i j k, i < vs.length → j < vs.length → i ≠ j → (vs.getD i nilV).ownBlock = some k → (vs.getD j nilV).ownBlock = some k → False
  away : ∀ i k, i < vs.length → (vs.getD i nilV).ownBlock = some k → v.ownBlock ≠ some k

section
variable {w0 w w' : World} {tO tR : TypeId} {v : Value} {vs : List Value} {M : List (List Int)}
/-- A row that another block's change leaves. -/
theorem Own.keepAt {B : Nat} {e : TypeId} {v : Value} {xs : List Value} (h : Own w B e v xs) {row : Option Nat} (hg : w.grownBy w' row) (hn : ∀ k, v.ownBlock = some k → row ≠ some k) : Own w' B e v xs := by
  refine World.ownsRow.kept h hg ?_
  cases hv : v.ownBlock with
  | none => exact .inl rfl
  | some k => exact .inr (fun e => hn k hv e.symm)
theorem Own.lt {B : Nat} {e : TypeId} {v : Value} {xs : List Value} (h : Own w B e v xs) {k : Nat} (hk : v.ownBlock = some k) : B ≤ k ∧ k < w.heap.size := World.ownsRow.lt h k hk
theorem Mx.keptAt (h : Mx w0 w tO tR v vs M) {row : Option Nat} (hg : w.grownBy w' row) (h0 : ∀ k, row = some k → w0.heap.size ≤ k) (h1 : ∀ k, v.ownBlock = some k → row ≠ some k) (h2 : ∀ i k, i < vs.length → (vs.getD i nilV).ownBlock = some k → row ≠ some k) : Mx w0 w' tO tR v vs M :=
  ⟨grown_new h.g hg (fun k hk _ => h0 k hk), h.out.keepAt hg h1, h.len, fun i hi => (h.rows i hi).keepAt hg (fun k hk => h2 i k hi hk), h.apart, h.away⟩
theorem Mx.kept (h : Mx w0 w tO tR v vs M) (hg : w.grownBy w' none) : Mx w0 w' tO tR v vs M := h.keptAt hg (fun k hk => by cases hk) (fun k _ e => by cases e) (fun i k _ _ e => by cases e)
theorem Mx.below (h : Mx w0 w tO tR v vs M) (hb : Below w.heap.size w w') : Mx w0 w' tO tR v vs M := h.kept (grown_below hb none)
theorem Mx.drew (h : Mx w0 w tO tR v vs M) : Mx w0 w.drew tO tR v vs M := h.kept (grown_drew (grown_refl w none))
theorem Mx.bel (h : Mx w0 w tO tR v vs M) : Below w0.heap.size w0 w := below_grown h.g (Nat.le_refl _) (fun i hi => by cases hi)
theorem Mx.base {wb : World} (h : Mx w0 w tO tR v vs M) (hg : wb.grownBy w0 none) : Mx wb w tO tR v vs M :=
  ⟨grown_new hg h.g (fun k hk _ => by cases hk), h.out.mono hg.size, h.len, fun i hi => (h.rows i hi).mono hg.size, h.apart, h.away⟩
theorem Mx.ll (h : Mx w0 w tO tR v vs M) : Ll w v M := by
  refine ⟨vs, h.out.sl, h.len, fun i hi => ?_⟩
  have hi' : i < vs.length := by rw [h.len]; exact hi
  have e : vs.getD i (.bool false) = vs.getD i nilV := by rw [← get_at vs (.bool false) i hi', ← get_at vs nilV i hi']
  rw [e]
  exact (h.rows i hi').sl
/-- An array of n empty rows. -/
theorem Mx.start {n : Nat} {cs : Array Value} (hc : Hid (cs = Array.replicate n nilV)) (hn : n ≤ 9223372036854775807) :
    Mx w (w.alloc (.cells cs tO)) tO tR (.slice (some ⟨w.heap.size, 0, none⟩) n n) (List.replicate n nilV) (List.replicate n []) := by
  have hget : ∀ i, (List.replicate n nilV).getD i nilV = nilV := fun i => by
    rw [List.getD_eq_getElem?_getD, List.getElem?_replicate]; split <;> rfl
  refine ⟨World.grownBy_alloc w _ none, Own.made hc (Nat.le_refl _) hn, by simp, fun i hi => ?_, fun i j k _ _ _ h => ?_, fun i k _ h => ?_⟩
  · rw [hget]
    have : (List.replicate n ([] : List Int)).getD i [] = [] := by rw [List.getD_eq_getElem?_getD, List.getElem?_replicate]; split <;> rfl
    rw [this]
    exact Own.nil _ _ _
  · rw [hget] at h; cases h
  · rw [hget] at h; cases h
/-- No rows. -/
theorem Mx.empty (w : World) (tO tR : TypeId) : Mx w w tO tR nilV [] [] :=
  ⟨grown_refl w none, Own.nil _ _ _, rfl, fun i hi => absurd hi (Nat.not_lt_zero i), fun i _ _ hi => absurd hi (Nat.not_lt_zero i), fun i _ hi => absurd hi (Nat.not_lt_zero i)⟩
/-- A new row in a place. -/
theorem Mx.setRow {g n c : Nat} (h : Mx w0 w tO tR (.slice (some ⟨g, 0, none⟩) n c) vs M) (hg : w.grownBy w' none) {rv : Value} {row : List Int} (hr : Own w' w.heap.size tR rv (row.map (Value.int .i64))) {i : Nat} (hi : i < M.length) :
    Mx w0 (w'.setCell ⟨g, i, none⟩ rv) tO tR (.slice (some ⟨g, 0, none⟩) n c) (vs.set i rv) (M.set i row) := by
  have h' := h.kept hg
  have hgl : g < w.heap.size := (h.out.lt rfl).2
  have hg0 : w0.heap.size ≤ g := (h.out.lt rfl).1
  have hi' : i < vs.length := by rw [h.len]; exact hi
  have gs := grown_setCell w' g i none rv
  have getV : ∀ j, (vs.set i rv).getD j nilV = if i = j then rv else vs.getD j nilV := fun j => getD_set vs i j rv nilV hi'
  have getM : ∀ j, (M.set i row).getD j [] = if i = j then row else M.getD j [] := fun j => getD_set M i j row [] hi
  refine ⟨grown_new h'.g gs (fun k hk _ => by cases hk; exact hg0), h'.out.stored i rv, by simpa using h.len, fun j hj => ?_, fun j l k hj hl hjl a b => ?_, fun j k hj a => ?_⟩
  · rw [List.length_set] at hj
    rw [getV, getM]
    by_cases e : i = j
    · rw [if_pos e, if_pos e]
      exact (hr.keepAt gs (fun k hk e => by cases e; have := (hr.lt hk).1; omega)).mono h.g.size
    · rw [if_neg e, if_neg e]
      exact (h'.rows j hj).keepAt gs (fun k hk e => h.away j k hj hk e)
  · rw [List.length_set] at hj hl
    rw [getV] at a b
    by_cases e : i = j
    · rw [if_pos e] at a
      rw [if_neg (fun e2 => hjl (e.symm.trans e2))] at b
      have := (hr.lt a).1
      have := ((h.rows l hl).lt b).2
      omega
    · rw [if_neg e] at a
      by_cases e2 : i = l
      · rw [if_pos e2] at b
        have := (hr.lt b).1
        have := ((h.rows j hj).lt a).2
        omega
      · rw [if_neg e2] at b
        exact h.apart j l k hj hl hjl a b
  · rw [List.length_set] at hj
    rw [getV] at a
    by_cases e : i = j
    · rw [if_pos e] at a
      intro e3
      have e4 : g = k := by simpa [Value.ownBlock] using e3
      have := (hr.lt a).1; omega
    · rw [if_neg e] at a; exact h.away j k hj a
/-- A number stored in a row. -/
theorem Mx.put (h : Mx w0 w tO tR v vs M) {i : Nat} (hi : i < M.length) {b m c : Nat} (hv : vs.getD i nilV = .slice (some ⟨b, 0, none⟩) m c) (j : Nat) (x : Int) :
    Mx w0 (w.setCell ⟨b, j, none⟩ (.int .i64 x)) tO tR v vs (M.set i ((M.getD i []).set j x)) := by
  have hi' : i < vs.length := by rw [h.len]; exact hi
  have hb : (vs.getD i nilV).ownBlock = some b := by rw [hv]; rfl
  have gs := grown_setCell w b j none (.int .i64 x)
  have getM : ∀ l, (M.set i ((M.getD i []).set j x)).getD l [] = if i = l then (M.getD i []).set j x else M.getD l [] := fun l => getD_set M i l _ [] hi
  refine ⟨grown_new h.g gs (fun k hk _ => by cases hk; exact ((h.rows i hi').lt hb).1), h.out.keepAt gs (fun k hk e => by cases e; exact h.away i b hi' hb hk), by simpa using h.len, fun l hl => ?_, h.apart, h.away⟩
  rw [getM]
  by_cases e : i = l
  · subst e
    rw [if_pos rfl, List.map_set]
    have hr := h.rows i hi'
    rw [hv] at hr ⊢
    exact hr.stored j _
  · rw [if_neg e]
    exact (h.rows l hl).keepAt gs (fun k hk e2 => by cases e2; exact h.apart i l b hi' hl e hb hk)
theorem Mx.put2 {M0 : List (List Int)} {row : List Int} {i : Nat} (h : Mx w0 w tO tR v vs (M0.set i row)) (hi : i < M0.length) {b m c : Nat} (hv : vs.getD i nilV = .slice (some ⟨b, 0, none⟩) m c) (j : Nat) (x : Int) :
    Mx w0 (w.setCell ⟨b, j, none⟩ (.int .i64 x)) tO tR v vs (M0.set i (row.set j x)) := by
  have := h.put (by simpa using hi) hv j x
  rw [getD_set _ _ _ _ _ hi, if_pos rfl, List.set_set] at this
  exact this
/-- One row more at the end. -/
theorem Mx.addRow {w'' : World} (h : Mx w0 w tO tR v vs M) (hg : w.grownBy w' none) {rv : Value} {row : List Int} (hr : Own w' w.heap.size tR rv (row.map (Value.int .i64))) {B g cap : Nat} (A : App w' B tO v vs rv g cap w'') :
    Mx w0 w'' tO tR (.slice (some ⟨g, 0, none⟩) (vs.length + 1) cap) (vs ++ [rv]) (M ++ [row]) := by
  have h' := h.kept hg
  have hgl : g < w'.heap.size → v.ownBlock = some g := fun hl => by
    rcases A.lies with e | e
    · exact e
    · omega
  have getV : ∀ j, j < vs.length → (vs ++ [rv]).getD j nilV = vs.getD j nilV := fun j hj => by
    simp only [List.getD_eq_getElem?_getD, List.getElem?_append_left hj]
  have getM : ∀ j, j < vs.length → (M ++ [row]).getD j [] = M.getD j [] := fun j hj => by
    rw [h.len] at hj
    simp only [List.getD_eq_getElem?_getD, List.getElem?_append_left hj]
  have getV' : (vs ++ [rv]).getD vs.length nilV = rv := by simp [List.getD_eq_getElem?_getD]
  have getM' : (M ++ [row]).getD vs.length [] = row := by rw [h.len]; simp [List.getD_eq_getElem?_getD]
  have gnew : w0.heap.size ≤ g := by
    rcases A.lies with e | e
    · exact (h'.out.lt e).1
    · rw [e]; exact h'.g.size
  have hne : ∀ i k, i < vs.length → (vs.getD i nilV).ownBlock = some k → v.ownBlock ≠ some k := h.away
  have hgr : w0.grownBy w'' none := grown_new h'.g A.grown (fun k hk _ => (h'.out.lt hk).1)
  have own0 : Own w'' w0.heap.size tO (.slice (some ⟨g, 0, none⟩) (vs ++ [rv]).length cap) (vs ++ [rv]) := by
    have := A.own
    rw [show vs.length + 1 = (vs ++ [rv]).length by simp] at this
    exact own_from this gnew
  refine ⟨hgr, ?_, by simp [h.len], fun i hi => ?_, fun i j k hi hj hij a b => ?_, fun i k hi a => ?_⟩
  · rw [show vs.length + 1 = (vs ++ [rv]).length by simp]; exact own0
  · rw [List.length_append, List.length_singleton] at hi
    by_cases e : i = vs.length
    · subst e
      rw [getV', getM']
      exact (hr.keepAt A.grown (fun k hk e => by have := (hr.lt hk).1; have := (h.out.lt e).2; omega)).mono h.g.size
    · rw [getV i (by omega), getM i (by omega)]
      exact (h'.rows i (by omega)).keepAt A.grown (fun k hk e => h.away i k (by omega) hk e)
  · rw [List.length_append, List.length_singleton] at hi hj
    by_cases e : i = vs.length
    · subst e
      rw [getV'] at a
      rw [getV j (by omega)] at b
      have := (hr.lt a).1
      have := ((h.rows j (by omega)).lt b).2
      omega
    · rw [getV i (by omega)] at a
      by_cases e2 : j = vs.length
      · subst e2
        rw [getV'] at b
        have := (hr.lt b).1
        have := ((h.rows i (by omega)).lt a).2
        omega
      · rw [getV j (by omega)] at b
        exact h.apart i j k (by omega) (by omega) hij a b
  · rw [List.length_append, List.length_singleton] at hi
    intro e3
    have e4 : g = k := by simpa [Value.ownBlock] using e3
    subst e4
    by_cases e : i = vs.length
    · subst e
      rw [getV'] at a
      have h1 := hr.lt a
      have := (h.out.lt (hgl h1.2)).2
      omega
    · rw [getV i (by omega)] at a
      have h1 := (h'.rows i (by omega)).lt a
      exact h.away i g (by omega) a (hgl h1.2)
/-- Two rows exchanged. -/
def swapL {α : Type} (l : List α) (d : α) (i j : Nat) : List α := (l.set i (l.getD j d)).set j (l.getD i d)
theorem swapL_length {α : Type} (l : List α) (d : α) (i j : Nat) : (swapL l d i j).length = l.length := by simp [swapL]
theorem swapL_get {α : Type} (l : List α) (d : α) {i j : Nat} (hi : i < l.length) (hj : j < l.length) (k : Nat) : (swapL l d i j).getD k d = if j = k then l.getD i d else if i = k then l.getD j d else l.getD k d := by
  unfold swapL
  rw [getD_set _ _ _ _ _ (by simpa using hj), getD_set _ _ _ _ _ hi]
theorem Mx.swap {g n c : Nat} (h : Mx w0 w tO tR (.slice (some ⟨g, 0, none⟩) n c) vs M) {i j : Nat} (hi : i < M.length) (hj : j < M.length) :
    Mx w0 ((w.setCell ⟨g, i, none⟩ (vs.getD j nilV)).setCell ⟨g, j, none⟩ (vs.getD i nilV)) tO tR (.slice (some ⟨g, 0, none⟩) n c) (swapL vs nilV i j) (swapL M [] i j) := by
  have hi' : i < vs.length := by rw [h.len]; exact hi
  have hj' : j < vs.length := by rw [h.len]; exact hj
  have hg0 : w0.heap.size ≤ g := (h.out.lt rfl).1
  have gs : w.grownBy ((w.setCell ⟨g, i, none⟩ (vs.getD j nilV)).setCell ⟨g, j, none⟩ (vs.getD i nilV)) (some g) := grown_trans (grown_setCell w g i none _) (grown_setCell _ g j none _)
  have getV := swapL_get vs nilV hi' hj'
  have getM := swapL_get M [] hi hj
  obtain ⟨p, hp⟩ : ∃ p : Nat → Nat, ∀ k, p k = if j = k then i else if i = k then j else k := ⟨_, fun _ => rfl⟩
  have hV : ∀ k, (swapL vs nilV i j).getD k nilV = vs.getD (p k) nilV := fun k => by rw [getV, hp]; split <;> (try split) <;> rfl
  have hM : ∀ k, (swapL M [] i j).getD k [] = M.getD (p k) [] := fun k => by rw [getM, hp]; split <;> (try split) <;> rfl
  have hpl : ∀ k, k < vs.length → p k < vs.length := fun k hk => by rw [hp]; split <;> (try split) <;> omega
  have hpi : ∀ k l, k ≠ l → p k ≠ p l := fun k l hkl => by
    rw [hp, hp]; repeat' split
    all_goals omega
  refine ⟨grown_new h.g gs (fun k hk _ => by cases hk; exact hg0), (h.out.stored i _).stored j _, by rw [swapL_length, swapL_length]; exact h.len, fun k hk => ?_, fun k l m hk hl hkl a b => ?_, fun k m hk a => ?_⟩
  · rw [swapL_length] at hk
    rw [hV, hM]
    exact (h.rows _ (hpl k hk)).keepAt gs (fun m hm e => h.away _ m (hpl k hk) hm e)
  · rw [swapL_length] at hk hl
    rw [hV] at a b
    exact h.apart _ _ m (hpl k hk) (hpl l hl) (hpi k l hkl) a b
  · rw [swapL_length] at hk
    rw [hV] at a
    exact h.away _ m (hpl k hk) a
/-- What is read of a row that has numbers. -/
theorem Mx.row (h : Mx w0 w tO tR v vs M) {i : Nat} (hi : i < M.length) : ∃ u : Value, vs.getD i nilV = u ∧ Il w u (M.getD i []) := ⟨_, rfl, (h.rows i (by rw [h.len]; exact hi)).sl⟩
theorem Mx.rowAt (h : Mx w0 w tO tR v vs M) {i : Nat} (hi : i < M.length) (hne : 0 < (M.getD i []).length) : ∃ b c, vs.getD i nilV = .slice (some ⟨b, 0, none⟩) (M.getD i []).length c ∧ b < w.heap.size ∧ w0.heap.size ≤ b ∧ (M.getD i []).length ≤ c ∧ c ≤ 9223372036854775807 ∧
    (∀ j, j < (M.getD i []).length → w.cell? ⟨b, j, none⟩ = some (.int .i64 ((M.getD i []).getD j 0)) ∧ w.frozen? ⟨b, j, none⟩ = false) := by
  have hr := h.rows i (by rw [h.len]; exact hi)
  obtain ⟨b, c, e, h1, h2, h3, h4⟩ := hr.formN (by simpa using hne)
  rw [List.length_map] at e h3
  refine ⟨b, c, e, h2, h1, h3, h4, fun j hj => ?_⟩
  rw [e] at hr
  obtain ⟨a1, a2, _⟩ := hr.cell j hj
  refine ⟨?_, a2⟩
  rw [a1, List.getElem?_map, List.getElem?_eq_getElem hj, get_at _ 0 j hj]
  rfl
theorem Mx.outAt {g n c : Nat} (h : Mx w0 w tO tR (.slice (some ⟨g, 0, none⟩) n c) vs M) {i : Nat} (hi : i < M.length) : w.cell? ⟨g, i, none⟩ = some (vs.getD i nilV) ∧ w.frozen? ⟨g, i, none⟩ = false ∧ g < w.heap.size := by
  have hi' : i < vs.length := by rw [h.len]; exact hi
  obtain ⟨_, _, _, hn, _⟩ := h.out.block
  obtain ⟨a1, a2, a3⟩ := h.out.cell i (by omega)
  refine ⟨?_, a2, a3⟩
  rw [a1]
  simp [List.getD_eq_getElem?_getD, hi']
end
end Domi

/- Determinants by elimination without fractions, as both sides reckon them: plain. -/
set_option linter.unusedVariables false
namespace Domi
open Go Go.RowKit

def ent (M : List (List Int)) (i j : Nat) : Int := (M.getD i []).getD j 0
/-- One number of a step. -/
def bq (a b c d l : Int) : Int := wrap64 (Int.tdiv (wrap64 (wrap64 (a * b) - wrap64 (c * d))) l)
/-- The first row from m on that has a number in column k. -/
def piv (A : Nat → Nat → Int) (k : Nat) : Nat → Nat → Option Nat
  | 0, _ => none
  | f + 1, m => if A m k ≠ 0 then some m else piv A k f (m + 1)
def swapF (A : Nat → Nat → Int) (i k : Nat) : Nat → Nat → Int := fun x y => A (if x = k then i else if x = i then k else x) y
def stepF (B : Nat → Nat → Int) (k : Nat) (l : Int) : Nat → Nat → Int := fun i j => bq (B i j) (B k k) (B i k) (B k j) l
def detF : Nat → Nat → (Nat → Nat → Int) → Int → Int → Int
  | 0, _, _, s, l => wrap64 (s * l)
  | f + 1, k, A, s, l => match piv A k (f + 1) k with
    | none => 0
    | some p => detF f (k + 1) (stepF (swapF A p k) k l) (if p = k then s else wrap64 (-s)) (A p k)
def detM (M : List (List Int)) : Int := detF M.length 0 (ent M) 1 1

theorem piv_none {A : Nat → Nat → Int} {k : Nat} : ∀ {f m : Nat}, (∀ i, m ≤ i → i < m + f → A i k = 0) → piv A k f m = none
  | 0, _, _ => rfl
  | f + 1, m, h => by
    rw [piv, if_neg (by simpa using h m (Nat.le_refl _) (by omega))]
    exact piv_none fun i h1 h2 => h i (by omega) (by omega)
theorem piv_some {A : Nat → Nat → Int} {k p : Nat} : ∀ {f m : Nat}, m ≤ p → p < m + f → A p k ≠ 0 → (∀ i, m ≤ i → i < p → A i k = 0) → piv A k f m = some p
  | 0, _, h1, h2, _, _ => by omega
  | f + 1, m, h1, h2, h3, h4 => by
    rw [piv]
    by_cases e : m = p
    · subst e; rw [if_pos h3]
    · rw [if_neg (by simpa using h4 m (Nat.le_refl _) (by omega))]
      exact piv_some (by omega) (by omega) h3 fun i a b => h4 i (by omega) b
theorem piv_congr {A A' : Nat → Nat → Int} {k : Nat} : ∀ {f m : Nat}, (∀ i, m ≤ i → i < m + f → A i k = A' i k) → piv A k f m = piv A' k f m
  | 0, _, _ => rfl
  | f + 1, m, h => by
    rw [piv, piv, h m (Nat.le_refl _) (by omega), piv_congr fun i a b => h i (by omega) (by omega)]
theorem piv_spec {A : Nat → Nat → Int} {k p : Nat} : ∀ {f m : Nat}, piv A k f m = some p → (m ≤ p ∧ p < m + f) ∧ A p k ≠ 0
  | 0, _, h => by simp [piv] at h
  | f + 1, m, h => by
    rw [piv] at h
    split at h
    · rename_i h1
      have e : m = p := by simpa using h
      subst e; exact ⟨⟨Nat.le_refl _, by omega⟩, h1⟩
    · have := piv_spec h
      exact ⟨by omega, this.2⟩
/-- Only the numbers from k on are read. -/
theorem detF_congr : ∀ {f k : Nat} {A A' : Nat → Nat → Int} {s l : Int}, (∀ i j, k ≤ i → i < k + f → k ≤ j → j < k + f → A i j = A' i j) → detF f k A s l = detF f k A' s l
  | 0, _, _, _, _, _, _ => rfl
  | f + 1, k, A, A', s, l, h => by
    rw [detF, detF, piv_congr (A' := A') fun i a b => h i k a b (Nat.le_refl _) (by omega)]
    cases hp : piv A' k (f + 1) k with
    | none => rfl
    | some p =>
      obtain ⟨⟨p1, p2⟩, _⟩ := piv_spec hp
      simp only
      rw [h p k p1 p2 (Nat.le_refl _) (by omega)]
      refine detF_congr fun i j a b c d => ?_
      have hs : ∀ x y, k ≤ x → x < k + (f + 1) → k ≤ y → y < k + (f + 1) → swapF A p k x y = swapF A' p k x y := fun x y a b c d => by
        unfold swapF
        refine h _ _ ?_ ?_ c d
        · split <;> (try split) <;> omega
        · split <;> (try split) <;> omega
      unfold stepF
      rw [hs i j (by omega) (by omega) (by omega) (by omega), hs k k (by omega) (by omega) (by omega) (by omega), hs i k (by omega) (by omega) (by omega) (by omega), hs k j (by omega) (by omega) (by omega) (by omega)]
theorem detF_none {f k : Nat} {A : Nat → Nat → Int} {s l : Int} (h : ∀ i, k ≤ i → i < k + (f + 1) → A i k = 0) : detF (f + 1) k A s l = 0 := by
  rw [detF, piv_none h]
theorem detF_some {f k p : Nat} {A : Nat → Nat → Int} {s l : Int} (h1 : k ≤ p) (h2 : p < k + (f + 1)) (h3 : A p k ≠ 0) (h4 : ∀ i, k ≤ i → i < p → A i k = 0) :
    detF (f + 1) k A s l = detF f (k + 1) (stepF (swapF A p k) k l) (if p = k then s else wrap64 (-s)) (A p k) := by
  rw [detF, piv_some h1 h2 h3 h4]

/-! ### the matrix in memory -/
def SqM (n : Nat) (M : List (List Int)) : Prop := M.length = n ∧ ∀ i, i < n → (M.getD i []).length = n
section
variable {n k : Nat} {M : List (List Int)}
theorem SqM.put (h : SqM n M) {i j : Nat} (hi : i < n) {x : Int} : SqM n (M.set i ((M.getD i []).set j x)) := by
  refine ⟨by simpa using h.1, fun a ha => ?_⟩
  rw [getD_set _ _ _ _ _ (by rw [h.1]; exact hi)]
  split
  · rw [List.length_set]; exact h.2 i hi
  · exact h.2 a ha
theorem SqM.swap (h : SqM n M) {i j : Nat} (hi : i < n) (hj : j < n) : SqM n (swapL M [] i j) := by
  refine ⟨by rw [swapL_length]; exact h.1, fun a ha => ?_⟩
  rw [swapL_get _ _ (by rw [h.1]; exact hi) (by rw [h.1]; exact hj)]
  split
  · exact h.2 i hi
  · split
    · exact h.2 j hj
    · exact h.2 a ha
theorem ent_put (h : SqM n M) {i j a b : Nat} (hi : i < n) (hj : j < n) {x : Int} : ent (M.set i ((M.getD i []).set j x)) a b = if a = i ∧ b = j then x else ent M a b := by
  unfold ent
  rw [getD_set _ _ _ _ _ (by rw [h.1]; exact hi)]
  by_cases e : i = a
  · subst e
    rw [if_pos rfl, getD_set _ _ _ _ _ (by rw [h.2 i hi]; exact hj)]
    by_cases e2 : j = b
    · rw [if_pos e2, if_pos ⟨rfl, e2.symm⟩]
    · rw [if_neg e2, if_neg (fun h => e2 h.2.symm)]
  · rw [if_neg e, if_neg (fun h => e h.1.symm)]
theorem ent_swap (h : SqM n M) {i j : Nat} (hi : i < n) (hj : j < n) (a b : Nat) : ent (swapL M [] i j) a b = swapF (ent M) i j a b := by
  unfold swapF
  show ((swapL M [] i j).getD a []).getD b 0 = (M.getD (if a = j then i else if a = i then j else a) []).getD b 0
  rw [swapL_get _ _ (by rw [h.1]; exact hi) (by rw [h.1]; exact hj)]
  by_cases e : a = j
  · rw [if_pos e, if_pos e.symm]
  · rw [if_neg e, if_neg (fun h => e h.symm)]
    by_cases e2 : a = i
    · rw [if_pos e2, if_pos e2.symm]
    · rw [if_neg e2, if_neg (fun h => e2 h.symm)]
theorem swapF_self (A : Nat → Nat → Int) (k : Nat) : swapF A k k = A := by
  funext x y
  unfold swapF
  by_cases e : x = k
  · subst e; rw [if_pos rfl]
  · rw [if_neg e, if_neg e]

/-- In the midst of a step: the numbers at the places D are done. -/
structure Elim (n k : Nat) (l : Int) (B : Nat → Nat → Int) (D : Nat → Nat → Prop) (M : List (List Int)) : Prop where
  sq : SqM n M
  top : ∀ j, k ≤ j → j < n → ent M k j = B k j
  done : ∀ i j, k < i → i < n → k ≤ j → j < n → D i j → ent M i j = stepF B k l i j
  left : ∀ i j, k < i → i < n → k ≤ j → j < n → ¬ D i j → ent M i j = B i j
variable {l : Int} {B : Nat → Nat → Int} {D D' : Nat → Nat → Prop}
theorem Elim.start (h : SqM n M) (hB : ∀ i j, k ≤ i → i < n → k ≤ j → j < n → ent M i j = B i j) (hD : ∀ i j, k < i → i < n → k ≤ j → j < n → ¬ D i j) (hk : k < n) : Elim n k l B D M :=
  ⟨h, fun j a b => hB k j (Nat.le_refl _) hk a b, fun i j a b c d e => absurd e (hD i j a b c d), fun i j a b c d _ => hB i j (by omega) b c d⟩
theorem Elim.congr (h : Elim n k l B D M) (hD : ∀ i j, k < i → i < n → k ≤ j → j < n → (D i j ↔ D' i j)) : Elim n k l B D' M :=
  ⟨h.sq, h.top, fun i j a b c d e => h.done i j a b c d ((hD i j a b c d).2 e), fun i j a b c d e => h.left i j a b c d fun e2 => e ((hD i j a b c d).1 e2)⟩
theorem Elim.put (h : Elim n k l B D M) {i j : Nat} (hi : k < i ∧ i < n) (hj : k ≤ j ∧ j < n) (h1 : ¬ D i j) (h2 : ¬ D i k) (hD : ∀ a b, k < a → a < n → k ≤ b → b < n → (D' a b ↔ D a b ∨ (a = i ∧ b = j))) :
    Elim n k l B D' (M.set i ((M.getD i []).set j (bq (ent M i j) (ent M k k) (ent M i k) (ent M k j) l))) := by
  have hv : bq (ent M i j) (ent M k k) (ent M i k) (ent M k j) l = stepF B k l i j := by
    unfold stepF
    rw [h.left i j hi.1 hi.2 hj.1 hj.2 h1, h.left i k hi.1 hi.2 (Nat.le_refl _) (by omega) h2, h.top k (Nat.le_refl _) (by omega), h.top j hj.1 hj.2]
  rw [hv]
  have he := fun a b => ent_put h.sq (a := a) (b := b) hi.2 hj.2 (x := stepF B k l i j)
  refine ⟨h.sq.put hi.2, fun b c d => ?_, fun a b c d e f g => ?_, fun a b c d e f g => ?_⟩
  · rw [he, if_neg (by omega)]; exact h.top b c d
  · rw [he]
    by_cases e2 : a = i ∧ b = j
    · rw [if_pos e2, e2.1, e2.2]
    · rw [if_neg e2]
      exact h.done a b c d e f (((hD a b c d e f).1 g).resolve_right e2)
  · rw [he]
    have g' := fun x => g ((hD a b c d e f).2 x)
    rw [if_neg (fun x => g' (.inr x))]
    exact h.left a b c d e f fun x => g' (.inl x)
theorem Elim.all (h : Elim n k l B D M) (hD : ∀ i j, k < i → i < n → k < j → j < n → D i j) (i j : Nat) (hi : k + 1 ≤ i) (hin : i < n) (hj : k + 1 ≤ j) (hjn : j < n) : ent M i j = stepF B k l i j :=
  h.done i j (by omega) hin (by omega) hjn (hD i j (by omega) hin (by omega) hjn)
end
end Domi

/- Valid matrices: plain. -/
set_option linter.unusedVariables false
namespace Domi
open Go Go.RowKit

def rowB (n : Nat) (row : List Int) : Bool := decide (row.length = n) && row.all fun x => inB x (-1) 1
def matB (M : List (List Int)) : Bool := M.all (rowB M.length) && decide (M.length ≤ 12)
def detR (M : List (List Int)) : Int := if matB M then detM M else 0
theorem detR_no {M : List (List Int)} (h : matB M = false) : detR M = 0 := by unfold detR; rw [h]; rfl
theorem detR_yes {M : List (List Int)} (h : matB M = true) : detR M = detM M := by unfold detR; rw [h]; rfl
theorem matB_bad {M : List (List Int)} {k : Nat} (hk : k < M.length) (h : rowB M.length (M.getD k []) = false) : matB M = false := by
  unfold matB
  have : M.all (rowB M.length) = false := by
    cases e : M.all (rowB M.length)
    · rfl
    · rw [List.all_eq_true] at e
      have := e (M.getD k []) (by rw [← get_at _ _ _ hk]; exact List.getElem_mem _)
      rw [this] at h; cases h
  rw [this]; rfl
theorem matB_good {M : List (List Int)} (h : ∀ k, k < M.length → rowB M.length (M.getD k []) = true) : matB M = decide (M.length ≤ 12) := by
  unfold matB
  have : M.all (rowB M.length) = true := by
    rw [List.all_eq_true]
    intro row hr
    obtain ⟨k, hk, rfl⟩ := List.mem_iff_getElem.1 hr
    rw [get_at _ [] _ hk]; exact h k hk
  rw [this]; rfl
theorem rowB_len {n : Nat} {row : List Int} (h : row.length ≠ n) : rowB n row = false := by unfold rowB; rw [decide_eq_false h]; rfl
theorem rowB_bad {n : Nat} {row : List Int} {j : Nat} (hj : j < row.length) (h : inB (row.getD j 0) (-1) 1 = false) : rowB n row = false := by
  unfold rowB
  have : row.all (fun x => inB x (-1) 1) = false := by
    cases e : row.all (fun x => inB x (-1) 1)
    · rfl
    · rw [List.all_eq_true] at e
      have := e (row.getD j 0) (by rw [← get_at _ _ _ hj]; exact List.getElem_mem _)
      rw [this] at h; cases h
  rw [this, Bool.and_false]
theorem rowB_good {n : Nat} {row : List Int} (hl : row.length = n) (h : ∀ j, j < row.length → inB (row.getD j 0) (-1) 1 = true) : rowB n row = true := by
  unfold rowB
  have : row.all (fun x => inB x (-1) 1) = true := by
    rw [List.all_eq_true]
    intro x hx
    obtain ⟨k, hk, rfl⟩ := List.mem_iff_getElem.1 hx
    rw [get_at _ 0 _ hk]; exact h k hk
  rw [this, decide_eq_true hl]; rfl
theorem matB_sq {M : List (List Int)} (h : matB M = true) : SqM M.length M ∧ M.length ≤ 12 ∧ ∀ i j, i < M.length → j < M.length → -1 ≤ ent M i j ∧ ent M i j ≤ 1 := by
  unfold matB at h
  rw [Bool.and_eq_true, decide_eq_true_iff, List.all_eq_true] at h
  have hr : ∀ i, i < M.length → (M.getD i []).length = M.length ∧ ∀ x ∈ M.getD i [], inB x (-1) 1 = true := fun i hi => by
    have := h.1 (M.getD i []) (by rw [← get_at _ _ _ hi]; exact List.getElem_mem _)
    unfold rowB at this
    rw [Bool.and_eq_true, decide_eq_true_iff, List.all_eq_true] at this
    exact this
  refine ⟨⟨rfl, fun i hi => (hr i hi).1⟩, h.2, fun i j hi hj => ?_⟩
  have hj' : j < (M.getD i []).length := by rw [(hr i hi).1]; exact hj
  have := (hr i hi).2 (ent M i j) (by unfold ent; rw [← get_at _ _ _ hj']; exact List.getElem_mem _)
  exact inB_iff.1 this
end Domi

/- The matrix of signs is valid; what TilingsDet is. Plain. -/
set_option linter.unusedVariables false
namespace Domi
open Go Go.RowKit

section
variable {r : Reg}
theorem dark_len (r : Reg) (n : Nat) : ((darkTo' r n).length : Int) = r.darkTo n := by
  induction n with
  | zero => rfl
  | succ n ih =>
    cases hf : r.f n
    · rw [darkTo_no (.inl hf), Reg.darkTo_no (.inl hf), ih]
    · cases hd : darkB r.wide n
      · rw [darkTo_no (.inr hd), Reg.darkTo_no (.inr hd), ih]
      · rw [darkTo_yes hf hd, Reg.darkTo_yes hf hd, List.length_append, ← ih]; rfl
theorem light_len (r : Reg) (n : Nat) (hn : n ≤ r.cells.length) : ((lightTo' r n).length : Int) + r.darkTo n = cnt (r.cells.take n) := by
  induction n with
  | zero => rfl
  | succ n ih =>
    have ih := ih (by omega)
    rw [take_snoc r.cells false n (by omega), cnt_snoc, ← ih]
    cases hf : r.f n
    · have hf' : r.cells.getD n false = false := hf
      rw [lightTo_no (.inl hf), Reg.darkTo_no (.inl hf), hf']; simp
    · have hf' : r.cells.getD n false = true := hf
      rw [hf']
      cases hd : darkB r.wide n
      · rw [lightTo_yes hf hd, Reg.darkTo_no (.inr hd), List.length_append]; simp; omega
      · rw [lightTo_no (.inr hd), Reg.darkTo_yes hf hd]; simp; omega
theorem bal_iff : r.bal = true ↔ r.valid = true ∧ 2 * r.darks = cnt r.cells := by unfold Reg.bal; rw [Bool.and_eq_true, decide_eq_true_iff]
theorem lens_bal (h : r.bal = true) : (lightL r).length = (darkL r).length ∧ 2 * ((darkL r).length : Int) = cnt r.cells ∧ (darkL r).length ≤ 12 := by
  obtain ⟨hv, hd⟩ := bal_iff.1 h
  have h1 := dark_len r r.cells.length
  have h2 := light_len r r.cells.length (Nat.le_refl _)
  rw [List.take_length] at h2
  have h3 := (Reg.valid_iff.1 hv).2.2.2
  unfold Reg.darks at hd
  unfold lightL darkL
  omega
theorem sgn_bd (r : Reg) (a b : Int) (m : Nat) : -1 ≤ sgnTo r a b m ∧ sgnTo r a b m ≤ 1 := by
  induction m with
  | zero => simp [sgnTo]
  | succ m ih =>
    rw [sgnTo]
    split
    · unfold sgnV; split <;> omega
    · exact ih
theorem signR_row {i : Nat} (hi : i < (darkL r).length) : (signR r).getD i [] = rowTo r ((darkL r).getD i 0) 4 := by
  unfold signR
  simp only [List.getD_eq_getElem?_getD, List.getElem?_map, List.getElem?_eq_getElem hi]
  rfl
theorem signR_length (r : Reg) : (signR r).length = (darkL r).length := by simp [signR]
theorem signR_mat (h : r.bal = true) : matB (signR r) = true := by
  obtain ⟨h1, _, h3⟩ := lens_bal h
  rw [matB_good, signR_length]
  · exact decide_eq_true h3
  · intro k hk
    rw [signR_length] at hk ⊢
    rw [signR_row hk]
    refine rowB_good (by rw [rowTo_len]; exact h1) fun j hj => ?_
    rw [rowTo_len] at hj
    have : (rowTo r ((darkL r).getD k 0) 4).getD j 0 = sgnTo r ((darkL r).getD k 0) ((lightL r).getD j 0) 4 := by
      unfold rowTo
      simp only [List.getD_eq_getElem?_getD, List.getElem?_map, List.getElem?_eq_getElem hj]
      rfl
    rw [this]
    exact inB_iff.2 (sgn_bd _ _ _ _)
theorem signR_sq (h : r.bal = true) : SqM (darkL r).length (signR r) := by
  have := (matB_sq (signR_mat h)).1
  rwa [signR_length] at this
/-- What TilingsDet is. -/
def maxI (a b : Int) : Int := if a < b then b else a
def tdR (r : Reg) : Int := if r.valid then (if r.bal then maxI (detM (signR r)) (wrap64 (-(detM (signR r)))) else 0) else -1
theorem tdR_no (h : r.valid = false) : tdR r = -1 := by unfold tdR; rw [h]; rfl
theorem tdR_un (h : r.valid = true) (h2 : r.bal = false) : tdR r = 0 := by unfold tdR; rw [h, h2]; rfl
theorem tdR_yes (h2 : r.bal = true) : tdR r = maxI (detM (signR r)) (wrap64 (-(detM (signR r)))) := by
  have h := (bal_iff.1 h2).1
  unfold tdR; rw [h, h2]; rfl
theorem maxI_lt {a b : Int} (h : a < b) : maxI a b = b := if_pos h
theorem maxI_ge {a b : Int} (h : ¬ a < b) : maxI a b = a := if_neg h
end
end Domi

/- What a row's reading of a region, of lists and of numbers gives to a walk. No program is named here. -/
set_option linter.unusedVariables false
namespace Domi
open Go Go.RowKit

theorem bools_sl {w : World} {a : Addr} {len cap : Nat} {B : Nat → Bool} (hl : len ≤ cap) (hm : cap ≤ maxLen) (hc : ∀ i, i < cap → w.cell? (a.add i) = some (.bool (B i))) :
    ∃ l : List Bool, l.length = len ∧ Bl w (.slice (some a) len cap) l := by
  refine ⟨(List.range len).map B, by simp, ?_⟩
  refine ⟨some a, cap, by simp, by simp; omega, by unfold maxLen at hm; omega, ?_⟩
  by_cases h0 : len = 0
  · subst h0; left; simp
  · right
    obtain ⟨b, off, spot⟩ := a
    have h1 := hc 0 (by omega)
    have hspot : spot = none := by simpa [Addr.add] using World.cell?_spot h1
    subst hspot
    refine ⟨b, off, rfl, World.block_lt_of_cell? w ⟨b, off, none⟩ (by simpa [Addr.add] using h1), fun i hi => ?_⟩
    have hi' : i < len := by simpa using hi
    have := hc i (by omega)
    rw [show w.cell? ⟨b, off + i, none⟩ = w.cell? (Addr.add ⟨b, off, none⟩ i) by unfold Addr.add; split <;> simp_all, this]
    simp
theorem i64_wf {n : Int} (h : (Lit.int .i64 n).wf = true) : -9223372036854775808 ≤ n ∧ n ≤ 9223372036854775807 := by
  simp [Lit.wf, IntKind.min, IntKind.max, IntKind.bits, IntKind.signed] at h
  omega
theorem isRow_i64 {w : World} {a : Option Addr} {len cap : Nat} {zs : List Int} (h : IsRow .i64 w a len cap zs) :
    Il w (.slice a len cap) (zs.take len) ∧ ∀ i, i < (zs.take len).length → -9223372036854775808 ≤ (zs.take len).getD i 0 ∧ (zs.take len).getD i 0 ≤ 9223372036854775807 := by
  refine ⟨isRow_sl h, fun i hi => ?_⟩
  rcases h with ⟨rfl, rfl, rfl, rfl⟩ | ⟨x, rfl, hl, hm, hz, hc, hw⟩
  · simp at hi
  · have hi' : i < zs.length := by simp at hi; omega
    have hl' : i < len := by simp at hi; omega
    have := hw zs[i] (List.getElem_mem hi')
    have e : (zs.take len).getD i 0 = zs[i] := by simp [List.getD_eq_getElem?_getD, hl', hi']
    rw [e]
    exact i64_wf this

end Domi

/- A matrix of the call's own, marked: plain. -/
set_option linter.unusedVariables false
namespace Domi
open Go Go.RowKit

/-- How many numbers the rows before i have. -/
def offM (M : List (List Int)) : Nat → Nat
  | 0 => 0
  | i + 1 => offM M i + (M.getD i []).length
/-- The rows before i bear the marks k, k + 1, .. -/
def markRows (k : Int) (M : List (List Int)) (i : Nat) : List (List Int) :=
  (List.range M.length).map fun j => if j < i then (List.range (M.getD j []).length).map (fun t : Nat => k + (offM M j : Int) + (t : Int)) else M.getD j []
theorem markRows_len (k : Int) (M : List (List Int)) (i : Nat) : (markRows k M i).length = M.length := by simp [markRows]
theorem markRows_get {k : Int} {M : List (List Int)} {i j : Nat} (hj : j < M.length) : (markRows k M i).getD j [] = if j < i then (List.range (M.getD j []).length).map (fun t : Nat => k + (offM M j : Int) + (t : Int)) else M.getD j [] := by
  simp [markRows, List.getD_eq_getElem?_getD, hj]
theorem markRows_zero (k : Int) (M : List (List Int)) : markRows k M 0 = M := by
  refine List.ext_getElem (by simp [markRows]) fun i h1 h2 => ?_
  simp [markRows, List.getD_eq_getElem?_getD, h2]
theorem markRows_set {k : Int} {M : List (List Int)} {i : Nat} (hi : i < M.length) : (markRows k M i).set i ((List.range (M.getD i []).length).map (fun t : Nat => k + (offM M i : Int) + (t : Int))) = markRows k M (i + 1) := by
  refine List.ext_getElem (by simp [markRows]) fun j h1 h2 => ?_
  simp [markRows] at h1 h2
  rw [List.getElem_set]
  simp only [markRows, List.getElem_map, List.getElem_range]
  by_cases e : i = j
  · subst e; rw [if_pos rfl, if_pos (by omega)]
  · rw [if_neg e]
    by_cases e2 : j < i
    · rw [if_pos e2, if_pos (by omega)]
    · rw [if_neg e2, if_neg (by omega)]
theorem offM_bd {M : List (List Int)} {c : Nat} (h : ∀ i, i < M.length → (M.getD i []).length ≤ c) : ∀ i, i ≤ M.length → offM M i ≤ i * c := by
  intro i
  induction i with
  | zero => intro _; simp [offM]
  | succ i ih => intro hi; have := ih (by omega); have := h i (by omega); rw [offM, Nat.add_mul]; omega

/-- As Mx, whatever room lies behind the rows. -/
structure Mo (w0 w : World) (tO tR : TypeId) (v : Value) (vs : List Value) (M : List (List Int)) : Prop where
  g : w0.grownBy w none
  out : Ow w w0.heap.size tO v vs
  len : vs.length = M.length
  rows : ∀ i, i < vs.length → Ow w w0.heap.size tR (vs.getD i nilV) ((M.getD i []).map (Value.int .i64))
  apart : ∀ i j k, i < vs.length → j < vs.length → i ≠ j → (vs.getD i nilV).ownBlock = some k → (vs.getD j nilV).ownBlock = some k → False
  away : ∀ i k, i < vs.length → (vs.getD i nilV).ownBlock = some k → v.ownBlock ≠ some k
section
variable {w0 w w' : World} {tO tR : TypeId} {v : Value} {vs : List Value} {M : List (List Int)}
theorem Mx.mo (h : Mx w0 w tO tR v vs M) : Mo w0 w tO tR v vs M :=
  ⟨h.g, Ow.of_owns h.out, h.len, fun i hi => by have := Ow.of_owns (h.rows i hi); exact this, h.apart, h.away⟩
theorem Ow.turned {B : Nat} {e : TypeId} {v : Value} {xs : List Value} {row : Option Nat} (h : Ow w B e v xs) (hg : w.grownBy w' row) (hr : ∀ k, v.ownBlock = some k → row ≠ some k) : Ow w' B e v xs := by
  rcases h with h | ⟨g, c, cur, rfl, hB, hk, r⟩
  · exact .inl h
  · refine .inr ⟨g, c, cur, rfl, hB, ?_, r⟩
    rw [hg.block g (lt_of_heap hk) (fun e => hr g rfl e.symm)]
    exact hk
theorem Ow.base {B : Nat} {e : TypeId} {v : Value} {xs : List Value} (h : Ow w B e v xs) {k : Nat} (hk : v.ownBlock = some k) : B ≤ k ∧ k < w.heap.size := by
  rcases h with ⟨rfl, _⟩ | ⟨g, c, cur, rfl, hB, hg, r⟩
  · cases hk
  · have e : g = k := by simpa [Value.ownBlock] using hk
    subst e; exact ⟨hB, lt_of_heap hg⟩
theorem Mo.kept (h : Mo w0 w tO tR v vs M) (hg : w.grownBy w' none) : Mo w0 w' tO tR v vs M :=
  ⟨grown_new h.g hg (fun k hk _ => by cases hk), h.out.turned hg (fun k _ e => by cases e), h.len, fun i hi => (h.rows i hi).turned hg (fun k _ e => by cases e), h.apart, h.away⟩
theorem Mo.below (h : Mo w0 w tO tR v vs M) (hb : Below w.heap.size w w') : Mo w0 w' tO tR v vs M := h.kept (grown_below hb none)
theorem Mo.bel (h : Mo w0 w tO tR v vs M) : Below w0.heap.size w0 w := below_grown h.g (Nat.le_refl _) (fun i hi => by cases hi)
/-- A block that is older than the matrix has turned. -/
theorem Mo.old {wb : World} (h : Mo w0 w tO tR v vs M) {row : Option Nat} (hg : w.grownBy w' row) (hb : wb.grownBy w0 none) (h1 : ∀ k, row = some k → wb.heap.size ≤ k ∧ k < w0.heap.size) : Mo wb w' tO tR v vs M := by
  refine ⟨?_, ?_, h.len, fun i hi => ?_, h.apart, h.away⟩
  · exact grown_new (grown_new hb h.g (fun k hk _ => by cases hk)) hg (fun k hk _ => (h1 k hk).1)
  · exact (h.out.turned hg (fun k hk e => by have := (h1 k e).2; have := (h.out.base hk).1; omega)).mono hb.size
  · exact ((h.rows i hi).turned hg (fun k hk e => by have := (h1 k e).2; have := ((h.rows i hi).base hk).1; omega)).mono hb.size
theorem Mo.ll (h : Mo w0 w tO tR v vs M) : Ll w v M := by
  refine ⟨vs, h.out.sl, h.len, fun i hi => ?_⟩
  have hi' : i < vs.length := by rw [h.len]; exact hi
  have e : vs.getD i (.bool false) = vs.getD i nilV := by rw [← get_at vs (.bool false) i hi', ← get_at vs nilV i hi']
  rw [e]
  exact (h.rows i hi').sl
/-- One row has turned. -/
theorem Mo.turn (h : Mo w0 w tO tR v vs M) {i : Nat} (hi : i < M.length) (hg : w.grownBy w' (vs.getD i nilV).ownBlock) {row : List Int} (ho : Ow w' w0.heap.size tR (vs.getD i nilV) (row.map (Value.int .i64))) : Mo w0 w' tO tR v vs (M.set i row) := by
  have hi' : i < vs.length := by rw [h.len]; exact hi
  refine ⟨grown_new h.g hg (fun k hk _ => ((h.rows i hi').base hk).1), h.out.turned hg (fun k hk e => h.away i k hi' e hk), by simpa using h.len, fun j hj => ?_, h.apart, h.away⟩
  rw [getD_set _ _ _ _ _ hi]
  by_cases e : i = j
  · subst e; rw [if_pos rfl]; exact ho
  · rw [if_neg e]; exact (h.rows j hj).turned hg (fun k hk e2 => h.apart i j k hi' hj e e2 hk)
end
end Domi

/- The numbers of the matrix of signs are the pairs side by side: plain. -/
set_option linter.unusedVariables false
namespace Domi
open Go Go.RowKit

def nzN (l : List Int) : Nat := (l.filter fun x => x != 0).length
def nzS : List (List Int) → Int
  | [] => 0
  | row :: t => (nzN row : Int) + nzS t
theorem nzS_snoc (M : List (List Int)) (row : List Int) : nzS (M ++ [row]) = nzS M + (nzN row : Int) := by
  induction M with
  | nil => simp [nzS]
  | cons a M ih => simp only [List.cons_append, nzS, ih]; omega
theorem nzN_snoc (l : List Int) (x : Int) : nzN (l ++ [x]) = nzN l + if x = 0 then 0 else 1 := by
  unfold nzN
  rw [List.filter_append, List.length_append]
  by_cases h : x = 0 <;> simp [h]
theorem nzN_le (l : List Int) : nzN l ≤ l.length := List.length_filter_le _ _

section
variable {r : Reg}
theorem dark_flip9 (hv : r.valid = true) {k : Nat} (hk : k < r.cells.length) {way : Int} (h1 : 1 ≤ way) (h4 : way ≤ 4) (h0 : 0 ≤ stepI r k way) : darkB r.wide (stepI r k way) = !darkB r.wide k := by
  obtain ⟨v1, v2, v3, _⟩ := Reg.valid_iff.1 hv
  have hs := stepI_xy (r := r) (c := (k : Int)) (way := way) (by omega) (by omega) (by omega) h1 h4
  rw [hs] at h0 ⊢
  split at h0
  · rename_i hx
    rw [if_pos hx]
    simp only [Bool.and_eq_true] at hx
    have a := inB_iff.1 hx.1
    have b := inB_iff.1 hx.2
    have e := xy_of (w := r.wide) (x := (k : Int) % r.wide + dX way) (y := (k : Int) / r.wide + dY way) (by omega) (by omega)
    unfold darkB
    rw [e.1, e.2]
    have hd : dX way + dY way = 1 ∨ dX way + dY way = -1 := by
      have : way = 1 ∨ way = 2 ∨ way = 3 ∨ way = 4 := by omega
      rcases this with rfl | rfl | rfl | rfl <;> simp [dX, dY]
    generalize (k : Int) % r.wide = x at *
    generalize (k : Int) / r.wide = y at *
    rcases Int.emod_two_eq (x + y) with h | h
    · rw [h]
      have : (x + dX way + (y + dY way)) % 2 = 1 := by omega
      rw [this]; rfl
    · rw [h]
      have : (x + dX way + (y + dY way)) % 2 = 0 := by omega
      rw [this]; rfl
  · omega
/-- As many dark cells have a neighbour in a direction as light ones in the opposite one. -/
theorem way_col_le (hv : r.valid = true) (way : Int) (h1 : 1 ≤ way) (h4 : way ≤ 4) (c : Bool) :
    num r.cells.length (fun k => (r.f k && nbr r k way && (darkB r.wide k == c)) = true) ≤ num r.cells.length (fun k => (r.f k && nbr r k ((way + 1) % 4 + 1) && (darkB r.wide k == !c)) = true) := by
  obtain ⟨v1, v2, v3, _⟩ := Reg.valid_iff.1 hv
  have hb : ∀ k : Nat, k < r.cells.length → (r.f k && nbr r k way && (darkB r.wide k == c)) = true → (0 ≤ stepI r k way ∧ stepI r (stepI r k way) ((way + 1) % 4 + 1) = k ∧ r.f (stepI r k way).toNat = true ∧ r.f k = true) ∧ darkB r.wide (stepI r k way) = !c := by
    intro k hk h
    simp only [Bool.and_eq_true, beq_iff_eq] at h
    obtain ⟨h2, h3⟩ := nbr_iff.1 h.1.2
    exact ⟨⟨h2, stepI_back (by omega) (by omega) (by omega) h1 h4 h2, h3, h.1.1⟩, by rw [dark_flip9 hv hk h1 h4 h2, h.2]⟩
  refine num_inj (fun k => (stepI r k way).toNat) (fun k hk h => ?_) (fun k j hk hj h g e => ?_)
  · obtain ⟨⟨a, b, c', d⟩, e⟩ := hb k hk h
    refine ⟨f_lt c', ?_⟩
    simp only [Bool.and_eq_true, beq_iff_eq]
    refine ⟨⟨c', nbr_iff.2 ?_⟩, ?_⟩
    · rw [Int.toNat_of_nonneg a, b]
      exact ⟨by omega, by simpa using d⟩
    · rw [Int.toNat_of_nonneg a, e]
  · obtain ⟨⟨a, b, _, _⟩, _⟩ := hb k hk h
    obtain ⟨⟨a', b', _, _⟩, _⟩ := hb j hj g
    have e' : stepI r k way = stepI r j way := by change Int.toNat _ = Int.toNat _ at e; omega
    rw [e', b'] at b
    omega
theorem way_col (hv : r.valid = true) (way : Int) (h1 : 1 ≤ way) (h2 : way ≤ 2) :
    num r.cells.length (fun k => (r.f k && nbr r k way && (darkB r.wide k == false)) = true) = num r.cells.length (fun k => (r.f k && nbr r k (way + 2) && (darkB r.wide k == true)) = true) := by
  have a := way_col_le hv way h1 (by omega) false
  have b := way_col_le hv (way + 2) (by omega) (by omega) true
  have e1 : (way + 1) % 4 + 1 = way + 2 := by omega
  have e2 : (way + 2 + 1) % 4 + 1 = way := by omega
  rw [e1] at a
  rw [e2] at b
  exact Nat.le_antisymm a b
theorem way_parts (way : Int) (n : Nat) : num n (fun k => (r.f k && nbr r k way) = true) = num n (fun k => (r.f k && nbr r k way && (darkB r.wide k == true)) = true) + num n (fun k => (r.f k && nbr r k way && (darkB r.wide k == false)) = true) := by
  rw [← num_or]
  · refine num_congr fun k _ => ?_
    cases r.f k <;> cases nbr r k way <;> cases darkB r.wide k <;> simp
  · intro k _ a b
    simp only [Bool.and_eq_true, beq_iff_eq] at a b
    rw [a.2] at b
    cases b.2
theorem sgn_nz (r : Reg) (a b : Int) : sgnTo r a b 4 ≠ 0 ↔ stepI r a 1 = b ∨ stepI r a 2 = b ∨ stepI r a 3 = b ∨ stepI r a 4 = b := by
  have hv : ∀ m, sgnV r a m ≠ 0 := fun m => by unfold sgnV; split <;> decide
  have z : ((0 : Nat) : Int) + 1 = 1 := rfl
  have o : ((1 : Nat) : Int) + 1 = 2 := rfl
  have t : ((2 : Nat) : Int) + 1 = 3 := rfl
  have q : ((3 : Nat) : Int) + 1 = 4 := rfl
  simp only [sgnTo, z, o, t, q]
  by_cases h4 : stepI r a 4 = b
  · simp [h4, hv]
  · by_cases h3 : stepI r a 3 = b
    · simp [h4, h3, hv]
    · by_cases h2 : stepI r a 2 = b
      · simp [h4, h3, h2, hv]
      · by_cases h1 : stepI r a 1 = b
        · simp [h4, h3, h2, h1, hv]
        · simp [h4, h3, h2, h1]
theorem num_filter2 (n : Nat) (p q : Nat → Bool) : (((List.range n).filter p).filter q).length = num n (fun k => p k = true ∧ q k = true) := by
  rw [List.filter_filter]
  induction n with
  | zero => rfl
  | succ n ih => 
    rw [num_succ, ← ih, List.range_succ, List.filter_append]
    by_cases h : p n = true ∧ q n = true
    · rw [if_pos h]; simp [h.1, h.2]
    · rw [if_neg h]
      cases hp : p n <;> cases hq : q n <;> simp_all
theorem nz_row (hv : r.valid = true) {a : Nat} (ha : a < r.cells.length) (hd : darkB r.wide a = true) :
    (nzN (rowTo r a 4) : Int) = (if nbr r a 1 then 1 else 0) + (if nbr r a 2 then 1 else 0) + (if nbr r a 3 then 1 else 0) + (if nbr r a 4 then 1 else 0) := by
  obtain ⟨v1, v2, v3, _⟩ := Reg.valid_iff.1 hv
  have e1 : nzN (rowTo r a 4) = num r.cells.length (fun k => (r.f k && !darkB r.wide k) = true ∧ (sgnTo r a k 4 != 0) = true) := by
    unfold nzN rowTo lightL lightTo'
    rw [List.map_map, List.filter_map, List.length_map, ← num_filter2]
    rfl
  have one : ∀ way : Int, 1 ≤ way → way ≤ 4 → (num r.cells.length (fun k => (r.f k && !darkB r.wide k) = true ∧ stepI r a way = (k : Int)) : Int) = if nbr r a way then 1 else 0 := by
    intro way h1 h4
    cases hn : nbr r a way
    · rw [num_none]; rfl
      rintro k _ ⟨h, e⟩
      simp only [Bool.and_eq_true] at h
      have := nbr_iff.2 ⟨by rw [e]; omega, by rw [e]; exact h.1⟩
      rw [this] at hn; cases hn
    · obtain ⟨h0, hf⟩ := nbr_iff.1 hn
      have hds := dark_flip9 hv ha h1 h4 h0
      rw [num_congr (R := fun k => k = (stepI r a way).toNat), num_one (f_lt hf)]; rfl
      intro k _
      constructor
      · rintro ⟨_, e⟩; omega
      · rintro rfl
        refine ⟨?_, by omega⟩
        rw [hf, Int.toNat_of_nonneg h0, hds, hd]; rfl
  have dist : ∀ k : Nat, ∀ u v : Int, 1 ≤ u → u ≤ 4 → 1 ≤ v → v ≤ 4 → u ≠ v → stepI r a u = (k : Int) → stepI r a v = (k : Int) → False := by
    intro k u v u1 u4 w1 w4 huv e f
    have hc := cell_xy (r := r) (c := (a : Int)) (by omega) (by omega) (by omega)
    have hu := stepI_xy (r := r) (c := (a : Int)) (way := u) (by omega) (by omega) (by omega) u1 u4
    have hw := stepI_xy (r := r) (c := (a : Int)) (way := v) (by omega) (by omega) (by omega) w1 w4
    rw [e] at hu
    rw [f] at hw
    split at hu
    · split at hw
      · rename_i hx hy
        simp only [Bool.and_eq_true, inB_iff] at hx hy
        have p := xy_of (w := r.wide) (x := (a : Int) % r.wide + dX u) (y := (a : Int) / r.wide + dY u) (by omega) (by omega)
        have q := xy_of (w := r.wide) (x := (a : Int) % r.wide + dX v) (y := (a : Int) / r.wide + dY v) (by omega) (by omega)
        rw [← hu] at p
        rw [← hw] at q
        have hX : dX u = dX v := by omega
        have hY : dY u = dY v := by omega
        have : u = 1 ∨ u = 2 ∨ u = 3 ∨ u = 4 := by omega
        have : v = 1 ∨ v = 2 ∨ v = 3 ∨ v = 4 := by omega
        rcases ‹u = 1 ∨ _› with rfl | rfl | rfl | rfl <;> rcases ‹v = 1 ∨ _› with rfl | rfl | rfl | rfl <;> simp [dX, dY] at hX hY huv
      · omega
    · omega
  have e2 : num r.cells.length (fun k => (r.f k && !darkB r.wide k) = true ∧ (sgnTo r a k 4 != 0) = true) =
      num r.cells.length (fun k => (r.f k && !darkB r.wide k) = true ∧ stepI r a 1 = (k : Int)) + num r.cells.length (fun k => (r.f k && !darkB r.wide k) = true ∧ stepI r a 2 = (k : Int)) +
      num r.cells.length (fun k => (r.f k && !darkB r.wide k) = true ∧ stepI r a 3 = (k : Int)) + num r.cells.length (fun k => (r.f k && !darkB r.wide k) = true ∧ stepI r a 4 = (k : Int)) := by
    rw [← num_or, ← num_or, ← num_or]
    · refine num_congr fun k _ => ?_
      have := sgn_nz r a k
      rw [bne_iff_ne, this]
      constructor
      · rintro ⟨h, h1 | h1 | h1 | h1⟩
        · exact .inl (.inl (.inl ⟨h, h1⟩))
        · exact .inl (.inl (.inr ⟨h, h1⟩))
        · exact .inl (.inr ⟨h, h1⟩)
        · exact .inr ⟨h, h1⟩
      · rintro (((⟨h, h1⟩ | ⟨h, h1⟩) | ⟨h, h1⟩) | ⟨h, h1⟩)
        · exact ⟨h, .inl h1⟩
        · exact ⟨h, .inr (.inl h1)⟩
        · exact ⟨h, .inr (.inr (.inl h1))⟩
        · exact ⟨h, .inr (.inr (.inr h1))⟩
    · rintro k _ ((⟨_, h1⟩ | ⟨_, h1⟩) | ⟨_, h1⟩) ⟨_, h2⟩
      · exact dist k 1 4 (by omega) (by omega) (by omega) (by omega) (by omega) h1 h2
      · exact dist k 2 4 (by omega) (by omega) (by omega) (by omega) (by omega) h1 h2
      · exact dist k 3 4 (by omega) (by omega) (by omega) (by omega) (by omega) h1 h2
    · rintro k _ (⟨_, h1⟩ | ⟨_, h1⟩) ⟨_, h2⟩
      · exact dist k 1 3 (by omega) (by omega) (by omega) (by omega) (by omega) h1 h2
      · exact dist k 2 3 (by omega) (by omega) (by omega) (by omega) (by omega) h1 h2
    · rintro k _ ⟨_, h1⟩ ⟨_, h2⟩
      exact dist k 1 2 (by omega) (by omega) (by omega) (by omega) (by omega) h1 h2
  have o1 := one 1 (by omega) (by omega)
  have o2 := one 2 (by omega) (by omega)
  have o3 := one 3 (by omega) (by omega)
  have o4 := one 4 (by omega) (by omega)
  rw [e1, e2, ← o1, ← o2, ← o3, ← o4]
  push_cast
  omega
theorem nz_row_le (hv : r.valid = true) {a : Nat} (ha : a < r.cells.length) (hd : darkB r.wide a = true) : nzN (rowTo r a 4) ≤ 4 := by
  have := nz_row hv ha hd
  split at this <;> split at this <;> split at this <;> split at this <;> omega
theorem nz_sum (hv : r.valid = true) : nzS (signR r) = pairTo r r.cells.length := by
  have h1 : ∀ n, n ≤ r.cells.length → nzS (signS r n) = sumI (fun k => (if (r.f k && nbr r k 1 && (darkB r.wide k == true)) then 1 else 0) + (if (r.f k && nbr r k 2 && (darkB r.wide k == true)) then 1 else 0) + (if (r.f k && nbr r k 3 && (darkB r.wide k == true)) then 1 else 0) + (if (r.f k && nbr r k 4 && (darkB r.wide k == true)) then 1 else 0)) n := by
    intro n
    induction n with
    | zero => intro _; rfl
    | succ n ih =>
      intro hn
      rw [sumI, ← ih (by omega)]
      cases hf : r.f n
      · rw [signS_no (.inl hf)]; simp
      · cases hd : darkB r.wide n
        · rw [signS_no (.inr hd)]; simp
        · rw [signS_yes hf hd, nzS_snoc, nz_row hv (by omega) hd]; simp
  have h2 := h1 _ (Nat.le_refl _)
  rw [signS_all] at h2
  rw [h2, sumI_add, sumI_add, sumI_add, sumI_num, sumI_num, sumI_num, sumI_num]
  have e2 : pairTo r r.cells.length = sumI (fun k => if (r.f k && nbr r k 1) then 1 else 0) r.cells.length + sumI (fun k => if (r.f k && nbr r k 2) then 1 else 0) r.cells.length := by
    unfold pairTo; rw [sumI_add]
  rw [e2, sumI_num, sumI_num, way_parts 1, way_parts 2, way_col hv 1 (by omega) (by omega), way_col hv 2 (by omega) (by omega)]
  simp only [show (1 : Int) + 2 = 3 from rfl, show (2 : Int) + 2 = 4 from rfl]
  push_cast
  omega
/-- The law of SignMatrix. -/
theorem sign_law (h : r.bal = true) : 2 * ((signR r).length : Int) = cnt r.cells ∧ 2 * nzS (signR r) = 4 * cnt r.cells - bordTo r r.cells.length ∧ ∀ i, i < (signR r).length → nzN ((signR r).getD i []) ≤ 4 := by
  have hv := (bal_iff.1 h).1
  refine ⟨by rw [signR_length]; exact (lens_bal h).2.1, by rw [nz_sum hv]; have := border_law hv; omega, fun i hi => ?_⟩
  rw [signR_length] at hi
  rw [signR_row hi]
  obtain ⟨k, h1, ⟨h2, h3⟩, h4⟩ := mem_dark.1 (show (darkL r).getD i 0 ∈ darkL r by rw [← get_at _ _ _ hi]; exact List.getElem_mem _)
  rw [← h4]
  exact nz_row_le hv h1 h3
end
end Domi

/- Simple regions, the search and the queue over places beside each other: plain. -/
set_option linter.unusedVariables false
namespace Domi
open Go Go.RowKit

/-- Two free places of the wider field, the one beside the other. -/
def F4 (r : Reg) (a b : Nat) : Prop := r.fr a = true ∧ r.fr b = true ∧ A4 ((b : Int) % (r.wide + 2) - (a : Int) % (r.wide + 2)) ((b : Int) / (r.wide + 2) - (a : Int) / (r.wide + 2))
/-- How many parts the free places have. -/
noncomputable def Reg.outs (r : Reg) : Nat := rootsN (F4 r) r.fr r.n2
noncomputable def Reg.simB (r : Reg) : Bool := r.valid && (decide (r.outs = 1) && decide (r.pmany = 1))
section
variable {r : Reg} {x y : Int} {k c : Nat}
theorem F4.symm {a b : Nat} (h : F4 r a b) : F4 r b a := ⟨h.2.1, h.1, by have := h.2.2; unfold A4 at *; omega⟩
theorem F4.near {a b : Nat} (h : F4 r a b) : E8 r a b := ⟨h.1, h.2.1, by have := h.2.2; unfold A4 at this; omega⟩
theorem F4_plc (h1 : 1 ≤ r.wide) (h2 : 1 ≤ r.tall) (hc : plc r x y c) (hf : r.fr c = true) (hk : r.fr k = true) :
    (((plc r (x + 1) y k ∨ plc r (x - 1) y k) ∨ plc r x (y + 1) k) ∨ plc r x (y - 1) k) ↔ F4 r c k := by
  obtain ⟨a1, a2, a3⟩ := hc.inv h1 h2
  unfold F4 A4
  rw [a2, a3]
  constructor
  · rintro (((h | h) | h) | h)
    all_goals
      obtain ⟨_, b2, b3⟩ := h.inv h1 h2
      rw [b2, b3]
      exact ⟨hf, hk, by omega⟩
  · rintro ⟨_, _, e⟩
    have hp := plc_at h1 h2 (fr_lt hk)
    have goal : ∀ dx dy : Int, (k : Int) % (r.wide + 2) = x + dx → (k : Int) / (r.wide + 2) = y + dy → plc r (x + dx) (y + dy) k := fun dx dy e1 e2 => by rw [← e1, ← e2]; exact hp
    rcases e with e | e | e | e
    · have := goal 1 0 (by omega) (by omega); rw [Int.add_zero] at this; exact .inl (.inl (.inl this))
    · have := goal 0 1 (by omega) (by omega); rw [Int.add_zero] at this; exact .inl (.inr this)
    · have := goal (-1) 0 (by omega) (by omega); rw [Int.add_zero] at this; exact .inl (.inl (.inr this))
    · have := goal 0 (-1) (by omega) (by omega); rw [Int.add_zero] at this; exact .inr this
theorem dfs4_all (h1 : 1 ≤ r.wide) (h2 : 1 ≤ r.tall) {M M1 M2 M3 M4 : List Bool} (hl : M.length = r.n2) (hc : plc r x y c) (hf : r.fr c = true)
    (g1 : Dfs (F4 r) r.fr (M.set c true) M1 (plc r (x + 1) y)) (g2 : Dfs (F4 r) r.fr M1 M2 (plc r (x - 1) y)) (g3 : Dfs (F4 r) r.fr M2 M3 (plc r x (y + 1))) (g4 : Dfs (F4 r) r.fr M3 M4 (plc r x (y - 1))) :
    Dfs (F4 r) r.fr M M4 (plc r x y) :=
  (Dfs.visit (E := F4 r) (by rw [hl]; exact fr_lt hf) (fun _ _ e => e.2.1) ((((g1.seq g2).seq g3).seq g4).congr fun _ hk => F4_plc h1 h2 hc hf hk) hf).congr fun k hk => ⟨fun e => by subst e; exact hc, fun e => e.uniq hc⟩
theorem dfs4_out {M : List Bool} (h : ¬ (0 ≤ x ∧ x < r.wide + 2 ∧ 0 ≤ y ∧ y < r.tall + 2)) : Dfs (F4 r) r.fr M M (plc r x y) :=
  .nothing fun _ hk _ => absurd ⟨hk.1, hk.2.1, hk.2.2.1, hk.2.2.2.1⟩ h
theorem dfs4_met {M : List Bool} (hc : plc r x y c) (h : M.getD c false = true) : Dfs (F4 r) r.fr M M (plc r x y) :=
  .nothing fun k hk _ => by rw [hk.uniq hc]; exact h
theorem dfs4_cell {M : List Bool} (h1 : 1 ≤ r.wide) (h2 : 1 ≤ r.tall) (h : r.at_ (x - 1) (y - 1) = true) : Dfs (F4 r) r.fr M M (plc r x y) :=
  .nothing fun k hk hf => by rw [hk.fr h1 h2, h] at hf; cases hf
end

/-! ### how many are met -/
theorem num_grow {n m : Nat} (h : n ≤ m) (Q : Nat → Prop) : num n Q ≤ num m Q := by
  induction h with
  | refl => exact Nat.le_refl _
  | step _ ih => rw [num_succ]; omega
theorem num_bool (M : List Bool) : (num M.length (fun j => M.getD j false = true) : Int) = cnt M := by
  have := num_cnt ⟨0, 0, M⟩
  exact this
theorem zero_plc {r : Reg} (h1 : 1 ≤ r.wide) (h2 : 1 ≤ r.tall) : plc r 0 0 0 := ⟨by omega, by omega, by omega, by omega, by simp⟩
theorem zero_fr {r : Reg} (h1 : 1 ≤ r.wide) (h2 : 1 ≤ r.tall) : r.fr 0 = true := by
  rw [(zero_plc h1 h2).fr h1 h2]
  unfold Reg.at_
  rw [show inB (0 - 1) 0 (r.wide - 1) = false by unfold inB; simp]
  rfl
section
variable {r : Reg}
/-- The free places are as many as all, less the cells. -/
theorem free_num (hv : r.valid = true) : (num r.n2 (fun k => r.fr k = true) : Int) = r.n2 - cnt r.cells := by
  obtain ⟨v1, v2, v3, _⟩ := Reg.valid_iff.1 hv
  have hn := n2_int (r := r) (by omega) (by omega)
  have hno : num r.n2 (fun k => ¬ r.fr k = true) = num r.cells.length (fun k => r.f k = true) := by
    have hl : ∀ E : Nat → Nat → Prop, (∀ a b, ¬ E a b) → ∀ k, least E k = k := fun E hE k => by
      have h1 := least_conn E k
      generalize least E k = m at h1
      cases h1 with
      | refl => rfl
      | step _ e => exact absurd e (hE _ _)
    have key := num_carry (n := r.n2) (m := r.cells.length) (E := fun _ _ => False) (F := fun _ _ => False) (P := fun k => k < r.n2 ∧ ¬ r.fr k = true) (Q := fun k => r.f k = true)
      (f := fun k => ((((k : Int) / (r.wide + 2) - 1) * r.wide + ((k : Int) % (r.wide + 2) - 1)).toNat)) (g := fun k => (((k : Int) / r.wide + 1) * (r.wide + 2) + ((k : Int) % r.wide + 1)).toNat)
      (fun _ _ h => h) (fun _ _ h => h) (fun _ h => h.1) (fun _ h => f_lt h)
      (fun a ha => by
        have hat : r.at_ ((a : Int) % (r.wide + 2) - 1) ((a : Int) / (r.wide + 2) - 1) = true := by
          have h2 := ha.2
          unfold Reg.fr at h2
          rw [decide_eq_true ha.1, Bool.true_and] at h2
          simpa using h2
        unfold Reg.at_ at hat
        simp only [Bool.and_eq_true, inB_iff] at hat
        obtain ⟨⟨hx, hy⟩, hg⟩ := hat
        have hl1 := grid_of (W := r.wide) (T := r.tall) (x := (a : Int) % (r.wide + 2) - 1) (y := (a : Int) / (r.wide + 2) - 1) (by omega) (by omega)
        refine ⟨?_, ?_⟩
        · have hh := at_here hv (k := (((a : Int) / (r.wide + 2) - 1) * r.wide + ((a : Int) % (r.wide + 2) - 1)).toNat) (by omega)
          rw [hl1.2.1, hl1.2.2] at hh
          rw [← hh]
          unfold Reg.at_
          rw [inB_iff.2 (by omega), inB_iff.2 (by omega), hg]; rfl
        · rw [hl1.2.1, hl1.2.2]
          have := grid_xy (W := r.wide + 2) (T := r.tall + 2) (by omega) (k := a) (by have := ha.1; omega)
          rw [show (a : Int) / (r.wide + 2) - 1 + 1 = (a : Int) / (r.wide + 2) by omega, show (a : Int) % (r.wide + 2) - 1 + 1 = (a : Int) % (r.wide + 2) by omega, this.2.2]
          rfl)
      (fun b hb => by
        have hbl := f_lt hb
        have hxy := grid_xy (W := r.wide) (T := r.tall) (by omega) (k := b) (by omega)
        have hl1 := grid_of (W := r.wide + 2) (T := r.tall + 2) (x := (b : Int) % r.wide + 1) (y := (b : Int) / r.wide + 1) (by omega) (by omega)
        refine ⟨⟨by omega, fun hf => ?_⟩, ?_⟩
        · unfold Reg.fr at hf
          rw [hl1.2.1, hl1.2.2, Bool.and_eq_true] at hf
          have h2 := hf.2
          rw [show (b : Int) % r.wide + 1 - 1 = (b : Int) % r.wide by omega, show (b : Int) / r.wide + 1 - 1 = (b : Int) / r.wide by omega, at_here hv hbl, hb] at h2
          cases h2
        · rw [hl1.2.1, hl1.2.2, show (b : Int) % r.wide + 1 - 1 = (b : Int) % r.wide by omega, show (b : Int) / r.wide + 1 - 1 = (b : Int) / r.wide by omega, hxy.2.2]
          rfl)
      (fun _ _ h => h.elim) (fun _ _ h => h.elim)
    have e1 : num r.n2 (fun k => ¬ r.fr k = true) = num r.n2 (fun k => (k < r.n2 ∧ ¬ r.fr k = true) ∧ least (fun _ _ => False) k = k) := num_congr fun k hk => ⟨fun h => ⟨⟨hk, h⟩, hl _ (fun _ _ h => h) k⟩, fun h => h.1.2⟩
    have e2 : num r.cells.length (fun k => r.f k = true) = num r.cells.length (fun k => r.f k = true ∧ least (fun _ _ => False) k = k) := num_congr fun k _ => ⟨fun h => ⟨h, hl _ (fun _ _ h => h) k⟩, fun h => h.1⟩
    rw [e1, e2, key]
  have h3 := num_split (n := r.n2) (fun _ => True) (fun k => r.fr k = true)
  have h4 : num r.n2 (fun _ => True) = r.n2 := by
    have h5 := num_le r.n2 (fun _ => True)
    have h6 : ∀ n, num n (fun _ => True) = n := fun n => by
      induction n with
      | zero => rfl
      | succ n ih => rw [num_succ, ih]; simp
    exact h6 _
  have h5 : num r.n2 (fun j => True ∧ ¬ r.fr j = true) = num r.n2 (fun k => ¬ r.fr k = true) := num_congr fun k _ => by simp
  have h6 : num r.n2 (fun j => True ∧ r.fr j = true) = num r.n2 (fun k => r.fr k = true) := num_congr fun k _ => by simp
  rw [h4, h5, h6, hno] at h3
  have h7 := num_cnt r
  omega
/-- The places that hang together with the corner. -/
def Met (r : Reg) (M : List Bool) : Prop := M.length = r.n2 ∧ ∀ j, M.getD j false = true ↔ Conn (F4 r) 0 j
theorem conn_fr {r : Reg} (h0 : r.fr 0 = true) {j : Nat} (h : Conn (F4 r) 0 j) : r.fr j = true := h.stays (Q := fun k => r.fr k = true) (fun _ _ e _ => e.2.1) h0
theorem least_zero {r : Reg} {j : Nat} (h : Conn (F4 r) 0 j) : least (F4 r) j = 0 := Nat.le_zero.1 (least_le (h.symm fun _ _ e => e.symm))
theorem outs_one (hv : r.valid = true) : r.outs = 1 ↔ ∀ j, r.fr j = true → Conn (F4 r) 0 j := by
  obtain ⟨v1, v2, v3, _⟩ := Reg.valid_iff.1 hv
  have h0 := zero_fr (r := r) (by omega) (by omega)
  have hn0 := fr_lt h0
  have hs : ∀ a b, F4 r a b → F4 r b a := fun _ _ e => e.symm
  constructor
  · intro h j hj
    have hr := least_conn (F4 r) j
    have hi := least_idem hs j
    have hfm : r.fr (least (F4 r) j) = true := hr.stays (Q := fun k => r.fr k = true) (fun _ _ e _ => e.2.1) hj
    generalize least (F4 r) j = m at hr hi hfm
    by_cases e : m = 0
    · subst e; exact hr.symm hs
    · exfalso
      unfold Reg.outs at h
      have h1 : rootsN (F4 r) r.fr (0 + 1) = rootsN (F4 r) r.fr 0 + 1 := rootsN_yes h0 (Nat.le_zero.1 (least_self 0))
      have h2 : rootsN (F4 r) r.fr (m + 1) = rootsN (F4 r) r.fr m + 1 := rootsN_yes hfm hi
      have h3 : rootsN (F4 r) r.fr (0 + 1) ≤ rootsN (F4 r) r.fr m := num_grow (by omega) _
      have h4 : rootsN (F4 r) r.fr (m + 1) ≤ rootsN (F4 r) r.fr r.n2 := num_grow (fr_lt hfm) _
      rw [rootsN_zero] at h1
      omega
  · intro h
    unfold Reg.outs rootsN
    rw [num_congr (R := fun k => k = 0) fun k _ => ⟨fun a => by have := least_zero (h k a.1); omega, fun a => by subst a; exact ⟨h0, Nat.le_zero.1 (least_self 0)⟩⟩]
    exact num_one hn0
theorem met_count (hv : r.valid = true) {M : List Bool} (h : Met r M) : decide (cnt M = (r.n2 : Int) - cnt r.cells) = decide (r.outs = 1) := by
  obtain ⟨v1, v2, v3, _⟩ := Reg.valid_iff.1 hv
  have h0 := zero_fr (r := r) (by omega) (by omega)
  refine decide_eq_decide.2 ?_
  rw [outs_one hv, ← num_bool, h.1, ← free_num hv, num_congr (fun k _ => h.2 k)]
  constructor
  · intro e j hj
    by_cases hc : Conn (F4 r) 0 j
    · exact hc
    · exfalso
      have := num_lt (n := r.n2) (Q := Conn (F4 r) 0) (R := fun k => r.fr k = true) (fun k _ hk => conn_fr h0 hk) (fr_lt hj) hc hj
      have e' : num r.n2 (Conn (F4 r) 0) = num r.n2 (fun k => r.fr k = true) := by exact_mod_cast e
      omega
  · intro e
    rw [num_congr (R := fun k => r.fr k = true) fun k _ => ⟨fun hk => conn_fr h0 hk, fun hk => e k hk⟩]
theorem met_dfs (h1 : 1 ≤ r.wide) (h2 : 1 ≤ r.tall) {M : List Bool} (g : Dfs (F4 r) r.fr (List.replicate r.n2 false) M (plc r 0 0)) : Met r M := by
  have hz : ∀ j, (List.replicate r.n2 false).getD j false = false := fun j => by
    simp only [List.getD_eq_getElem?_getD, List.getElem?_replicate]; split <;> rfl
  have h0 := zero_plc (r := r) h1 h2
  refine ⟨by rw [g.len]; simp, fun j => ⟨fun hj => ?_, fun hc => ?_⟩⟩
  · rcases g.reach j hj with h | ⟨k, hk, _, hc⟩
    · rw [hz] at h; cases h
    · rw [hk.uniq h0] at hc; exact hc
  · induction hc with
    | refl => exact g.here 0 h0 (zero_fr h1 h2)
    | step _ e ih => exact g.clos _ _ ih (hz _) e
end

/-! ### the queue -/
/-- The queue Q behind its first k places, and m directions of the k-th. -/
structure Bfs (r : Reg) (M : List Bool) (Q : List Nat) (k m : Nat) : Prop where
  len : M.length = r.n2
  mem : ∀ j, M.getD j false = true ↔ j ∈ Q
  nodup : Q.Nodup
  conn : ∀ j ∈ Q, Conn (F4 r) 0 j
  zero : 0 ∈ Q
  clos : ∀ i, i < k → ∀ b, F4 r (Q.getD i 0) b → M.getD b false = true
  part : ∀ way : Int, 1 ≤ way → way ≤ m → ∀ b, plc r ((Q.getD k 0 : Nat) % (r.wide + 2) + dX way) ((Q.getD k 0 : Nat) / (r.wide + 2) + dY way) b → r.fr b = true → M.getD b false = true
section
variable {r : Reg} {M : List Bool} {Q : List Nat} {k m : Nat}
theorem Bfs.start (h1 : 1 ≤ r.wide) (h2 : 1 ≤ r.tall) : Bfs r ((List.replicate r.n2 false).set 0 true) [0] 0 0 := by
  have hn := fr_lt (zero_fr (r := r) h1 h2)
  refine ⟨by simp, fun j => ?_, by simp, fun j hj => ?_, by simp, fun i hi => by omega, fun way w1 w2 => by omega⟩
  · rw [getB_put _ _ _ _ (by simpa using hn)]
    by_cases e : 0 = j
    · subst e; simp
    · rw [if_neg e]
      simp only [List.getD_eq_getElem?_getD, List.getElem?_replicate, List.mem_singleton]
      constructor
      · intro h; split at h <;> simp at h
      · intro h; exact absurd h.symm e
  · rw [List.mem_singleton] at hj; subst hj; exact .refl _
theorem Bfs.qlen (h : Bfs r M Q k m) (h0 : r.fr 0 = true) : Q.length = num r.n2 (fun j => M.getD j false = true) := by
  have hb : ∀ j ∈ Q, j < r.n2 := fun j hj => fr_lt (conn_fr h0 (h.conn j hj))
  unfold num
  refine Nat.le_antisymm (nodup_len h.nodup fun x hx => List.mem_filter.2 ⟨List.mem_range.2 (hb x hx), ?_⟩) (nodup_len (List.nodup_range.filter _) fun x hx => (h.mem x).1 ?_)
  · have := (h.mem x).2 hx; simpa using this
  · have := (List.mem_filter.1 hx).2; simpa using this
theorem Bfs.count (h : Bfs r M Q k m) (h0 : r.fr 0 = true) : (Q.length : Int) = cnt M := by
  rw [h.qlen h0, ← num_bool, h.len]
theorem Bfs.le (h : Bfs r M Q k m) (h0 : r.fr 0 = true) : Q.length ≤ r.n2 := by
  rw [h.qlen h0]; exact num_le _ _
theorem Bfs.skip (h : Bfs r M Q k m) (hs : ∀ b, plc r ((Q.getD k 0 : Nat) % (r.wide + 2) + dX ((m : Int) + 1)) ((Q.getD k 0 : Nat) / (r.wide + 2) + dY ((m : Int) + 1)) b → r.fr b = true → M.getD b false = true) : Bfs r M Q k (m + 1) :=
  ⟨h.len, h.mem, h.nodup, h.conn, h.zero, h.clos, fun way w1 w2 b hb hf => by
    by_cases e : way = (m : Int) + 1
    · subst e; exact hs b hb hf
    · exact h.part way w1 (by omega) b hb hf⟩
theorem Bfs.put (h : Bfs r M Q k m) (h1 : 1 ≤ r.wide) (h2 : 1 ≤ r.tall) (hk : k < Q.length) (hm : m < 4) {b : Nat} (hp : plc r ((Q.getD k 0 : Nat) % (r.wide + 2) + dX ((m : Int) + 1)) ((Q.getD k 0 : Nat) / (r.wide + 2) + dY ((m : Int) + 1)) b) (hf : r.fr b = true) (hn : M.getD b false = false) :
    Bfs r (M.set b true) (Q ++ [b]) k (m + 1) := by
  have hbl : b < M.length := by rw [h.len]; exact fr_lt hf
  have hget : ∀ j, (M.set b true).getD j false = if b = j then true else M.getD j false := fun j => getB_put M b j true hbl
  have hbq : b ∉ Q := fun hb => by rw [(h.mem b).2 hb] at hn; cases hn
  have hq : ∀ i, i < Q.length → (Q ++ [b]).getD i 0 = Q.getD i 0 := fun i hi => by simp [List.getD_eq_getElem?_getD, List.getElem?_append_left hi]
  have hkq : Q.getD k 0 ∈ Q := by rw [List.getD_eq_getElem?_getD, List.getElem?_eq_getElem hk]; exact List.getElem_mem hk
  have hck := h.conn _ hkq
  have hfk := conn_fr (zero_fr h1 h2) hck
  have he : F4 r (Q.getD k 0) b := by
    refine (F4_plc h1 h2 (plc_at h1 h2 (fr_lt hfk)) hfk hf).1 ?_
    have hc : (m : Int) + 1 = 1 ∨ (m : Int) + 1 = 2 ∨ (m : Int) + 1 = 3 ∨ (m : Int) + 1 = 4 := by omega
    rcases hc with e | e | e | e <;> rw [e] at hp
    · have : plc r (((Q.getD k 0 : Nat) : Int) % (r.wide + 2) + 1) (((Q.getD k 0 : Nat) : Int) / (r.wide + 2) + 0) b := hp
      rw [Int.add_zero] at this; exact .inl (.inl (.inl this))
    · have : plc r (((Q.getD k 0 : Nat) : Int) % (r.wide + 2) + 0) (((Q.getD k 0 : Nat) : Int) / (r.wide + 2) + 1) b := hp
      rw [Int.add_zero] at this; exact .inl (.inr this)
    · have : plc r (((Q.getD k 0 : Nat) : Int) % (r.wide + 2) + (-1)) (((Q.getD k 0 : Nat) : Int) / (r.wide + 2) + 0) b := hp
      rw [Int.add_zero] at this; exact .inl (.inl (.inr this))
    · have : plc r (((Q.getD k 0 : Nat) : Int) % (r.wide + 2) + 0) (((Q.getD k 0 : Nat) : Int) / (r.wide + 2) + (-1)) b := hp
      rw [Int.add_zero] at this; exact .inr this
  refine ⟨by rw [List.length_set]; exact h.len, fun j => ?_, ?_, fun j hj => ?_, List.mem_append.2 (.inl h.zero), fun i hi c hc => ?_, fun way w1 w2 c hc hfc => ?_⟩
  · rw [hget, List.mem_append, List.mem_singleton]
    by_cases e : b = j
    · subst e; simp
    · rw [if_neg e, h.mem j]
      exact ⟨fun h => .inl h, fun h => h.elim id fun h2 => absurd h2.symm e⟩
  · rw [List.nodup_append]
    refine ⟨h.nodup, by simp, fun a ha c hc => ?_⟩
    rw [List.mem_singleton] at hc
    rintro rfl
    exact hbq (hc ▸ ha)
  · rcases List.mem_append.1 hj with hj | hj
    · exact h.conn j hj
    · rw [List.mem_singleton] at hj; subst hj; exact .step hck he
  · rw [hq i (by omega)] at hc
    rw [hget]; split
    · rfl
    · exact h.clos i hi c hc
  · rw [hq k hk] at hc
    rw [hget]; split
    · rfl
    · next hne =>
      by_cases e : way = (m : Int) + 1
      · subst e; exact absurd (hp.uniq hc) hne
      · exact h.part way w1 (by omega) c hc hfc
theorem Bfs.next (h : Bfs r M Q k 4) (h1 : 1 ≤ r.wide) (h2 : 1 ≤ r.tall) (hk : k < Q.length) : Bfs r M Q (k + 1) 0 := by
  refine ⟨h.len, h.mem, h.nodup, h.conn, h.zero, fun i hi b hb => ?_, fun way w1 w2 => by omega⟩
  by_cases e : i = k
  · subst e
    have hfk := hb.1
    have hx := (F4_plc h1 h2 (plc_at h1 h2 (fr_lt hfk)) hfk hb.2.1).2 hb
    rcases hx with ((hx | hx) | hx) | hx
    · exact h.part 1 (by omega) (by omega) b (by show plc r (_ + 1) (_ + 0) b; rw [Int.add_zero]; exact hx) hb.2.1
    · exact h.part 3 (by omega) (by omega) b (by show plc r (_ + (-1)) (_ + 0) b; rw [Int.add_zero]; exact hx) hb.2.1
    · exact h.part 2 (by omega) (by omega) b (by show plc r (_ + 0) (_ + 1) b; rw [Int.add_zero]; exact hx) hb.2.1
    · exact h.part 4 (by omega) (by omega) b (by show plc r (_ + 0) (_ + (-1)) b; rw [Int.add_zero]; exact hx) hb.2.1
  · exact h.clos i (by omega) b hb
theorem Bfs.met (h : Bfs r M Q Q.length 0) : Met r M := by
  refine ⟨h.len, fun j => ⟨fun hj => h.conn j ((h.mem j).1 hj), fun hc => ?_⟩⟩
  induction hc with
  | refl => exact (h.mem 0).2 h.zero
  | step _ e ih =>
    obtain ⟨i, hi, e2⟩ := List.getElem_of_mem ((h.mem _).1 ih)
    refine h.clos i hi _ ?_
    rw [List.getD_eq_getElem?_getD, List.getElem?_eq_getElem hi, Option.getD_some, e2]; exact e
end

/-! ### turned and mirrored -/
theorem outs_g {r : Reg} (hv : r.valid = true) : r.outs = gparts (r.wide + 2) (r.tall + 2) r.ph A4 := by
  have e : GE (r.wide + 2) (r.tall + 2) r.ph A4 = F4 r := by
    funext a b
    unfold GE F4
    rw [gp_h hv, gp_h hv]
  unfold Reg.outs rootsN gparts Reg.n2
  rw [e]
  exact num_congr fun k _ => by rw [gp_h hv]
theorem turn_outs {r : Reg} (hv : r.valid = true) : r.turn.outs = r.outs := by
  obtain ⟨v1, v2, v3, _⟩ := Reg.valid_iff.1 hv
  rw [outs_g hv, outs_g (turn_valid hv)]
  have := (grid_turn (W := r.wide + 2) (T := r.tall + 2) (p := r.ph) (q := r.turn.ph) (by omega) (by omega) a4_turn fun x y _ _ _ _ => by
    show (!r.turn.at_ (r.tall + 2 - 1 - y - 1) (x - 1)) = !r.at_ (x - 1) (y - 1)
    rw [← turn_at hv (x - 1) (y - 1), show r.tall - 1 - (y - 1) = r.tall + 2 - 1 - y - 1 by omega]).symm
  rw [show gparts (r.turn.wide + 2) (r.turn.tall + 2) r.turn.ph A4 = gparts (r.tall + 2) (r.wide + 2) r.turn.ph A4 from rfl, this]
theorem mir_outs {r : Reg} (hv : r.valid = true) : r.mir.outs = r.outs := by
  obtain ⟨v1, v2, v3, _⟩ := Reg.valid_iff.1 hv
  rw [outs_g hv, outs_g (mir_valid hv)]
  have := (grid_flip (W := r.wide + 2) (T := r.tall + 2) (p := r.ph) (q := r.mir.ph) (by omega) a4_flip (fun x y h => a4_turn _ _ (a4_turn _ _ h)) fun x y _ _ _ _ => by
    show (!r.mir.at_ (r.wide + 2 - 1 - x - 1) (y - 1)) = !r.at_ (x - 1) (y - 1)
    rw [← mir_at hv (x - 1) (y - 1), show r.wide - 1 - (x - 1) = r.wide + 2 - 1 - x - 1 by omega]).symm
  rw [show gparts (r.mir.wide + 2) (r.mir.tall + 2) r.mir.ph A4 = gparts (r.wide + 2) (r.tall + 2) r.mir.ph A4 from rfl, this]
theorem mir_pmany {r : Reg} (hv : r.valid = true) : r.mir.pmany = r.pmany := by
  unfold Reg.pmany; rw [if_pos hv, if_pos (mir_valid hv), mir_parts hv]
theorem sim_turn {r : Reg} : r.turnR.simB = r.simB := by
  cases hv : r.valid
  · have e : r.turnR = Reg.zero := by unfold Reg.turnR; rw [hv]; rfl
    rw [e]; unfold Reg.simB; rw [hv, show Reg.zero.valid = false from rfl]; rfl
  · rw [turnR_yes hv]; unfold Reg.simB; rw [turn_valid hv, hv, turn_outs hv, turn_pmany hv]
theorem sim_mir {r : Reg} : r.flipR.simB = r.simB := by
  cases hv : r.valid
  · have e : r.flipR = Reg.zero := by unfold Reg.flipR; rw [hv]; rfl
    rw [e]; unfold Reg.simB; rw [hv, show Reg.zero.valid = false from rfl]; rfl
  · rw [flipR_yes hv]; unfold Reg.simB; rw [mir_valid hv, hv, mir_outs hv, mir_pmany hv]
theorem sim_holes {r : Reg} (h : r.simB = true) : r.valid = true ∧ r.pmany = 1 ∧ r.holesR = 0 := by
  unfold Reg.simB at h
  simp only [Bool.and_eq_true, decide_eq_true_eq] at h
  obtain ⟨hv, ho, hp⟩ := h
  refine ⟨hv, hp, ?_⟩
  obtain ⟨v1, v2, v3, _⟩ := Reg.valid_iff.1 hv
  have h0 := zero_fr (r := r) (by omega) (by omega)
  have hall := (outs_one hv).1 ho
  rw [holesR_yes hv]
  unfold Reg.holes rootsN
  rw [num_congr (R := fun k => k = 0) fun k _ => ⟨fun a => by
    have hc := (hall k a.1).mono (F := E8 r) fun _ _ e => e.near
    have := least_le (hc.symm fun _ _ e => e.symm)
    omega, fun a => by subst a; exact ⟨h0, Nat.le_zero.1 (least_self 0)⟩⟩, num_one (fr_lt h0)]
  rfl
end Domi

/- Heights of corners: the sides in their order, and what a right list is. Plain. -/
set_option linter.unusedVariables false
namespace Domi
open Go Go.RowKit

/-- A side: both corners, and the cells on its left and on its right. -/
structure Sd where
  fr : Int
  tt : Int
  lx : Int
  ly : Int
  rx : Int
  ry : Int
def Sd.vals (s : Sd) : List Value := [.int .i64 s.fr, .int .i64 s.tt, .int .i64 s.lx, .int .i64 s.ly, .int .i64 s.rx, .int .i64 s.ry]
def sdV (L : List Sd) : List Value := L.flatMap Sd.vals
def Sd.dk (s : Sd) : Bool := decide ((s.lx + s.ly) % 2 = 0)
def riseI (d : Bool) : Int := if d then 1 else -1
def Sd.inn (s : Sd) (r : Reg) : Bool := r.at_ s.lx s.ly && r.at_ s.rx s.ry
def hgt (H : List Int) (i : Int) : Int := H.getD i.toNat 0
def Sd.diff (s : Sd) (H : List Int) : Int := IntKind.i64.wrap (hgt H s.tt - hgt H s.fr)
def Sd.ok (s : Sd) (r : Reg) (H : List Int) : Bool := decide (s.diff H = riseI s.dk) || (s.inn r && decide (s.diff H = -3 * riseI s.dk))
/-- The sides to the east and to the north of the k-th corner, in a field of w columns. -/
def sE (w k : Nat) : Sd := ⟨k, k + 1, (k % (w + 1) : Nat), (k / (w + 1) : Nat), (k % (w + 1) : Nat), (k / (w + 1) : Nat) - 1⟩
def sN (w k : Nat) : Sd := ⟨k, k + (w + 1), (k % (w + 1) : Nat) - 1, (k / (w + 1) : Nat), (k % (w + 1) : Nat), (k / (w + 1) : Nat)⟩
def usd (r : Reg) (s : Sd) : Bool := r.at_ s.lx s.ly || r.at_ s.rx s.ry
def sdE (r : Reg) (w k : Nat) : List Sd := if usd r (sE w k) then [sE w k] else []
def sdN (r : Reg) (w k : Nat) : List Sd := if usd r (sN w k) then [sN w k] else []
def sdTo (r : Reg) (w : Nat) : Nat → List Sd
  | 0 => []
  | k + 1 => sdTo r w k ++ sdE r w k ++ sdN r w k
theorem sdV_snoc (L : List Sd) (s : Sd) : sdV (L ++ [s]) = sdV L ++ s.vals := by simp [sdV]
theorem sdV_len (L : List Sd) : (sdV L).length = L.length * 6 := by
  induction L with
  | nil => rfl
  | cons s L ih => simp only [sdV, List.flatMap_cons, List.length_append] at ih ⊢; rw [ih, List.length_cons, Nat.add_mul]; simp [Sd.vals]; omega
theorem sdTo_len (r : Reg) (w k : Nat) : (sdTo r w k).length ≤ 2 * k := by
  induction k with
  | zero => simp [sdTo]
  | succ k ih =>
    have h1 : (sdE r w k).length ≤ 1 := by unfold sdE; split <;> simp
    have h2 : (sdN r w k).length ≤ 1 := by unfold sdN; split <;> simp
    rw [sdTo, List.length_append, List.length_append]; omega
theorem mem_sdTo {r : Reg} {w n : Nat} {s : Sd} : s ∈ sdTo r w n ↔ ∃ k, k < n ∧ usd r s = true ∧ (s = sE w k ∨ s = sN w k) := by
  induction n with
  | zero => simp [sdTo]
  | succ n ih =>
    rw [sdTo, List.mem_append, List.mem_append, ih]
    have h1 : s ∈ sdE r w n ↔ usd r s = true ∧ s = sE w n := by
      unfold sdE
      by_cases h : usd r (sE w n) = true
      · rw [if_pos h, List.mem_singleton]; exact ⟨fun e => ⟨e ▸ h, e⟩, fun e => e.2⟩
      · rw [if_neg h]; exact ⟨fun e => by simp at e, fun e => absurd (e.2 ▸ e.1) h⟩
    have h2 : s ∈ sdN r w n ↔ usd r s = true ∧ s = sN w n := by
      unfold sdN
      by_cases h : usd r (sN w n) = true
      · rw [if_pos h, List.mem_singleton]; exact ⟨fun e => ⟨e ▸ h, e⟩, fun e => e.2⟩
      · rw [if_neg h]; exact ⟨fun e => by simp at e, fun e => absurd (e.2 ▸ e.1) h⟩
    rw [h1, h2]
    constructor
    · rintro ((⟨k, a, b, c⟩ | ⟨a, b⟩) | ⟨a, b⟩)
      · exact ⟨k, by omega, b, c⟩
      · exact ⟨n, by omega, a, .inl b⟩
      · exact ⟨n, by omega, a, .inr b⟩
    · rintro ⟨k, a, b, c⟩
      by_cases e : k = n
      · subst e
        rcases c with c | c
        · exact .inl (.inr ⟨b, c⟩)
        · exact .inr ⟨b, c⟩
      · exact .inl (.inl ⟨k, by omega, b, c⟩)
/-- How many corners. -/
def Reg.cor (r : Reg) : Nat := ((r.wide + 1) * (r.tall + 1)).toNat
def Sd.at_ (s : Sd) (k : Nat) : Prop := s.fr = k ∨ s.tt = k
def in60 (x : Int) : Bool := inB x (-60) 60
structure GoodH (r : Reg) (w : Nat) (H : List Int) : Prop where
  ok : ∀ s ∈ sdTo r w r.cor, s.ok r H = true
  bd : ∀ s ∈ sdTo r w r.cor, in60 (hgt H s.fr) = true ∧ in60 (hgt H s.tt) = true
  no : ∀ k, k < r.cor → (∀ s ∈ sdTo r w r.cor, ¬ s.at_ k) → H.getD k 0 = 99
  first : ∀ s, (sdTo r w r.cor).head? = some s → hgt H s.fr = 0
noncomputable def okH (r : Reg) (H : List Int) : Bool := open Classical in r.simB && decide (H.length = r.cor ∧ GoodH r r.wide.toNat H)
open Classical in
theorem okH_yes {r : Reg} {H : List Int} (h : r.simB = true) (hl : H.length = r.cor) (hg : GoodH r r.wide.toNat H) : okH r H = true := by unfold okH; rw [h, Bool.true_and]; exact decide_eq_true ⟨hl, hg⟩
open Classical in
theorem okH_no1 {r : Reg} {H : List Int} (h : r.simB = false) : okH r H = false := by unfold okH; rw [h]; rfl
open Classical in
theorem okH_no2 {r : Reg} {H : List Int} (h : H.length ≠ r.cor) : okH r H = false := by unfold okH; rw [decide_eq_false (fun e => h e.1), Bool.and_false]
open Classical in
theorem okH_no3 {r : Reg} {H : List Int} (h : ¬ GoodH r r.wide.toNat H) : okH r H = false := by unfold okH; rw [decide_eq_false (fun e => h e.2), Bool.and_false]
section
variable {r : Reg} {w t : Nat}
theorem cor_is (F : Fld r w t) : r.cor = (w + 1) * (t + 1) := by
  unfold Reg.cor
  rw [F.hw, F.ht]
  have : ((w : Int) + 1) * ((t : Int) + 1) = (((w + 1) * (t + 1) : Nat) : Int) := by push_cast; rfl
  rw [this]; rfl
theorem at_box {x y : Int} (F : Fld r w t) (h : r.at_ x y = true) : (0 ≤ x ∧ x < w) ∧ (0 ≤ y ∧ y < t) := by
  unfold Reg.at_ at h
  simp only [Bool.and_eq_true, inB_iff] at h
  have := F.hw
  have := F.ht
  omega
/-- Both corners of a used side are corners, the second one behind the first. -/
theorem side_in (F : Fld r w t) {s : Sd} (hs : s ∈ sdTo r w r.cor) : ∃ a b : Nat, s.fr = a ∧ s.tt = b ∧ a < b ∧ b < r.cor := by
  obtain ⟨k, hk, hu, hc⟩ := mem_sdTo.1 hs
  rw [cor_is F] at hk ⊢
  have hd := Nat.div_add_mod k (w + 1)
  have hm : k % (w + 1) < w + 1 := Nat.mod_lt _ (by omega)
  have hy : k / (w + 1) < t + 1 := Nat.div_lt_of_lt_mul hk
  unfold usd at hu
  rw [Bool.or_eq_true] at hu
  rcases hc with rfl | rfl
  · refine ⟨k, k + 1, rfl, rfl, by omega, ?_⟩
    have hx : k % (w + 1) < w := by
      rcases hu with hu | hu
      · have := at_box F hu; simp only [sE] at this; omega
      · have := at_box F hu; simp only [sE] at this; omega
    have h2 : (w + 1) * (k / (w + 1) + 1) ≤ (w + 1) * (t + 1) := Nat.mul_le_mul_left _ (by omega)
    rw [Nat.mul_add] at h2
    omega
  · refine ⟨k, k + (w + 1), rfl, by simp [sN], by omega, ?_⟩
    have hx : k / (w + 1) < t := by
      rcases hu with hu | hu
      · have := at_box F hu; simp only [sN] at this; omega
      · have := at_box F hu; simp only [sN] at this; omega
    have h2 : (w + 1) * (k / (w + 1) + 1 + 1) ≤ (w + 1) * (t + 1) := Nat.mul_le_mul_left _ (by omega)
    rw [Nat.mul_add, Nat.mul_add] at h2
    omega
theorem sdTo_up (r : Reg) (w n : Nat) : (sdTo r w n).Pairwise (fun a b => a.fr ≤ b.fr) := by
  induction n with
  | zero => exact .nil
  | succ n ih =>
    have h1 : ∀ s ∈ sdE r w n, s.fr = n := fun s hs => by unfold sdE at hs; split at hs <;> simp at hs; subst hs; rfl
    have h2 : ∀ s ∈ sdN r w n, s.fr = n := fun s hs => by unfold sdN at hs; split at hs <;> simp at hs; subst hs; rfl
    have h0 : ∀ s ∈ sdTo r w n, s.fr ≤ n := fun s hs => by
      obtain ⟨k, hk, _, rfl | rfl⟩ := mem_sdTo.1 hs <;> simp [sE, sN] <;> omega
    rw [sdTo]
    refine List.pairwise_append.2 ⟨List.pairwise_append.2 ⟨ih, ?_, fun a ha b hb => by rw [h1 b hb]; exact h0 a ha⟩, ?_, fun a ha b hb => ?_⟩
    · unfold sdE; split <;> simp
    · unfold sdN; split <;> simp
    · rw [h2 b hb]
      rcases List.mem_append.1 ha with ha | ha
      · exact h0 a ha
      · rw [h1 a ha]; exact Int.le_refl _
/-- The first corner in use begins the first side. -/
theorem head_least (F : Fld r w t) {s0 : Sd} (h0 : (sdTo r w r.cor).head? = some s0) {s : Sd} (hs : s ∈ sdTo r w r.cor) {k : Nat} (hk : s.at_ k) : s0.fr ≤ k := by
  have hle : s0.fr ≤ s.fr := by
    have hp := sdTo_up r w r.cor
    cases hL : sdTo r w r.cor with
    | nil => rw [hL] at hs; simp at hs
    | cons a L =>
      rw [hL] at h0 hs hp
      simp at h0
      subst h0
      rcases List.mem_cons.1 hs with e | e
      · subst e; exact Int.le_refl _
      · exact (List.pairwise_cons.1 hp).1 s e
  obtain ⟨a, b, e1, e2, hab, _⟩ := side_in F hs
  rcases hk with hk | hk <;> omega
/-- A region with a cell has a side. -/
theorem sides_some (F : Fld r w t) {k : Nat} (hk : k < r.cells.length) (hf : r.f k = true) : ∃ s, (sdTo r w r.cor).head? = some s := by
  have hat := at_here F.hv hk
  rw [hf, F.hw] at hat
  have hb := at_box F hat
  have e1 : (k : Int) % (w : Int) = ((k % w : Nat) : Int) := by rw [Int.natCast_emod]
  have e2 : (k : Int) / (w : Int) = ((k / w : Nat) : Int) := by rw [Int.natCast_ediv]
  rw [e1, e2] at hat hb
  have hm : (k / w * (w + 1) + k % w) % (w + 1) = k % w := by rw [Nat.add_comm, Nat.add_mul_mod_self_right]; exact Nat.mod_eq_of_lt (by omega)
  have hd : (k / w * (w + 1) + k % w) / (w + 1) = k / w := by rw [Nat.add_comm, Nat.add_mul_div_right _ _ (by omega), Nat.div_eq_of_lt (by omega)]; omega
  have hmem : sE w (k / w * (w + 1) + k % w) ∈ sdTo r w r.cor := by
    refine mem_sdTo.2 ⟨k / w * (w + 1) + k % w, ?_, ?_, .inl rfl⟩
    · rw [cor_is F]
      have h2 : (k / w + 1) * (w + 1) ≤ t * (w + 1) := Nat.mul_le_mul_right _ (by omega)
      rw [Nat.add_mul] at h2
      have h3 : (w + 1) * (t + 1) = t * (w + 1) + (w + 1) := by rw [Nat.mul_add, Nat.mul_one, Nat.mul_comm]
      omega
    · unfold usd sE
      simp only
      rw [hm, hd, hat]; rfl
  cases hL : sdTo r w r.cor with
  | nil => rw [hL] at hmem; simp at hmem
  | cons a L => exact ⟨a, rfl⟩
end
end Domi

/- Heights of corners: the corners in use, and the check corner by corner. Plain. -/
set_option linter.unusedVariables false
namespace Domi
open Go Go.RowKit

/-- A side of a field: small numbers. -/
structure SdSm (s : Sd) : Prop where
  a : 0 ≤ s.fr ∧ s.fr ≤ 100
  b : 0 ≤ s.tt ∧ s.tt ≤ 100
  c : -1 ≤ s.lx ∧ s.lx ≤ 100
  d : -1 ≤ s.ly ∧ s.ly ≤ 100
  e : -1 ≤ s.rx ∧ s.rx ≤ 100
  f : -1 ≤ s.ry ∧ s.ry ≤ 100
/-- What Index says of a list of bits and true. -/
def IxB (l : List Bool) (n : Int) : Prop := (∃ k : Nat, n = k ∧ k < l.length ∧ l.getD k false = true ∧ ∀ j, j < k → l.getD j false = false) ∨ (n = -1 ∧ ∀ j, j < l.length → l.getD j false = false)
def husSet (U : List Bool) (s : Sd) : List Bool := (U.set s.fr.toNat true).set s.tt.toNat true
/-- The corners in use, of n. -/
def hus (n : Nat) (L : List Sd) : List Bool := L.foldl husSet (List.replicate n false)
theorem hus_snoc (n : Nat) (L : List Sd) (s : Sd) : hus n (L ++ [s]) = husSet (hus n L) s := by simp [hus]
theorem hus_take {n j : Nat} {L : List Sd} (hj : j < L.length) : hus n (L.take (j + 1)) = husSet (hus n (L.take j)) L[j] := by
  rw [← hus_snoc, List.take_append_getElem hj]
theorem hus_len (n : Nat) (L : List Sd) : (hus n L).length = n := by
  unfold hus
  have : ∀ (U : List Bool), (L.foldl husSet U).length = U.length := by
    induction L with
    | nil => intro U; rfl
    | cons s L ih => intro U; rw [List.foldl_cons, ih]; simp [husSet]
  rw [this]; simp
theorem getD_set_true {U : List Bool} {i k : Nat} (hk : k < U.length) : (U.set i true).getD k false = true ↔ i = k ∨ U.getD k false = true := by
  rw [List.getD_eq_getElem?_getD, List.getD_eq_getElem?_getD, List.getElem?_set]
  by_cases e : i = k
  · subst e; simp [hk]
  · simp [e]
theorem hus_get {n : Nat} {k : Nat} (hk : k < n) (L : List Sd) : (hus n L).getD k false = true ↔ ∃ s ∈ L, s.fr.toNat = k ∨ s.tt.toNat = k := by
  have key : ∀ (U : List Bool), U.length = n → ((L.foldl husSet U).getD k false = true ↔ (∃ s ∈ L, s.fr.toNat = k ∨ s.tt.toNat = k) ∨ U.getD k false = true) := by
    induction L with
    | nil => intro U _; simp
    | cons s L ih =>
      intro U hU
      rw [List.foldl_cons, ih _ (by simp [husSet, hU])]
      unfold husSet
      rw [getD_set_true (by simp; omega), getD_set_true (by omega)]
      simp only [List.mem_cons, exists_eq_or_imp]
      constructor
      · rintro (h | h | h | h)
        · exact .inl (.inr h)
        · exact .inl (.inl (.inr h))
        · exact .inl (.inl (.inl h))
        · exact .inr h
      · rintro ((h | h) | h)
        · rcases h with h | h
          · exact .inr (.inr (.inl h))
          · exact .inr (.inl h)
        · exact .inl h
        · exact .inr (.inr (.inr h))
  unfold hus
  rw [key _ (by simp)]
  have : (List.replicate n false).getD k false = false := by
    rw [List.getD_eq_getElem?_getD, List.getElem?_replicate]; split <;> rfl
  rw [this]; simp
theorem sim_has {r : Reg} (h : r.simB = true) : ∃ k, k < r.cells.length ∧ r.f k = true := by
  obtain ⟨hv, hp, _⟩ := sim_holes h
  refine Classical.byContradiction fun hn => ?_
  unfold Reg.pmany at hp
  rw [if_pos hv] at hp
  have : partCount r = 0 := num_none fun k hk h => hn ⟨k, hk, h.1⟩
  rw [this] at hp
  exact absurd hp (by decide)
/-- The check of the k-th corner; f is the first corner in use. -/
def hc2 (U : List Bool) (H : List Int) (f : Int) (k : Nat) : Bool := (U.getD k false || decide (H.getD k 0 = 99)) && (!U.getD k false || in60 (H.getD k 0)) && (!decide ((k : Int) = f) || decide (H.getD k 0 = 0))
section
variable {r : Reg} {w t : Nat} {H : List Int}
theorem sd_small (F : Fld r w t) {s : Sd} (hs : s ∈ sdTo r w r.cor) : SdSm s := by
  obtain ⟨k, hk, hu, hc⟩ := mem_sdTo.1 hs
  rw [cor_is F] at hk
  have hw6 := F.w6
  have ht6 := F.t6
  have hm : k % (w + 1) < w + 1 := Nat.mod_lt _ (by omega)
  have hy : k / (w + 1) < t + 1 := Nat.div_lt_of_lt_mul hk
  have h49 : (w + 1) * (t + 1) ≤ 7 * 7 := Nat.mul_le_mul (by omega) (by omega)
  rcases hc with rfl | rfl
  all_goals
    constructor
    all_goals simp only [sE, sN]
    all_goals generalize k % (w + 1) = x at *
    all_goals generalize k / (w + 1) = y at *
    all_goals omega
theorem hus_at (F : Fld r w t) {k : Nat} (hk : k < r.cor) : (hus r.cor (sdTo r w r.cor)).getD k false = true ↔ ∃ s ∈ sdTo r w r.cor, s.at_ k := by
  rw [hus_get hk]
  constructor
  · rintro ⟨s, hs, h⟩
    obtain ⟨a, b, e1, e2, _, _⟩ := side_in F hs
    refine ⟨s, hs, ?_⟩
    unfold Sd.at_
    omega
  · rintro ⟨s, hs, h⟩
    obtain ⟨a, b, e1, e2, _, _⟩ := side_in F hs
    refine ⟨s, hs, ?_⟩
    unfold Sd.at_ at h
    omega
theorem ix_first (F : Fld r w t) {s0 : Sd} (h0 : (sdTo r w r.cor).head? = some s0) {f : Int} (hf : IxB (hus r.cor (sdTo r w r.cor)) f) : f = s0.fr := by
  have hm : s0 ∈ sdTo r w r.cor := List.mem_of_mem_head? h0
  obtain ⟨a, b, e1, e2, hab, hb⟩ := side_in F hm
  have ha : (hus r.cor (sdTo r w r.cor)).getD a false = true := (hus_at F (by omega)).2 ⟨s0, hm, .inl e1⟩
  rcases hf with ⟨k, e, hk, h1, h2⟩ | ⟨_, h2⟩
  · rw [hus_len] at hk
    obtain ⟨s, hs, hs2⟩ := (hus_at F hk).1 h1
    have h3 := head_least F h0 hs hs2
    have h4 : ¬ a < k := fun hlt => by rw [h2 a hlt] at ha; cases ha
    omega
  · rw [h2 a (by rw [hus_len]; omega)] at ha; cases ha
theorem good_iff (F : Fld r w t) {s0 : Sd} (h0 : (sdTo r w r.cor).head? = some s0) :
    GoodH r w H ↔ (∀ s ∈ sdTo r w r.cor, s.ok r H = true) ∧ ∀ k, k < r.cor → hc2 (hus r.cor (sdTo r w r.cor)) H s0.fr k = true := by
  have hm : s0 ∈ sdTo r w r.cor := List.mem_of_mem_head? h0
  constructor
  · intro g
    refine ⟨g.ok, fun k hk => ?_⟩
    have h3 : (!decide ((k : Int) = s0.fr) || decide (H.getD k 0 = 0)) = true := by
      by_cases e : (k : Int) = s0.fr
      · have := g.first s0 h0
        unfold hgt at this
        rw [← e, Int.toNat_natCast] at this
        rw [decide_eq_true this, Bool.or_true]
      · simp [e]
    unfold hc2
    rw [h3, Bool.and_true]
    cases hU : (hus r.cor (sdTo r w r.cor)).getD k false
    · have := g.no k hk (fun s hs h => by
        have := (hus_at F hk).2 ⟨s, hs, h⟩
        rw [hU] at this; cases this)
      rw [decide_eq_true this]; rfl
    · obtain ⟨s, hs, h⟩ := (hus_at F hk).1 hU
      obtain ⟨g1, g2⟩ := g.bd s hs
      have : in60 (H.getD k 0) = true := by
        unfold hgt at g1 g2
        rcases h with h | h
        · rw [h, Int.toNat_natCast] at g1; exact g1
        · rw [h, Int.toNat_natCast] at g2; exact g2
      rw [this]; rfl
  · rintro ⟨g1, g2⟩
    have hc : ∀ k, k < r.cor → ((hus r.cor (sdTo r w r.cor)).getD k false = true ∨ H.getD k 0 = 99) ∧ ((hus r.cor (sdTo r w r.cor)).getD k false = false ∨ in60 (H.getD k 0) = true) ∧ (¬ (k : Int) = s0.fr ∨ H.getD k 0 = 0) := fun k hk => by
      have := g2 k hk
      unfold hc2 at this
      simpa [and_assoc] using this
    refine ⟨g1, fun s hs => ?_, fun k hk h => ?_, fun s h => ?_⟩
    · obtain ⟨a, b, e1, e2, hab, hb⟩ := side_in F hs
      have ha := (hus_at F (k := a) (by omega)).2 ⟨s, hs, .inl e1⟩
      have hb' := (hus_at F hb).2 ⟨s, hs, .inr e2⟩
      unfold hgt
      rw [e1, e2, Int.toNat_natCast, Int.toNat_natCast]
      constructor
      · rcases (hc a (by omega)).2.1 with h | h
        · rw [h] at ha; cases ha
        · exact h
      · rcases (hc b hb).2.1 with h | h
        · rw [h] at hb'; cases hb'
        · exact h
    · rcases (hc k hk).1 with h' | h'
      · obtain ⟨s, hs, hs2⟩ := (hus_at F hk).1 h'
        exact absurd hs2 (h s hs)
      · exact h'
    · rw [h0] at h
      cases h
      obtain ⟨a, b, e1, e2, hab, hb⟩ := side_in F hm
      unfold hgt
      rw [e1, Int.toNat_natCast]
      rcases (hc a (by omega)).2.2 with h | h
      · exact absurd e1.symm h
      · exact h
end
end Domi

/- Heights of corners: side by side, as the reference looks. Plain. -/
set_option linter.unusedVariables false
namespace Domi
open Go Go.RowKit

/-- The first corner in use, or -1. -/
def fstI (L : List Sd) : Int := match L.head? with
  | none => -1
  | some s => s.fr
theorem fstI_nil : fstI [] = -1 := rfl
theorem fstI_snoc (L : List Sd) (s : Sd) : fstI (L ++ [s]) = if L = [] then s.fr else fstI L := by
  cases L with
  | nil => rfl
  | cons a L => rfl
theorem fstI_neg {L : List Sd} (h : ∀ s ∈ L, 0 ≤ s.fr) : fstI L < 0 ↔ L = [] := by
  cases L with
  | nil => simp [fstI]
  | cons a L =>
    have := h a (by simp)
    simp only [fstI, List.head?_cons]
    constructor
    · intro h; omega
    · intro h; cases h
/-- The sides before the n-th way at the k-th corner. -/
def sdAt (r : Reg) (w k n : Nat) : List Sd := sdTo r w k ++ (if 1 ≤ n then sdE r w k else []) ++ (if 2 ≤ n then sdN r w k else [])
theorem sdAt_zero (r : Reg) (w k : Nat) : sdAt r w k 0 = sdTo r w k := by simp [sdAt]
theorem sdAt_two (r : Reg) (w k : Nat) : sdAt r w k 2 = sdTo r w (k + 1) := by simp [sdAt, sdTo]
/-- The next side: it counts where it is used. -/
def sdW (w k n : Nat) : Sd := if decide (n = 1) then sN w k else sE w k
theorem sdAt_next (r : Reg) (w k n : Nat) (hn : n < 2) : sdAt r w k (n + 1) = if usd r (sdW w k n) then sdAt r w k n ++ [sdW w k n] else sdAt r w k n := by
  have h : n = 0 ∨ n = 1 := by omega
  rcases h with rfl | rfl
  · have e : sdAt r w k 1 = sdTo r w k ++ sdE r w k := by simp [sdAt]
    show sdAt r w k 1 = if usd r (sE w k) then sdAt r w k 0 ++ [sE w k] else sdAt r w k 0
    rw [e, sdAt_zero]
    unfold sdE
    by_cases h : usd r (sE w k) = true
    · rw [if_pos h, if_pos h]
    · rw [if_neg h, if_neg h, List.append_nil]
  · have e : sdAt r w k 1 = sdTo r w k ++ sdE r w k := by simp [sdAt]
    have e2 : sdAt r w k 2 = sdTo r w k ++ sdE r w k ++ sdN r w k := by simp [sdAt]
    show sdAt r w k 2 = if usd r (sN w k) then sdAt r w k 1 ++ [sN w k] else sdAt r w k 1
    rw [e, e2]
    unfold sdN
    by_cases h : usd r (sN w k) = true
    · rw [if_pos h, if_pos h]
    · rw [if_neg h, if_neg h, List.append_nil]
/-- A side is right, and its heights lie in their bounds. -/
def Sd.fine (s : Sd) (r : Reg) (H : List Int) : Bool := in60 (hgt H s.fr) && in60 (hgt H s.tt) && s.ok r H
section
variable {r : Reg} {w t : Nat} {H : List Int}
theorem good_fine (F : Fld r w t) {s0 : Sd} (h0 : (sdTo r w r.cor).head? = some s0) :
    GoodH r w H ↔ (∀ s ∈ sdTo r w r.cor, s.fine r H = true) ∧ (∀ k, k < r.cor → (hus r.cor (sdTo r w r.cor)).getD k false = true ∨ H.getD k 0 = 99) ∧ hgt H s0.fr = 0 := by
  constructor
  · intro g
    refine ⟨fun s hs => ?_, fun k hk => ?_, g.first s0 h0⟩
    · unfold Sd.fine
      rw [(g.bd s hs).1, (g.bd s hs).2, g.ok s hs]; rfl
    · cases hU : (hus r.cor (sdTo r w r.cor)).getD k false
      · exact .inr (g.no k hk fun s hs h => by
          have := (hus_at F hk).2 ⟨s, hs, h⟩
          rw [hU] at this; cases this)
      · exact .inl rfl
  · rintro ⟨g1, g2, g3⟩
    have hf : ∀ s ∈ sdTo r w r.cor, (in60 (hgt H s.fr) = true ∧ in60 (hgt H s.tt) = true) ∧ s.ok r H = true := fun s hs => by
      have := g1 s hs
      unfold Sd.fine at this
      rwa [Bool.and_eq_true, Bool.and_eq_true] at this
    refine ⟨fun s hs => (hf s hs).2, fun s hs => (hf s hs).1, fun k hk h => ?_, fun s h => ?_⟩
    · rcases g2 k hk with h' | h'
      · obtain ⟨s, hs, hs2⟩ := (hus_at F hk).1 h'
        exact absurd hs2 (h s hs)
      · exact h'
    · rw [h0] at h
      cases h
      exact g3
end
end Domi

/- A matrix of the call's own beside a reader that turns. No program is named here. -/
set_option linter.unusedVariables false
namespace Domi
open Go Go.RowKit

def rowsI (tR : TypeId) (vs : List Value) (M : List (List Int)) : List It := List.zipWith (fun v row => It.row tR v (row.map (Value.int .i64))) vs M
/-- Since w0 only the block b may have turned; v is a slice of rows, vs their values, M what they read; X further items. -/
structure Md (w0 : World) (b : Nat) (w : World) (tO tR : TypeId) (v : Value) (vs : List Value) (M : List (List Int)) (X : List It) : Prop where
  len : vs.length = M.length
  s : Sep w0 (some b) w (.row tO v vs :: (rowsI tR vs M ++ X))
section
variable {w0 w w' : World} {b : Nat} {tO tR : TypeId} {v : Value} {vs : List Value} {M : List (List Int)} {X : List It}
theorem rowsI_len (h : vs.length = M.length) : (rowsI tR vs M).length = M.length := by simp [rowsI, h]
theorem rowsI_snoc (h : vs.length = M.length) (u : Value) (L : List Int) : rowsI tR (vs ++ [u]) (M ++ [L]) = rowsI tR vs M ++ [.row tR u (L.map (Value.int .i64))] := by
  unfold rowsI; rw [List.zipWith_append h]; rfl
theorem rowsI_get (h : vs.length = M.length) {i : Nat} (hi : i < M.length) : (rowsI tR vs M)[i]? = some (.row tR (vs.getD i nilV) ((M.getD i []).map (Value.int .i64))) := by
  unfold rowsI
  rw [List.getElem?_zipWith, List.getElem?_eq_getElem (by omega : i < vs.length), List.getElem?_eq_getElem hi, ← get_at vs nilV i (by omega), ← get_at M [] i hi]
theorem Md.keptRow (h : Md w0 b w tO tR v vs M X) (hg : w.grownBy w' (some b)) (hb : b < w0.heap.size) : Md w0 b w' tO tR v vs M X :=
  ⟨h.len, h.s.keptRow hg (fun k hk => by cases hk; exact hb)⟩
theorem Md.alloc (h : Md w0 b w tO tR v vs M X) (o : Obj) : Md w0 b (w.alloc o) tO tR v vs M X := ⟨h.len, h.s.alloc o⟩
theorem Md.empty (w : World) (b : Nat) (tO tR : TypeId) : Md w b (w.alloc (.cells #[] tO)) tO tR (.slice (some ⟨w.heap.size, 0, none⟩) 0 0) [] [] [] :=
  ⟨rfl, by
    have := (Sep.start w (some b)).lit tO #[] 0 rfl (by omega)
    simpa [rowsI] using this⟩
/-- A new row, beside the others. -/
theorem Md.row (h : Md w0 b w tO tR v vs M []) : Md w0 b (w.alloc (.cells #[] tR)) tO tR v vs M [.row tR (.slice (some ⟨w.heap.size, 0, none⟩) 0 0) (([] : List Int).map (Value.int .i64))] :=
  ⟨h.len, by
    have := h.s.lit tR #[] 0 rfl (by omega)
    simpa using this⟩
theorem Md.own1 {rv : Value} {L : List Int} (h : Md w0 b w tO tR v vs M [.row tR rv (L.map (Value.int .i64))]) : Own w 0 tR rv (L.map (Value.int .i64)) :=
  h.s.own (M.length + 1) (by rw [List.getElem?_cons_succ, List.getElem?_append_right (by rw [rowsI_len h.len]; exact Nat.le_refl _), rowsI_len h.len]; simp)
theorem Md.own0 (h : Md w0 b w tO tR v vs M X) : Own w 0 tO v vs := h.s.own 0 rfl
/-- The new row grows. -/
theorem Md.app1 {rv : Value} {L : List Int} {x : Int} {B g cap : Nat} (h : Md w0 b w tO tR v vs M [.row tR rv (L.map (Value.int .i64))]) (A : App w B tR rv (L.map (Value.int .i64)) (.int .i64 x) g cap w') :
    Md w0 b w' tO tR v vs M [.row tR (.slice (some ⟨g, 0, none⟩) (L.length + 1) cap) ((L ++ [x]).map (Value.int .i64))] :=
  ⟨h.len, by
    have := h.s.app (M.length + 1) (by rw [List.getElem?_cons_succ, List.getElem?_append_right (by rw [rowsI_len h.len]; exact Nat.le_refl _), rowsI_len h.len]; simp) A
    rw [List.set_cons_succ, List.set_append_right _ _ (by rw [rowsI_len h.len]; exact Nat.le_refl _), rowsI_len h.len, Nat.sub_self] at this
    simpa using this⟩
/-- The new row comes to the others. -/
theorem Md.app0 {rv : Value} {L : List Int} {B g cap : Nat} (h : Md w0 b w tO tR v vs M [.row tR rv (L.map (Value.int .i64))]) (A : App w B tO v vs rv g cap w') :
    Md w0 b w' tO tR (.slice (some ⟨g, 0, none⟩) (vs.length + 1) cap) (vs ++ [rv]) (M ++ [L]) [] :=
  ⟨by simp [h.len], by
    have := h.s.app 0 rfl A
    rw [rowsI_snoc h.len]
    simpa using this⟩
theorem Md.ll (h : Md w0 b w tO tR v vs M X) : Ll w v M := by
  refine ⟨vs, (h.s.own 0 rfl).sl, h.len, fun i hi => ?_⟩
  have hi' : i < vs.length := by rw [h.len]; exact hi
  have e : vs.getD i (.bool false) = vs.getD i nilV := by rw [← get_at vs (.bool false) i hi', ← get_at vs nilV i hi']
  rw [e]
  exact (h.s.own (i + 1) (by rw [List.getElem?_cons_succ, List.getElem?_append_left (by rw [rowsI_len h.len]; exact hi)]; exact rowsI_get h.len hi)).sl
theorem Md.rowOwn (h : Md w0 b w tO tR v vs M X) {i : Nat} (hi : i < M.length) : Own w 0 tR (vs.getD i nilV) ((M.getD i []).map (Value.int .i64)) :=
  h.s.own (i + 1) (by rw [List.getElem?_cons_succ, List.getElem?_append_left (by rw [rowsI_len h.len]; exact hi)]; exact rowsI_get h.len hi)
/-- A store into a row. -/
theorem Md.put (h : Md w0 b w tO tR v vs M []) {i : Nat} (hi : i < M.length) {g n c : Nat} (hv : vs.getD i nilV = .slice (some ⟨g, 0, none⟩) n c) (j : Nat) (x : Int) :
    Md w0 b (w.setCell ⟨g, j, none⟩ (.int .i64 x)) tO tR v vs (M.set i ((M.getD i []).set j x)) [] := by
  refine ⟨by simp [h.len], ?_⟩
  have hg := rowsI_get (tR := tR) h.len hi
  rw [hv] at hg
  have := h.s.set (i + 1) (by rw [List.getElem?_cons_succ, List.getElem?_append_left (by rw [rowsI_len h.len]; exact hi)]; exact hg) j (.int .i64 x)
  rw [List.set_cons_succ, List.append_nil] at this
  rw [List.append_nil]
  have e : rowsI tR vs (M.set i ((M.getD i []).set j x)) = (rowsI tR vs M).set i (.row tR (.slice (some ⟨g, 0, none⟩) n c) (((M.getD i []).map (Value.int .i64)).set j (.int .i64 x))) := by
    refine List.ext_getElem? fun k => ?_
    by_cases hk : k < M.length
    · rw [rowsI_get (by simp [h.len]) (by simpa using hk), getD_set _ _ _ _ _ hi]
      by_cases e : i = k
      · subst e
        rw [if_pos rfl, List.getElem?_set_self (by rw [rowsI_len h.len]; exact hk), hv, List.map_set]
      · rw [if_neg e, List.getElem?_set_ne e, rowsI_get h.len hk]
    · rw [List.getElem?_eq_none (by rw [rowsI_len (by simp [h.len])]; simp; omega), List.getElem?_eq_none (by rw [List.length_set, rowsI_len h.len]; omega)]
  rw [e]
  exact this
end
end Domi
