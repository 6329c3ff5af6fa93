/- Plain words and laws on memory, regions and dominoes, of several texts. -/
import Derived.Test.YtbjenmfoblniaaaZa
import Derived.Test.YtbjenmfoblniaaaZb
import Derived.Test.YtbjenmfoblniaaaZc
import Derived.Test.YtbjenmfoblniaaaZd

/- Flips: two dominoes around a corner. Plain. -/
set_option linter.unusedVariables false
namespace Domi
open Go Go.RowKit

/-- Is the corner inside the field? -/
def arOk (r : Reg) (c : Int) : Bool := decide (0 ≤ c) && (inB (c % (r.wide + 1)) 1 (r.wide - 1) && inB (c / (r.wide + 1)) 1 (r.tall - 1))
/-- The cell in the south-west of a corner. -/
def arB (r : Reg) (c : Int) : Int := (c / (r.wide + 1) - 1) * r.wide + c % (r.wide + 1) - 1
def flatC (r : Reg) (L : List Int) (c : Int) : Bool := arOk r c && (decide (L.getD (arB r c).toNat 0 = 1) && decide (L.getD (arB r c + r.wide).toNat 0 = 1))
def uprC (r : Reg) (L : List Int) (c : Int) : Bool := arOk r c && (decide (L.getD (arB r c).toNat 0 = 2) && decide (L.getD (arB r c + 1).toNat 0 = 2))
def canFl (r : Reg) (L : List Int) (c : Int) : Bool := flatC r L c || uprC r L c
def flipMay (r : Reg) (L : List Int) (c : Int) : Bool := laidOk r L && canFl r L c
def four (L : List Int) (a w : Nat) (x y z u : Int) : List Int := (((L.set a x).set (a + 1) y).set (a + w) z).set (a + w + 1) u
def flipL (r : Reg) (L : List Int) (c : Int) : List Int :=
  if flatC r L c then four L (arB r c).toNat r.wide.toNat 2 2 4 4 else if uprC r L c then four L (arB r c).toNat r.wide.toNat 1 3 1 3 else L
def flipOne (r : Reg) (L : List Int) (c : Int) : List Int × Bool := if laidOk r L then (flipL r L c, canFl r L c) else ([], false)
def corners (r : Reg) : Int := (r.wide + 1) * (r.tall + 1)
def flipsL (r : Reg) (L : List Int) : List Int := ((List.range (corners r).toNat).filter (fun k => canFl r L (k : Nat))).map Int.ofNat
def flipsOf (r : Reg) (L : List Int) : List Int := if laidOk r L then flipsL r L else []
def runL (r : Reg) (L : List Int) : List Int → List Int × Nat
  | [] => (L, 0)
  | c :: cs => ((runL r (flipL r L c) cs).1, (runL r (flipL r L c) cs).2 + if canFl r L c then 1 else 0)

/-- The four cells around a corner. -/
structure Sq (r : Reg) (c : Int) (a w : Nat) : Prop where
  v : r.valid = true
  ba : arB r c = (a : Int)
  bw : r.wide = (w : Int)
  w2 : 2 ≤ w
  lt : a + w + 1 < r.cells.length
  s1 : stepI r a 1 = ((a + 1 : Nat) : Int)
  s3 : stepI r (a + 1 : Nat) 3 = (a : Int)
  t1 : stepI r (a + w : Nat) 1 = ((a + w + 1 : Nat) : Int)
  t3 : stepI r (a + w + 1 : Nat) 3 = ((a + w : Nat) : Int)
  u2 : stepI r a 2 = ((a + w : Nat) : Int)
  u4 : stepI r (a + w : Nat) 4 = (a : Int)
  x2 : stepI r (a + 1 : Nat) 2 = ((a + w + 1 : Nat) : Int)
  x4 : stepI r (a + w + 1 : Nat) 4 = ((a + 1 : Nat) : Int)
theorem sq_of {r : Reg} {c : Int} (hv : r.valid = true) (h : arOk r c = true) : ∃ a w, Sq r c a w := by
  obtain ⟨v1, v2, v3, _⟩ := Reg.valid_iff.1 hv
  unfold arOk at h
  simp only [Bool.and_eq_true, decide_eq_true_eq, inB_iff] at h
  obtain ⟨h0, ⟨h1, h2⟩, h3, h4⟩ := h
  obtain ⟨x, hx⟩ : ∃ x, c % (r.wide + 1) - 1 = x := ⟨_, rfl⟩
  obtain ⟨y, hy⟩ : ∃ y, c / (r.wide + 1) - 1 = y := ⟨_, rfl⟩
  have eb : arB r c = y * r.wide + x := by unfold arB; rw [hy]; omega
  have p0 := xy_of (w := r.wide) (x := x) (y := y) (by omega) (by omega)
  have p1 := xy_of (w := r.wide) (x := x + 1) (y := y) (by omega) (by omega)
  have p2 := xy_of (w := r.wide) (x := x) (y := y + 1) (by omega) (by omega)
  have p3 := xy_of (w := r.wide) (x := x + 1) (y := y + 1) (by omega) (by omega)
  have q0 := xy_lt (w := r.wide) (t := r.tall) (x := x) (y := y) (by omega) (by omega) (by omega) (by omega)
  have q3 := xy_lt (w := r.wide) (t := r.tall) (x := x + 1) (y := y + 1) (by omega) (by omega) (by omega) (by omega)
  rw [Int.add_mul, Int.one_mul] at p2 p3 q3
  obtain ⟨a, ha⟩ := Int.eq_ofNat_of_zero_le q0.1
  obtain ⟨w, hw⟩ := Int.eq_ofNat_of_zero_le (show 0 ≤ r.wide by omega)
  have e0 : y * r.wide + x = (a : Int) := ha
  have e1 : y * r.wide + (x + 1) = ((a + 1 : Nat) : Int) := by omega
  have e2 : y * r.wide + r.wide + x = ((a + w : Nat) : Int) := by omega
  have e3 : y * r.wide + r.wide + (x + 1) = ((a + w + 1 : Nat) : Int) := by omega
  rw [e0] at p0; rw [e1] at p1; rw [e2] at p2; rw [e3] at p3
  refine ⟨a, w, ⟨hv, by rw [eb, e0], hw, by omega, by omega, ?_, ?_, ?_, ?_, ?_, ?_, ?_, ?_⟩⟩ <;> unfold stepI
  · rw [if_pos rfl, p0.1, if_pos (by omega)]; omega
  · rw [if_neg (by decide), if_neg (by decide), if_pos rfl, p1.1, if_pos (by omega)]; omega
  · rw [if_pos rfl, p2.1, if_pos (by omega)]; omega
  · rw [if_neg (by decide), if_neg (by decide), if_pos rfl, p3.1, if_pos (by omega)]; omega
  · rw [if_neg (by decide), if_pos rfl, p0.2, if_pos (by omega)]; omega
  · rw [if_neg (by decide), if_neg (by decide), if_neg (by decide), if_pos rfl, p2.2, if_pos (by omega)]; omega
  · rw [if_neg (by decide), if_pos rfl, p1.2, if_pos (by omega)]; omega
  · rw [if_neg (by decide), if_neg (by decide), if_neg (by decide), if_pos rfl, p3.2, if_pos (by omega)]; omega

theorem four_get {L : List Int} {a w : Nat} (h2 : 2 ≤ w) (h : a + w + 1 < L.length) (x y z u : Int) (k : Nat) :
    (four L a w x y z u).getD k 0 = if a + w + 1 = k then u else if a + w = k then z else if a + 1 = k then y else if a = k then x else L.getD k 0 := by
  unfold four
  rw [getD_put _ _ k u (by simp; omega), getD_put _ _ k z (by simp; omega), getD_put _ _ k y (by simp; omega), getD_put _ _ k x (by omega)]
theorem four_len (L : List Int) (a w : Nat) (x y z u : Int) : (four L a w x y z u).length = L.length := by simp [four]
theorem flipL_len (r : Reg) (L : List Int) (c : Int) : (flipL r L c).length = L.length := by
  unfold flipL; split
  · exact four_len ..
  · split
    · exact four_len ..
    · rfl

/-- Another list that lays dominoes on the same cells lays dominoes. -/
theorem swap_ok {r : Reg} {L L' : List Int} (h : laidOk r L = true) (hl : L'.length = L.length) (F : Nat → Prop) (out : ∀ k, ¬ F k → L'.getD k 0 = L.getD k 0)
    (hold : ∀ m, F m → ∃ m' : Nat, F m' ∧ stepI r m (L.getD m 0) = m')
    (hnew : ∀ m, F m → r.f m = true ∧ ∃ m' : Nat, F m' ∧ stepI r m (L'.getD m 0) = m' ∧ L'.getD m' 0 = backI (L'.getD m 0)) : laidOk r L' = true := by
  obtain ⟨hv, hlen, hall⟩ := laidOk_iff.1 h
  refine laidOk_iff.2 ⟨hv, by omega, fun k hk => ?_⟩
  by_cases hF : F k
  · obtain ⟨f1, m', hF', e1, e2⟩ := hnew k hF
    have f2 := (hnew m' hF').1
    exact okAt_good (x := L'.getD k 0) (s := (m' : Int)) rfl e1 (by omega) f1 (by rw [Int.toNat_natCast]; exact f2) (by rw [Int.toNat_natCast]; exact e2)
  · have e := out k hF
    by_cases h0 : L.getD k 0 = 0
    · exact okAt_zero (by rw [e, h0])
    · have A := laidOk_at h (by omega) h0
      obtain ⟨s, hs⟩ := Int.eq_ofNat_of_zero_le A.dest.1
      have hth := A.there; have hbk := A.back
      rw [hs, Int.toNat_natCast] at hth hbk
      have hnF : ¬ F s := fun hFs => by
        obtain ⟨m', hF', e1⟩ := hold s hFs
        have hm := stepI_home hv (k := k) (x := L.getD k 0) (by omega) A.dest.1
        rw [hs, ← hbk] at hm
        change stepI r (s : Int) _ = _ at hm
        rw [e1] at hm
        have : m' = k := by omega
        exact hF (this ▸ hF')
      exact okAt_good (x := L.getD k 0) (s := (s : Int)) e hs (by omega) A.here (by rw [Int.toNat_natCast]; exact hth) (by rw [Int.toNat_natCast, out s hnF]; exact hbk)

section
variable {r : Reg} {L : List Int} {c : Int} {a w : Nat}
theorem flatC_ar (h : flatC r L c = true) : arOk r c = true := by unfold flatC at h; simp at h; exact h.1
theorem uprC_ar (h : uprC r L c = true) : arOk r c = true := by unfold uprC at h; simp at h; exact h.1
theorem canFl_ar (h : canFl r L c = true) : arOk r c = true := by
  unfold canFl at h; rw [Bool.or_eq_true] at h
  exact h.elim flatC_ar uprC_ar
theorem flatC_eq (q : Sq r c a w) (h : arOk r c = true) : flatC r L c = (decide (L.getD a 0 = 1) && decide (L.getD (a + w) 0 = 1)) := by
  unfold flatC; rw [h, q.ba, q.bw, Bool.true_and]; rfl
theorem uprC_eq (q : Sq r c a w) (h : arOk r c = true) : uprC r L c = (decide (L.getD a 0 = 2) && decide (L.getD (a + 1) 0 = 2)) := by
  unfold uprC; rw [h, q.ba, Bool.true_and]; rfl
structure Sq4 (r : Reg) (L : List Int) (a w : Nat) (x y z u : Int) : Prop where
  ga : L.getD a 0 = x
  gb : L.getD (a + 1) 0 = y
  gc : L.getD (a + w) 0 = z
  gd : L.getD (a + w + 1) 0 = u
  fa : r.f a = true
  fb : r.f (a + 1) = true
  fc : r.f (a + w) = true
  fd : r.f (a + w + 1) = true
theorem sq_flat (h : laidOk r L = true) (q : Sq r c a w) (hf : flatC r L c = true) : Sq4 r L a w 1 3 1 3 := by
  rw [flatC_eq q (flatC_ar hf)] at hf
  simp only [Bool.and_eq_true, decide_eq_true_eq] at hf
  obtain ⟨h1, h2⟩ := hf
  obtain ⟨_, hlen, _⟩ := laidOk_iff.1 h
  have hlt := q.lt
  have A := laidOk_at h (k := a) (by omega) (by rw [h1]; decide)
  have C := laidOk_at h (k := a + w) (by omega) (by rw [h2]; decide)
  have a1 := A.there; have a2 := A.back; have c1 := C.there; have c2 := C.back
  rw [h1, q.s1, Int.toNat_natCast] at a1 a2
  rw [h2, q.t1, Int.toNat_natCast] at c1 c2
  exact ⟨h1, a2, h2, c2, A.here, a1, C.here, c1⟩
theorem sq_upr (h : laidOk r L = true) (q : Sq r c a w) (hf : uprC r L c = true) : Sq4 r L a w 2 2 4 4 := by
  rw [uprC_eq q (uprC_ar hf)] at hf
  simp only [Bool.and_eq_true, decide_eq_true_eq] at hf
  obtain ⟨h1, h2⟩ := hf
  obtain ⟨_, hlen, _⟩ := laidOk_iff.1 h
  have hlt := q.lt
  have A := laidOk_at h (k := a) (by omega) (by rw [h1]; decide)
  have C := laidOk_at h (k := a + 1) (by have := q.w2; omega) (by rw [h2]; decide)
  have a1 := A.there; have a2 := A.back; have c1 := C.there; have c2 := C.back
  rw [h1, q.u2, Int.toNat_natCast] at a1 a2
  rw [h2, q.x2, Int.toNat_natCast] at c1 c2
  exact ⟨h1, h2, a2, c2, A.here, C.here, a1, c1⟩
theorem sq_get (q : Sq r c a w) (hl : L.length = r.cells.length) (x y z u : Int) : (four L a w x y z u).getD a 0 = x ∧ (four L a w x y z u).getD (a + 1) 0 = y ∧ (four L a w x y z u).getD (a + w) 0 = z ∧ (four L a w x y z u).getD (a + w + 1) 0 = u := by
  have h2 := q.w2; have hlt := q.lt
  refine ⟨?_, ?_, ?_, ?_⟩ <;> rw [four_get h2 (by omega)]
  · rw [if_neg (by omega), if_neg (by omega), if_neg (by omega), if_pos rfl]
  · rw [if_neg (by omega), if_neg (by omega), if_pos rfl]
  · rw [if_neg (by omega), if_pos rfl]
  · rw [if_pos rfl]
theorem flipL_flat (q : Sq r c a w) (hf : flatC r L c = true) : flipL r L c = four L a w 2 2 4 4 := by
  unfold flipL; rw [if_pos hf, q.ba, q.bw, Int.toNat_natCast, Int.toNat_natCast]
theorem flipL_upr (q : Sq r c a w) (h : flatC r L c = false) (hf : uprC r L c = true) : flipL r L c = four L a w 1 3 1 3 := by
  unfold flipL; rw [h, if_neg (by decide), if_pos hf, q.ba, q.bw, Int.toNat_natCast, Int.toNat_natCast]
theorem flipL_no (h : canFl r L c = false) : flipL r L c = L := by
  unfold canFl at h; rw [Bool.or_eq_false_iff] at h
  unfold flipL; rw [h.1, h.2]; rfl
/-- The flipped list lays dominoes. -/
theorem flip_ok (h : laidOk r L = true) : laidOk r (flipL r L c) = true := by
  obtain ⟨hv, hlen, _⟩ := laidOk_iff.1 h
  cases hf : flatC r L c
  · cases hu : uprC r L c
    · rw [flipL_no (by unfold canFl; rw [hf, hu]; rfl)]; exact h
    · obtain ⟨a, w, q⟩ := sq_of hv (uprC_ar hu)
      have S := sq_upr h q hu
      have G := sq_get q hlen 1 3 1 3
      rw [flipL_upr q hf hu]
      refine swap_ok h (four_len ..) (fun m => m = a ∨ m = a + 1 ∨ m = a + w ∨ m = a + w + 1) (fun k hk => ?_) (fun m hm => ?_) fun m hm => ?_
      · rw [four_get q.w2 (by have := q.lt; omega), if_neg (by omega), if_neg (by omega), if_neg (by omega), if_neg (by omega)]
      · rcases hm with rfl | rfl | rfl | rfl
        · exact ⟨m + w, by simp, by rw [S.ga, q.u2]⟩
        · exact ⟨a + w + 1, by simp, by rw [S.gb, q.x2]⟩
        · exact ⟨a, by simp, by rw [S.gc, q.u4]⟩
        · exact ⟨a + 1, by simp, by rw [S.gd, q.x4]⟩
      · rcases hm with rfl | rfl | rfl | rfl
        · exact ⟨S.fa, m + 1, by simp, by rw [G.1, q.s1], by rw [G.1, G.2.1]; rfl⟩
        · exact ⟨S.fb, a, by simp, by rw [G.2.1, q.s3], by rw [G.1, G.2.1]; rfl⟩
        · exact ⟨S.fc, a + w + 1, by simp, by rw [G.2.2.1, q.t1], by rw [G.2.2.1, G.2.2.2]; rfl⟩
        · exact ⟨S.fd, a + w, by simp, by rw [G.2.2.2, q.t3], by rw [G.2.2.1, G.2.2.2]; rfl⟩
  · obtain ⟨a, w, q⟩ := sq_of hv (flatC_ar hf)
    have S := sq_flat h q hf
    have G := sq_get q hlen 2 2 4 4
    rw [flipL_flat q hf]
    refine swap_ok h (four_len ..) (fun m => m = a ∨ m = a + 1 ∨ m = a + w ∨ m = a + w + 1) (fun k hk => ?_) (fun m hm => ?_) fun m hm => ?_
    · rw [four_get q.w2 (by have := q.lt; omega), if_neg (by omega), if_neg (by omega), if_neg (by omega), if_neg (by omega)]
    · rcases hm with rfl | rfl | rfl | rfl
      · exact ⟨m + 1, by simp, by rw [S.ga, q.s1]⟩
      · exact ⟨a, by simp, by rw [S.gb, q.s3]⟩
      · exact ⟨a + w + 1, by simp, by rw [S.gc, q.t1]⟩
      · exact ⟨a + w, by simp, by rw [S.gd, q.t3]⟩
    · rcases hm with rfl | rfl | rfl | rfl
      · exact ⟨S.fa, m + w, by simp, by rw [G.1, q.u2], by rw [G.1, G.2.2.1]; rfl⟩
      · exact ⟨S.fb, a + w + 1, by simp, by rw [G.2.1, q.x2], by rw [G.2.1, G.2.2.2]; rfl⟩
      · exact ⟨S.fc, a, by simp, by rw [G.2.2.1, q.u4], by rw [G.1, G.2.2.1]; rfl⟩
      · exact ⟨S.fd, a + 1, by simp, by rw [G.2.2.2, q.x4], by rw [G.2.1, G.2.2.2]; rfl⟩
/-- A flip leads to one that leads back. -/
theorem flip_may (h : laidOk r L = true) (hc : canFl r L c = true) : canFl r (flipL r L c) c = true := by
  obtain ⟨hv, hlen, _⟩ := laidOk_iff.1 h
  have har := canFl_ar hc
  obtain ⟨a, w, q⟩ := sq_of hv har
  unfold canFl
  rw [Bool.or_eq_true]
  cases hf : flatC r L c
  · have hu : uprC r L c = true := by unfold canFl at hc; rw [hf] at hc; simpa using hc
    have G := sq_get q hlen 1 3 1 3
    left; rw [flipL_upr q hf hu, flatC_eq q har, G.1, G.2.2.1]; rfl
  · have G := sq_get q hlen 2 2 4 4
    right; rw [flipL_flat q hf, uprC_eq q har, G.1, G.2.1]; rfl
/-- What the reference asks: all four cells belong to the region. -/
def sqOk (r : Reg) (c : Int) : Bool := arOk r c && (r.f (arB r c).toNat && (r.f (arB r c + 1).toNat && (r.f (arB r c + r.wide).toNat && r.f (arB r c + r.wide + 1).toNat)))
theorem canFl_sq (h : laidOk r L = true) : (sqOk r c && canFl r L c) = canFl r L c := by
  obtain ⟨hv, hlen, _⟩ := laidOk_iff.1 h
  cases hc : canFl r L c
  · rw [Bool.and_false]
  · have har := canFl_ar hc
    obtain ⟨a, w, q⟩ := sq_of hv har
    have hx : r.f a = true ∧ r.f (a + 1) = true ∧ r.f (a + w) = true ∧ r.f (a + w + 1) = true := by
      unfold canFl at hc
      rw [Bool.or_eq_true] at hc
      rcases hc with hc | hc
      · have S := sq_flat h q hc; exact ⟨S.fa, S.fb, S.fc, S.fd⟩
      · have S := sq_upr h q hc; exact ⟨S.fa, S.fb, S.fc, S.fd⟩
    unfold sqOk
    rw [har, q.ba, q.bw, show ((a : Int)).toNat = a from rfl, show ((a : Int) + 1).toNat = a + 1 from rfl, show ((a : Int) + (w : Int)).toNat = a + w from rfl, show ((a : Int) + (w : Int) + 1).toNat = a + w + 1 from rfl, hx.1, hx.2.1, hx.2.2.1, hx.2.2.2]; rfl
end
end Domi

/- AcrossMany as the reference counts: plain. -/
set_option linter.unusedVariables false
namespace Domi
open Go Go.RowKit

/-- Half-way from one list to another. -/
def mixL (f g : Nat → Bool) (n k : Nat) : List Bool := (List.range n).map fun j => if j < k then g j else f j
theorem mixL_len (f g : Nat → Bool) (n k : Nat) : (mixL f g n k).length = n := by simp [mixL]
theorem mixL_set (f g : Nat → Bool) {n k : Nat} (h : k < n) {b : Bool} (hb : g k = b) : (mixL f g n k).set k b = mixL f g n (k + 1) := by
  refine List.ext_getElem (by simp [mixL]) fun i h1 h2 => ?_
  simp [mixL] at h1 h2
  rw [List.getElem_set]
  simp only [mixL, List.getElem_map, List.getElem_range]
  by_cases e : k = i
  · subst e; simp [hb]
  · rw [if_neg e]
    by_cases hi : i < k
    · rw [if_pos hi, if_pos (by omega)]
    · rw [if_neg hi, if_neg (by omega)]
theorem mixL_same (f g : Nat → Bool) {n k : Nat} (hb : g k = f k) : mixL f g n (k + 1) = mixL f g n k := by
  refine List.map_congr_left fun j _ => ?_
  by_cases hj : j < k
  · rw [if_pos hj, if_pos (by omega)]
  · by_cases e : j = k
    · subst e; rw [if_pos (by omega), if_neg hj, hb]
    · rw [if_neg hj, if_neg (by omega)]
theorem mixL_zero (f g : Nat → Bool) (n : Nat) : mixL f g n 0 = (List.range n).map f := List.map_congr_left fun j _ => if_neg (Nat.not_lt_zero _)
theorem mixL_all (f g : Nat → Bool) (n : Nat) : mixL f g n n = (List.range n).map g := List.map_congr_left fun j hj => if_pos (List.mem_range.1 hj)
theorem range_f (r : Reg) : (List.range r.cells.length).map r.f = r.cells := by
  refine List.ext_getElem (by simp) fun i h1 h2 => ?_
  simp [Reg.f, List.getD_eq_getElem?_getD, h2]
/-- What stays of a cell in the west, and in the east. -/
def wB (r : Reg) (w col set k : Nat) : Bool := r.f k && (decide (k % w < col) && !(inRow w set k && decide (k % w + 1 = col)))
def eB (r : Reg) (w col set k : Nat) : Bool := r.f k && (decide (col ≤ k % w) && !(inRow w set k && decide (k % w = col)))
theorem west_mix (r : Reg) (w col set : Nat) : mixL r.f (wB r w col set) r.cells.length r.cells.length = (westC r w col set).cells := mixL_all _ _ _
theorem east_mix (r : Reg) (w col set : Nat) : mixL r.f (eB r w col set) r.cells.length r.cells.length = (eastC r w col set).cells := mixL_all _ _ _
theorem mix_start (r : Reg) (g : Nat → Bool) : mixL r.f g r.cells.length 0 = r.cells := by rw [mixL_zero, range_f]
theorem wB_no {r : Reg} {w col set k : Nat} (h : col ≤ k % w ∨ (inRow w set k = true ∧ k % w + 1 = col)) : wB r w col set k = false := by
  unfold wB
  rcases h with h | ⟨h1, h2⟩
  · rw [decide_eq_false (by omega)]; simp
  · rw [h1, decide_eq_true h2]; simp
theorem wB_yes {r : Reg} {w col set k : Nat} (h1 : k % w < col) (h2 : inRow w set k = false ∨ k % w + 1 ≠ col) : wB r w col set k = r.f k := by
  unfold wB
  rw [decide_eq_true h1]
  rcases h2 with h2 | h2
  · rw [h2]; simp
  · rw [decide_eq_false h2]; simp
theorem eB_no {r : Reg} {w col set k : Nat} (h : k % w < col ∨ (inRow w set k = true ∧ k % w = col)) : eB r w col set k = false := by
  unfold eB
  rcases h with h | ⟨h1, h2⟩
  · rw [decide_eq_false (by omega)]; simp
  · rw [h1, decide_eq_true h2]; simp
theorem eB_yes {r : Reg} {w col set k : Nat} (h1 : col ≤ k % w) (h2 : inRow w set k = false ∨ k % w ≠ col) : eB r w col set k = r.f k := by
  unfold eB
  rw [decide_eq_true h1]
  rcases h2 with h2 | h2
  · rw [h2]; simp
  · rw [decide_eq_false h2]; simp
/-- Good up to a cell. -/
def GoodTo (r : Reg) (w col set n : Nat) : Prop := ∀ k, k < n → inRow w set k = true → (k % w + 1 = col ∨ k % w = col) → r.f k = true
theorem GoodTo.next {r : Reg} {w col set n : Nat} (h : GoodTo r w col set n) (hn : inRow w set n = true → (n % w + 1 = col ∨ n % w = col) → r.f n = true) : GoodTo r w col set (n + 1) := by
  intro k hk h1 h2
  by_cases e : k = n
  · subst e; exact hn h1 h2
  · exact h k (by omega) h1 h2
theorem acMany_no1 {r : Reg} {col set : Int} (h : r.valid = false) : acMany r col set = -1 := by unfold acMany; rw [h]; rfl
theorem acMany_no2 {r : Reg} {col set : Int} (h : inB col 1 (r.wide - 1) = false) : acMany r col set = -1 := by unfold acMany; rw [h, Bool.and_false]; rfl
theorem acMany_no3 {r : Reg} {col set : Int} (h : inB set 0 ((2 : Int) ^ r.tall.toNat - 1) = false) : acMany r col set = -1 := by unfold acMany; rw [h, Bool.and_false]; rfl
theorem acMany_yes {r : Reg} {col set : Nat} (hv : r.valid = true) (hc : inB col 1 (r.wide - 1) = true) (hs : inB set 0 ((2 : Int) ^ r.tall.toNat - 1) = true) : acMany r col set = (acCount r col set : Int) := by
  unfold acMany; rw [hv, hc, hs]; rfl
/-- The sum over all sets, as the law has it. -/
def acSumR (r : Reg) (col : Int) : Int := if r.valid && inB col 1 (r.wide - 1) then manyT r else -1
theorem acSumR_no1 {r : Reg} {col : Int} (h : r.valid = false) : acSumR r col = -1 := by unfold acSumR; rw [h]; rfl
theorem acSumR_no2 {r : Reg} {col : Int} (h : inB col 1 (r.wide - 1) = false) : acSumR r col = -1 := by unfold acSumR; rw [h, Bool.and_false]; rfl
theorem acSumR_yes {r : Reg} {col : Int} (hv : r.valid = true) (hc : inB col 1 (r.wide - 1) = true) : acSumR r col = manyT r := by unfold acSumR; rw [hv, hc]; rfl
theorem bit_of {s k : Nat} : ((s : Int) / 2 ^ k) % 2 = (if s.testBit k then 1 else 0) := by
  rw [Nat.testBit_eq_decide_div_mod_eq]
  have e : ((s : Int) / 2 ^ k) % 2 = ((s / 2 ^ k % 2 : Nat) : Int) := by push_cast; rfl
  rw [e]
  have h2 : s / 2 ^ k % 2 < 2 := Nat.mod_lt _ (by omega)
  by_cases h : s / 2 ^ k % 2 = 1
  · rw [h]; simp
  · rw [show s / 2 ^ k % 2 = 0 by omega]; simp
end Domi
