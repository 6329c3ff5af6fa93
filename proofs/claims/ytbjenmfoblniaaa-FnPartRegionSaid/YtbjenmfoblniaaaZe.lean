/- Plain words and laws on memory, regions and dominoes, of several texts. -/
import Derived.Test.YtbjenmfoblniaaaZa
import Derived.Test.YtbjenmfoblniaaaZb
import Derived.Test.YtbjenmfoblniaaaZc
import Derived.Test.YtbjenmfoblniaaaZd
import Derived.Test.YtbjenmfoblniaaaVRowKit

/- Flips: two dominoes around a corner. Plain. -/
set_option linter.unusedVariables false
namespace Domi
open Go Go.RowKit

/-- Is the corner inside the field? -/
def arOk (r : Reg) (c : Int) : Bool := decide (0 ≤ c) && (inB (c % (r.wide + 1)) 1 (r.wide - 1) && inB (c / (r.wide + 1)) 1 (r.tall - 1))
/-- The cell in the south-west of a corner. -/
def arB (r : Reg) (c : Int) : Int := (c / (r.wide + 1) - 1) * r.wide + c % (r.wide + 1) - 1
def flatC (r : Reg) (L : List Int) (c : Int) : Bool := arOk r c && (decide (L.getD (arB r c).toNat 0 = 1) && decide (L.getD (arB r c + r.wide).toNat 0 = 1))
def uprC (r : Reg) (L : List Int) (c : Int) : Bool := arOk r c && (decide (L.getD (arB r c).toNat 0 = 2) && decide (L.getD (arB r c + 1).toNat 0 = 2))
def canFl (r : Reg) (L : List Int) (c : Int) : Bool := flatC r L c || uprC r L c
def flipMay (r : Reg) (L : List Int) (c : Int) : Bool := laidOk r L && canFl r L c
def four (L : List Int) (a w : Nat) (x y z u : Int) : List Int := (((L.set a x).set (a + 1) y).set (a + w) z).set (a + w + 1) u
def flipL (r : Reg) (L : List Int) (c : Int) : List Int :=
  if flatC r L c then four L (arB r c).toNat r.wide.toNat 2 2 4 4 else if uprC r L c then four L (arB r c).toNat r.wide.toNat 1 3 1 3 else L
def flipOne (r : Reg) (L : List Int) (c : Int) : List Int × Bool := if laidOk r L then (flipL r L c, canFl r L c) else ([], false)
def corners (r : Reg) : Int := (r.wide + 1) * (r.tall + 1)
def flipsL (r : Reg) (L : List Int) : List Int := ((List.range (corners r).toNat).filter (fun k => canFl r L (k : Nat))).map Int.ofNat
def flipsOf (r : Reg) (L : List Int) : List Int := if laidOk r L then flipsL r L else []
def runL (r : Reg) (L : List Int) : List Int → List Int × Nat
  | [] => (L, 0)
  | c :: cs => ((runL r (flipL r L c) cs).1, (runL r (flipL r L c) cs).2 + if canFl r L c then 1 else 0)

/-- The four cells around a corner. -/
structure Sq (r : Reg) (c : Int) (a w : Nat) : Prop where
  v : r.valid = true
  ba : arB r c = (a : Int)
  bw : r.wide = (w : Int)
  w2 : 2 ≤ w
  lt : a + w + 1 < r.cells.length
  s1 : stepI r a 1 = ((a + 1 : Nat) : Int)
  s3 : stepI r (a + 1 : Nat) 3 = (a : Int)
  t1 : stepI r (a + w : Nat) 1 = ((a + w + 1 : Nat) : Int)
  t3 : stepI r (a + w + 1 : Nat) 3 = ((a + w : Nat) : Int)
  u2 : stepI r a 2 = ((a + w : Nat) : Int)
  u4 : stepI r (a + w : Nat) 4 = (a : Int)
  x2 : stepI r (a + 1 : Nat) 2 = ((a + w + 1 : Nat) : Int)
  x4 : stepI r (a + w + 1 : Nat) 4 = ((a + 1 : Nat) : Int)
theorem sq_of {r : Reg} {c : Int} (hv : r.valid = true) (h : arOk r c = true) : ∃ a w, Sq r c a w := by
  obtain ⟨v1, v2, v3, _⟩ := Reg.valid_iff.1 hv
  unfold arOk at h
  simp only [Bool.and_eq_true, decide_eq_true_eq, inB_iff] at h
  obtain ⟨h0, ⟨h1, h2⟩, h3, h4⟩ := h
  obtain ⟨x, hx⟩ : ∃ x, c % (r.wide + 1) - 1 = x := ⟨_, rfl⟩
  obtain ⟨y, hy⟩ : ∃ y, c / (r.wide + 1) - 1 = y := ⟨_, rfl⟩
  have eb : arB r c = y * r.wide + x := by unfold arB; rw [hy]; omega
  have p0 := xy_of (w := r.wide) (x := x) (y := y) (by omega) (by omega)
  have p1 := xy_of (w := r.wide) (x := x + 1) (y := y) (by omega) (by omega)
  have p2 := xy_of (w := r.wide) (x := x) (y := y + 1) (by omega) (by omega)
  have p3 := xy_of (w := r.wide) (x := x + 1) (y := y + 1) (by omega) (by omega)
  have q0 := xy_lt (w := r.wide) (t := r.tall) (x := x) (y := y) (by omega) (by omega) (by omega) (by omega)
  have q3 := xy_lt (w := r.wide) (t := r.tall) (x := x + 1) (y := y + 1) (by omega) (by omega) (by omega) (by omega)
  rw [Int.add_mul, Int.one_mul] at p2 p3 q3
  obtain ⟨a, ha⟩ := Int.eq_ofNat_of_zero_le q0.1
  obtain ⟨w, hw⟩ := Int.eq_ofNat_of_zero_le (show 0 ≤ r.wide by omega)
  have e0 : y * r.wide + x = (a : Int) := ha
  have e1 : y * r.wide + (x + 1) = ((a + 1 : Nat) : Int) := by omega
  have e2 : y * r.wide + r.wide + x = ((a + w : Nat) : Int) := by omega
  have e3 : y * r.wide + r.wide + (x + 1) = ((a + w + 1 : Nat) : Int) := by omega
  rw [e0] at p0; rw [e1] at p1; rw [e2] at p2; rw [e3] at p3
  refine ⟨a, w, ⟨hv, by rw [eb, e0], hw, by omega, by omega, ?_, ?_, ?_, ?_, ?_, ?_, ?_, ?_⟩⟩ <;> unfold stepI
  · rw [if_pos rfl, p0.1, if_pos (by omega)]; omega
  · rw [if_neg (by decide), if_neg (by decide), if_pos rfl, p1.1, if_pos (by omega)]; omega
  · rw [if_pos rfl, p2.1, if_pos (by omega)]; omega
  · rw [if_neg (by decide), if_neg (by decide), if_pos rfl, p3.1, if_pos (by omega)]; omega
  · rw [if_neg (by decide), if_pos rfl, p0.2, if_pos (by omega)]; omega
  · rw [if_neg (by decide), if_neg (by decide), if_neg (by decide), if_pos rfl, p2.2, if_pos (by omega)]; omega
  · rw [if_neg (by decide), if_pos rfl, p1.2, if_pos (by omega)]; omega
  · rw [if_neg (by decide), if_neg (by decide), if_neg (by decide), if_pos rfl, p3.2, if_pos (by omega)]; omega

theorem four_get {L : List Int} {a w : Nat} (h2 : 2 ≤ w) (h : a + w + 1 < L.length) (x y z u : Int) (k : Nat) :
    (four L a w x y z u).getD k 0 = if a + w + 1 = k then u else if a + w = k then z else if a + 1 = k then y else if a = k then x else L.getD k 0 := by
  unfold four
  rw [getD_put _ _ k u (by simp; omega), getD_put _ _ k z (by simp; omega), getD_put _ _ k y (by simp; omega), getD_put _ _ k x (by omega)]
theorem four_len (L : List Int) (a w : Nat) (x y z u : Int) : (four L a w x y z u).length = L.length := by simp [four]
theorem flipL_len (r : Reg) (L : List Int) (c : Int) : (flipL r L c).length = L.length := by
  unfold flipL; split
  · exact four_len ..
  · split
    · exact four_len ..
    · rfl

/-- Another list that lays dominoes on the same cells lays dominoes. -/
theorem swap_ok {r : Reg} {L L' : List Int} (h : laidOk r L = true) (hl : L'.length = L.length) (F : Nat → Prop) (out : ∀ k, ¬ F k → L'.getD k 0 = L.getD k 0)
    (hold : ∀ m, F m → ∃ m' : Nat, F m' ∧ stepI r m (L.getD m 0) = m')
    (hnew : ∀ m, F m → r.f m = true ∧ ∃ m' : Nat, F m' ∧ stepI r m (L'.getD m 0) = m' ∧ L'.getD m' 0 = backI (L'.getD m 0)) : laidOk r L' = true := by
  obtain ⟨hv, hlen, hall⟩ := laidOk_iff.1 h
  refine laidOk_iff.2 ⟨hv, by omega, fun k hk => ?_⟩
  by_cases hF : F k
  · obtain ⟨f1, m', hF', e1, e2⟩ := hnew k hF
    have f2 := (hnew m' hF').1
    exact okAt_good (x := L'.getD k 0) (s := (m' : Int)) rfl e1 (by omega) f1 (by rw [Int.toNat_natCast]; exact f2) (by rw [Int.toNat_natCast]; exact e2)
  · have e := out k hF
    by_cases h0 : L.getD k 0 = 0
    · exact okAt_zero (by rw [e, h0])
    · have A := laidOk_at h (by omega) h0
      obtain ⟨s, hs⟩ := Int.eq_ofNat_of_zero_le A.dest.1
      have hth := A.there; have hbk := A.back
      rw [hs, Int.toNat_natCast] at hth hbk
      have hnF : ¬ F s := fun hFs => by
        obtain ⟨m', hF', e1⟩ := hold s hFs
        have hm := stepI_home hv (k := k) (x := L.getD k 0) (by omega) A.dest.1
        rw [hs, ← hbk] at hm
        change stepI r (s : Int) _ = _ at hm
        rw [e1] at hm
        have : m' = k := by omega
        exact hF (this ▸ hF')
      exact okAt_good (x := L.getD k 0) (s := (s : Int)) e hs (by omega) A.here (by rw [Int.toNat_natCast]; exact hth) (by rw [Int.toNat_natCast, out s hnF]; exact hbk)

section
variable {r : Reg} {L : List Int} {c : Int} {a w : Nat}
theorem flatC_ar (h : flatC r L c = true) : arOk r c = true := by unfold flatC at h; simp at h; exact h.1
theorem uprC_ar (h : uprC r L c = true) : arOk r c = true := by unfold uprC at h; simp at h; exact h.1
theorem canFl_ar (h : canFl r L c = true) : arOk r c = true := by
  unfold canFl at h; rw [Bool.or_eq_true] at h
  exact h.elim flatC_ar uprC_ar
theorem flatC_eq (q : Sq r c a w) (h : arOk r c = true) : flatC r L c = (decide (L.getD a 0 = 1) && decide (L.getD (a + w) 0 = 1)) := by
  unfold flatC; rw [h, q.ba, q.bw, Bool.true_and]; rfl
theorem uprC_eq (q : Sq r c a w) (h : arOk r c = true) : uprC r L c = (decide (L.getD a 0 = 2) && decide (L.getD (a + 1) 0 = 2)) := by
  unfold uprC; rw [h, q.ba, Bool.true_and]; rfl
structure Sq4 (r : Reg) (L : List Int) (a w : Nat) (x y z u : Int) : Prop where
  ga : L.getD a 0 = x
  gb : L.getD (a + 1) 0 = y
  gc : L.getD (a + w) 0 = z
  gd : L.getD (a + w + 1) 0 = u
  fa : r.f a = true
  fb : r.f (a + 1) = true
  fc : r.f (a + w) = true
  fd : r.f (a + w + 1) = true
theorem sq_flat (h : laidOk r L = true) (q : Sq r c a w) (hf : flatC r L c = true) : Sq4 r L a w 1 3 1 3 := by
  rw [flatC_eq q (flatC_ar hf)] at hf
  simp only [Bool.and_eq_true, decide_eq_true_eq] at hf
  obtain ⟨h1, h2⟩ := hf
  obtain ⟨_, hlen, _⟩ := laidOk_iff.1 h
  have hlt := q.lt
  have A := laidOk_at h (k := a) (by omega) (by rw [h1]; decide)
  have C := laidOk_at h (k := a + w) (by omega) (by rw [h2]; decide)
  have a1 := A.there; have a2 := A.back; have c1 := C.there; have c2 := C.back
  rw [h1, q.s1, Int.toNat_natCast] at a1 a2
  rw [h2, q.t1, Int.toNat_natCast] at c1 c2
  exact ⟨h1, a2, h2, c2, A.here, a1, C.here, c1⟩
theorem sq_upr (h : laidOk r L = true) (q : Sq r c a w) (hf : uprC r L c = true) : Sq4 r L a w 2 2 4 4 := by
  rw [uprC_eq q (uprC_ar hf)] at hf
  simp only [Bool.and_eq_true, decide_eq_true_eq] at hf
  obtain ⟨h1, h2⟩ := hf
  obtain ⟨_, hlen, _⟩ := laidOk_iff.1 h
  have hlt := q.lt
  have A := laidOk_at h (k := a) (by omega) (by rw [h1]; decide)
  have C := laidOk_at h (k := a + 1) (by have := q.w2; omega) (by rw [h2]; decide)
  have a1 := A.there; have a2 := A.back; have c1 := C.there; have c2 := C.back
  rw [h1, q.u2, Int.toNat_natCast] at a1 a2
  rw [h2, q.x2, Int.toNat_natCast] at c1 c2
  exact ⟨h1, h2, a2, c2, A.here, C.here, a1, c1⟩
theorem sq_get (q : Sq r c a w) (hl : L.length = r.cells.length) (x y z u : Int) : (four L a w x y z u).getD a 0 = x ∧ (four L a w x y z u).getD (a + 1) 0 = y ∧ (four L a w x y z u).getD (a + w) 0 = z ∧ (four L a w x y z u).getD (a + w + 1) 0 = u := by
  have h2 := q.w2; have hlt := q.lt
  refine ⟨?_, ?_, ?_, ?_⟩ <;> rw [four_get h2 (by omega)]
  · rw [if_neg (by omega), if_neg (by omega), if_neg (by omega), if_pos rfl]
  · rw [if_neg (by omega), if_neg (by omega), if_pos rfl]
  · rw [if_neg (by omega), if_pos rfl]
  · rw [if_pos rfl]
theorem flipL_flat (q : Sq r c a w) (hf : flatC r L c = true) : flipL r L c = four L a w 2 2 4 4 := by
  unfold flipL; rw [if_pos hf, q.ba, q.bw, Int.toNat_natCast, Int.toNat_natCast]
theorem flipL_upr (q : Sq r c a w) (h : flatC r L c = false) (hf : uprC r L c = true) : flipL r L c = four L a w 1 3 1 3 := by
  unfold flipL; rw [h, if_neg (by decide), if_pos hf, q.ba, q.bw, Int.toNat_natCast, Int.toNat_natCast]
theorem flipL_no (h : canFl r L c = false) : flipL r L c = L := by
  unfold canFl at h; rw [Bool.or_eq_false_iff] at h
  unfold flipL; rw [h.1, h.2]; rfl
/-- The flipped list lays dominoes. -/
theorem flip_ok (h : laidOk r L = true) : laidOk r (flipL r L c) = true := by
  obtain ⟨hv, hlen, _⟩ := laidOk_iff.1 h
  cases hf : flatC r L c
  · cases hu : uprC r L c
    · rw [flipL_no (by unfold canFl; rw [hf, hu]; rfl)]; exact h
    · obtain ⟨a, w, q⟩ := sq_of hv (uprC_ar hu)
      have S := sq_upr h q hu
      have G := sq_get q hlen 1 3 1 3
      rw [flipL_upr q hf hu]
      refine swap_ok h (four_len ..) (fun m => m = a ∨ m = a + 1 ∨ m = a + w ∨ m = a + w + 1) (fun k hk => ?_) (fun m hm => ?_) fun m hm => ?_
      · rw [four_get q.w2 (by have := q.lt; omega), if_neg (by omega), if_neg (by omega), if_neg (by omega), if_neg (by omega)]
      · rcases hm with rfl | rfl | rfl | rfl
        · exact ⟨m + w, by simp, by rw [S.ga, q.u2]⟩
        · exact ⟨a + w + 1, by simp, by rw [S.gb, q.x2]⟩
        · exact ⟨a, by simp, by rw [S.gc, q.u4]⟩
        · exact ⟨a + 1, by simp, by rw [S.gd, q.x4]⟩
      · rcases hm with rfl | rfl | rfl | rfl
        · exact ⟨S.fa, m + 1, by simp, by rw [G.1, q.s1], by rw [G.1, G.2.1]; rfl⟩
        · exact ⟨S.fb, a, by simp, by rw [G.2.1, q.s3], by rw [G.1, G.2.1]; rfl⟩
        · exact ⟨S.fc, a + w + 1, by simp, by rw [G.2.2.1, q.t1], by rw [G.2.2.1, G.2.2.2]; rfl⟩
        · exact ⟨S.fd, a + w, by simp, by rw [G.2.2.2, q.t3], by rw [G.2.2.1, G.2.2.2]; rfl⟩
  · obtain ⟨a, w, q⟩ := sq_of hv (flatC_ar hf)
    have S := sq_flat h q hf
    have G := sq_get q hlen 2 2 4 4
    rw [flipL_flat q hf]
    refine swap_ok h (four_len ..) (fun m => m = a ∨ m = a + 1 ∨ m = a + w ∨ m = a + w + 1) (fun k hk => ?_) (fun m hm => ?_) fun m hm => ?_
    · rw [four_get q.w2 (by have := q.lt; omega), if_neg (by omega), if_neg (by omega), if_neg (by omega), if_neg (by omega)]
    · rcases hm with rfl | rfl | rfl | rfl
      · exact ⟨m + 1, by simp, by rw [S.ga, q.s1]⟩
      · exact ⟨a, by simp, by rw [S.gb, q.s3]⟩
      · exact ⟨a + w + 1, by simp, by rw [S.gc, q.t1]⟩
      · exact ⟨a + w, by simp, by rw [S.gd, q.t3]⟩
    · rcases hm with rfl | rfl | rfl | rfl
      · exact ⟨S.fa, m + w, by simp, by rw [G.1, q.u2], by rw [G.1, G.2.2.1]; rfl⟩
      · exact ⟨S.fb, a + w + 1, by simp, by rw [G.2.1, q.x2], by rw [G.2.1, G.2.2.2]; rfl⟩
      · exact ⟨S.fc, a, by simp, by rw [G.2.2.1, q.u4], by rw [G.1, G.2.2.1]; rfl⟩
      · exact ⟨S.fd, a + 1, by simp, by rw [G.2.2.2, q.x4], by rw [G.2.1, G.2.2.2]; rfl⟩
/-- A flip leads to one that leads back. -/
theorem flip_may (h : laidOk r L = true) (hc : canFl r L c = true) : canFl r (flipL r L c) c = true := by
  obtain ⟨hv, hlen, _⟩ := laidOk_iff.1 h
  have har := canFl_ar hc
  obtain ⟨a, w, q⟩ := sq_of hv har
  unfold canFl
  rw [Bool.or_eq_true]
  cases hf : flatC r L c
  · have hu : uprC r L c = true := by unfold canFl at hc; rw [hf] at hc; simpa using hc
    have G := sq_get q hlen 1 3 1 3
    left; rw [flipL_upr q hf hu, flatC_eq q har, G.1, G.2.2.1]; rfl
  · have G := sq_get q hlen 2 2 4 4
    right; rw [flipL_flat q hf, uprC_eq q har, G.1, G.2.1]; rfl
/-- What the reference asks: all four cells belong to the region. -/
def sqOk (r : Reg) (c : Int) : Bool := arOk r c && (r.f (arB r c).toNat && (r.f (arB r c + 1).toNat && (r.f (arB r c + r.wide).toNat && r.f (arB r c + r.wide + 1).toNat)))
theorem canFl_sq (h : laidOk r L = true) : (sqOk r c && canFl r L c) = canFl r L c := by
  obtain ⟨hv, hlen, _⟩ := laidOk_iff.1 h
  cases hc : canFl r L c
  · rw [Bool.and_false]
  · have har := canFl_ar hc
    obtain ⟨a, w, q⟩ := sq_of hv har
    have hx : r.f a = true ∧ r.f (a + 1) = true ∧ r.f (a + w) = true ∧ r.f (a + w + 1) = true := by
      unfold canFl at hc
      rw [Bool.or_eq_true] at hc
      rcases hc with hc | hc
      · have S := sq_flat h q hc; exact ⟨S.fa, S.fb, S.fc, S.fd⟩
      · have S := sq_upr h q hc; exact ⟨S.fa, S.fb, S.fc, S.fd⟩
    unfold sqOk
    rw [har, q.ba, q.bw, show ((a : Int)).toNat = a from rfl, show ((a : Int) + 1).toNat = a + 1 from rfl, show ((a : Int) + (w : Int)).toNat = a + w from rfl, show ((a : Int) + (w : Int) + 1).toNat = a + w + 1 from rfl, hx.1, hx.2.1, hx.2.2.1, hx.2.2.2]; rfl
end
end Domi

/- What a row's reading of a region, of lists and of numbers gives to a walk. No program is named here. -/
set_option linter.unusedVariables false
namespace Domi
open Go Go.RowKit

theorem bools_sl {w : World} {a : Addr} {len cap : Nat} {B : Nat → Bool} (hl : len ≤ cap) (hm : cap ≤ maxLen) (hc : ∀ i, i < cap → w.cell? (a.add i) = some (.bool (B i))) :
    ∃ l : List Bool, l.length = len ∧ Bl w (.slice (some a) len cap) l := by
  refine ⟨(List.range len).map B, by simp, ?_⟩
  refine ⟨some a, cap, by simp, by simp; omega, by unfold maxLen at hm; omega, ?_⟩
  by_cases h0 : len = 0
  · subst h0; left; simp
  · right
    obtain ⟨b, off, spot⟩ := a
    have h1 := hc 0 (by omega)
    have hspot : spot = none := by simpa [Addr.add] using World.cell?_spot h1
    subst hspot
    refine ⟨b, off, rfl, World.block_lt_of_cell? w ⟨b, off, none⟩ (by simpa [Addr.add] using h1), fun i hi => ?_⟩
    have hi' : i < len := by simpa using hi
    have := hc i (by omega)
    rw [show w.cell? ⟨b, off + i, none⟩ = w.cell? (Addr.add ⟨b, off, none⟩ i) by unfold Addr.add; split <;> simp_all, this]
    simp
theorem i64_wf {n : Int} (h : (Lit.int .i64 n).wf = true) : -9223372036854775808 ≤ n ∧ n ≤ 9223372036854775807 := by
  simp [Lit.wf, IntKind.min, IntKind.max, IntKind.bits, IntKind.signed] at h
  omega
theorem isRow_i64 {w : World} {a : Option Addr} {len cap : Nat} {zs : List Int} (h : IsRow .i64 w a len cap zs) :
    Il w (.slice a len cap) (zs.take len) ∧ ∀ i, i < (zs.take len).length → -9223372036854775808 ≤ (zs.take len).getD i 0 ∧ (zs.take len).getD i 0 ≤ 9223372036854775807 := by
  refine ⟨isRow_sl h, fun i hi => ?_⟩
  rcases h with ⟨rfl, rfl, rfl, rfl⟩ | ⟨x, rfl, hl, hm, hz, hc, hw⟩
  · simp at hi
  · have hi' : i < zs.length := by simp at hi; omega
    have hl' : i < len := by simp at hi; omega
    have := hw zs[i] (List.getElem_mem hi')
    have e : (zs.take len).getD i 0 = zs[i] := by simp [List.getD_eq_getElem?_getD, hl', hi']
    rw [e]
    exact i64_wf this

end Domi

/- Forced cells: plain. -/
set_option linter.unusedVariables false
namespace Domi
open Go Go.RowKit

/-- Do all tilings have the direction at cell k? -/
def frcB (r : Reg) (k : Nat) (way : Int) : Bool := decide (0 < manyT r) && (r.f k && decide (withT r k way = manyT r))
def frcK (r : Reg) (k : Nat) : Nat → List Int
  | 0 => []
  | m + 1 => frcK r k m ++ if frcB r k ((m : Int) + 1) then [(k : Int)] else []
def frcL (r : Reg) : Nat → List Int
  | 0 => []
  | n + 1 => frcL r n ++ frcK r n 4
def forced (r : Reg) : List Int := frcL r r.cells.length
theorem frcK_len (r : Reg) (k m : Nat) : (frcK r k m).length ≤ m := by
  induction m with
  | zero => exact Nat.le_refl _
  | succ m ih => unfold frcK; rw [List.length_append]; split <;> simp <;> omega
theorem frcL_len (r : Reg) (n : Nat) : (frcL r n).length ≤ 4 * n := by
  induction n with
  | zero => exact Nat.le_refl _
  | succ n ih => unfold frcL; rw [List.length_append]; have := frcK_len r n 4; omega
theorem frc_step_yes {r : Reg} {k m : Nat} (h : frcB r k ((m : Int) + 1) = true) : frcK r k (m + 1) = frcK r k m ++ [(k : Int)] := by
  show frcK r k m ++ _ = _; rw [if_pos h]
theorem frc_step_no {r : Reg} {k m : Nat} (h : frcB r k ((m : Int) + 1) = false) : frcK r k (m + 1) = frcK r k m := by
  show frcK r k m ++ _ = _; rw [h]; simp
theorem frcK_out {r : Reg} {k : Nat} (h : r.f k = false) (m : Nat) : frcK r k m = [] := by
  induction m with
  | zero => rfl
  | succ m ih => rw [frc_step_no (by unfold frcB; rw [h, Bool.false_and, Bool.and_false]), ih]
theorem frcK_none {r : Reg} (h : ¬ 0 < manyT r) (k m : Nat) : frcK r k m = [] := by
  induction m with
  | zero => rfl
  | succ m ih => rw [frc_step_no (by unfold frcB; rw [decide_eq_false h]; rfl), ih]
theorem frcL_none {r : Reg} (h : ¬ 0 < manyT r) (n : Nat) : frcL r n = [] := by
  induction n with
  | zero => rfl
  | succ n ih => show frcL r n ++ frcK r n 4 = _; rw [ih, frcK_none h]; rfl
theorem forced_no {r : Reg} (h : ¬ 0 < manyT r) : forced r = [] := frcL_none h _
theorem frcB_is {r : Reg} {k : Nat} {way : Int} (hf : r.f k = true) (hm : 0 < manyT r) : frcB r k way = decide (withT r k way = manyT r) := by unfold frcB; rw [hf, decide_eq_true hm]; rfl
/-- Is the direction at cell k the same in all tilings? -/
def sameB (r : Reg) (k : Nat) : Bool := r.f k && (tilsR r).all fun T => decide (T.getD k 0 = ((tilsR r).getD 0 []).getD k 0)
theorem with_all {r : Reg} (hv : r.valid = true) {k : Nat} {way : Int} (hw : 1 ≤ way ∧ way ≤ 4) : withT r k way = manyT r ↔ ∀ T ∈ tilsR r, T.getD k 0 = way := by
  rw [with_filter hv hw, manyT_yes hv]
  constructor
  · intro h T hT
    have h2 := List.length_filter_eq_length_iff.1 (Int.ofNat.inj h) T hT
    simpa using h2
  · intro h
    congr 1
    exact List.length_filter_eq_length_iff.2 fun T hT => by simpa using h T hT
theorem frcK_four {r : Reg} (hv : r.valid = true) (hm : 0 < manyT r) (k : Nat) : frcK r k 4 = if sameB r k then [(k : Int)] else [] := by
  cases hf : r.f k
  · rw [frcK_out hf, show sameB r k = false by unfold sameB; rw [hf]; rfl]; rfl
  · have hlen : 0 < (tilsR r).length := by rw [manyT_yes hv] at hm; omega
    obtain ⟨T0, hT0⟩ : ∃ T, (tilsR r).getD 0 [] = T := ⟨_, rfl⟩
    have hin : T0 ∈ tilsR r := by rw [← hT0, ← Domi.get_at _ _ _ hlen]; exact List.getElem_mem hlen
    have hk : ∀ T ∈ tilsR r, 1 ≤ T.getD k 0 ∧ T.getD k 0 ≤ 4 := fun T hT => by
      obtain ⟨h1, h2⟩ := tilingOk_iff.1 (mem_tilsR'.1 hT)
      have hkc : k < r.cells.length := by
        rcases Nat.lt_or_ge k r.cells.length with h | h
        · exact h
        · rw [f_far h] at hf; cases hf
      have h3 := h2 k hkc hf
      have h4 := laidOk_bd h1 k
      omega
    have hB : ∀ way : Int, 1 ≤ way ∧ way ≤ 4 → frcB r k way = decide (∀ T ∈ tilsR r, T.getD k 0 = way) := fun way hw => by
      rw [frcB_is hf hm]
      exact decide_eq_decide.2 (with_all hv hw)
    cases hs : sameB r k
    · rw [if_neg (by decide)]
      have hno : ∀ way : Int, 1 ≤ way ∧ way ≤ 4 → frcB r k way = false := fun way hw => by
        rw [hB way hw]
        refine decide_eq_false fun h => ?_
        have : sameB r k = true := by
          unfold sameB; rw [hf, Bool.true_and, List.all_eq_true]
          intro T hT
          rw [hT0, h T hT, h T0 hin]; simp
        rw [hs] at this; cases this
      rw [frc_step_no (hno _ (by omega)), frc_step_no (hno _ (by omega)), frc_step_no (hno _ (by omega)), frc_step_no (hno _ (by omega))]; rfl
    · rw [if_pos rfl]
      unfold sameB at hs
      rw [hf, Bool.true_and, List.all_eq_true, hT0] at hs
      have hB2 : ∀ way : Int, 1 ≤ way ∧ way ≤ 4 → frcB r k way = decide (T0.getD k 0 = way) := fun way hw => by
        rw [hB way hw]
        refine decide_eq_decide.2 ⟨fun h => h T0 hin, fun h T hT => ?_⟩
        have := hs T hT
        rw [decide_eq_true_eq] at this
        rw [this, h]
      have hw := hk T0 hin
      have h4 : T0.getD k 0 = 1 ∨ T0.getD k 0 = 2 ∨ T0.getD k 0 = 3 ∨ T0.getD k 0 = 4 := by omega
      have e1 := hB2 1 (by omega)
      have e2 := hB2 2 (by omega)
      have e3 := hB2 3 (by omega)
      have e4 := hB2 4 (by omega)
      show ((([] ++ if frcB r k (((0 : Nat) : Int) + 1) then [(k : Int)] else []) ++ if frcB r k (((1 : Nat) : Int) + 1) then [(k : Int)] else []) ++ if frcB r k (((2 : Nat) : Int) + 1) then [(k : Int)] else []) ++ (if frcB r k (((3 : Nat) : Int) + 1) then [(k : Int)] else []) = _
      rw [show (((0 : Nat) : Int) + 1) = 1 from rfl, show (((1 : Nat) : Int) + 1) = 2 from rfl, show (((2 : Nat) : Int) + 1) = 3 from rfl, show (((3 : Nat) : Int) + 1) = 4 from rfl, e1, e2, e3, e4]
      rcases h4 with e | e | e | e <;> rw [e] <;> rfl
theorem frcL_is {r : Reg} (hv : r.valid = true) (hm : 0 < manyT r) (n : Nat) : frcL r n = ((List.range n).filter (sameB r)).map Int.ofNat := by
  induction n with
  | zero => rfl
  | succ n ih =>
    show frcL r n ++ frcK r n 4 = _
    rw [ih, frcK_four hv hm, List.range_succ, List.filter_append, List.map_append]
    cases h : sameB r n <;> simp [h]
theorem valid_of_many {r : Reg} (hm : 0 < manyT r) : r.valid = true := by
  cases h : r.valid
  · rw [manyT_no h] at hm; omega
  · rfl
theorem mem_forced {r : Reg} (hm : 0 < manyT r) {k : Nat} (hk : k < r.cells.length) : decide ((k : Int) ∈ forced r) = sameB r k := by
  unfold forced
  rw [frcL_is (valid_of_many hm) hm]
  cases h : sameB r k
  · refine decide_eq_false fun hc => ?_
    obtain ⟨j, hj, e⟩ := List.mem_map.1 hc
    have : j = k := Int.ofNat.inj e
    subst this
    rw [(List.mem_filter.1 hj).2] at h; cases h
  · exact decide_eq_true (List.mem_map.2 ⟨k, List.mem_filter.2 ⟨List.mem_range.2 hk, h⟩, rfl⟩)
/-- An ascending list. -/
def Asc (l : List Int) : Prop := ∀ i, 0 < i → i < l.length → l.getD (i - 1) 0 < l.getD i 0
theorem asc_of {l : List Int} (h : l.Pairwise (· < ·)) : Asc l := fun i h1 h2 => by
  have := List.pairwise_iff_getElem.1 h (i - 1) i (by omega) h2 (by omega)
  simpa [List.getD_eq_getElem?_getD, h2, show i - 1 < l.length by omega] using this
theorem asc_range (n : Nat) (p : Nat → Bool) : Asc (((List.range n).filter p).map Int.ofNat) := by
  refine asc_of (List.Pairwise.map _ ?_ (List.Pairwise.filter _ List.pairwise_lt_range))
  intro a b h
  exact Int.ofNat_lt.2 h
theorem asc_forced (r : Reg) : Asc (forced r) := by
  by_cases hm : 0 < manyT r
  · unfold forced
    rw [frcL_is (valid_of_many hm) hm]; exact asc_range _ _
  · rw [forced_no hm]; intro i _ h; simp at h
end Domi

/- Ranks of tilings: plain. -/
set_option linter.unusedVariables false
namespace Domi
open Go Go.RowKit

/-- The place of a list among lists. -/
def idxN (l : List (List Int)) (T : List Int) : Nat := l.findIdx fun X => decide (X = T)
theorem idxN_lt {l : List (List Int)} {T : List Int} (h : T ∈ l) : idxN l T < l.length := List.findIdx_lt_length_of_exists ⟨T, h, by simp⟩
theorem idxN_get {l : List (List Int)} {T : List Int} (h : T ∈ l) : l.getD (idxN l T) [] = T := by
  have h1 := idxN_lt h
  have h2 := List.findIdx_getElem (xs := l) (p := fun X => decide (X = T)) (w := h1)
  rw [← Domi.get_at _ _ _ h1]
  exact of_decide_eq_true h2
theorem idxN_le (l : List (List Int)) (T : List Int) : idxN l T ≤ l.length := List.findIdx_le_length
theorem idxN_left {a b : List (List Int)} {T : List Int} (h : T ∈ a) : idxN (a ++ b) T = idxN a T := by
  have := idxN_lt h
  unfold idxN at this ⊢
  rw [List.findIdx_append, if_pos this]
theorem idxN_out {a : List (List Int)} {T : List Int} (h : T ∉ a) : idxN a T = a.length := by
  unfold idxN
  rw [List.findIdx_eq_length]
  intro X hX
  exact decide_eq_false fun e => h (e ▸ hX)
theorem idxN_right {a b : List (List Int)} {T : List Int} (h : T ∉ a) : idxN (a ++ b) T = a.length + idxN b T := by
  have := idxN_out h
  unfold idxN at this ⊢
  rw [List.findIdx_append, if_neg (by omega), Nat.add_comm]
theorem idxN_at {l : List (List Int)} (hn : l.Nodup) {k : Nat} (hk : k < l.length) : idxN l (l.getD k []) = k := by
  have hm : l.getD k [] ∈ l := by rw [← Domi.get_at _ _ _ hk]; exact List.getElem_mem hk
  have h1 := idxN_lt hm
  have h2 := idxN_get hm
  generalize hi : idxN l (l.getD k []) = i at h1 h2
  rw [← Domi.get_at _ _ _ h1, ← Domi.get_at _ _ _ hk] at h2
  have hp := List.pairwise_iff_getElem.1 hn
  rcases Nat.lt_trichotomy i k with h | h | h
  · exact absurd h2 (hp i k h1 hk h)
  · exact h
  · exact absurd h2.symm (hp k i hk h1 h)
def rankR (r : Reg) (L : List Int) : Int := if tilingOk r L then (idxN (tilsR r) L : Nat) else -1
theorem rankR_no {r : Reg} {L : List Int} (h : tilingOk r L = false) : rankR r L = -1 := by unfold rankR; rw [h]; rfl
theorem rankR_yes {r : Reg} {L : List Int} (h : tilingOk r L = true) : rankR r L = (idxN (tilsR r) L : Nat) := by unfold rankR; rw [if_pos h]
def tilOf (r : Reg) (rank : Int) : List Int × Bool := if r.valid && inB rank 0 (((tilsR r).length : Int) - 1) then ((tilsR r).getD rank.toNat [], true) else ([], false)
theorem tilOf_no1 {r : Reg} {rank : Int} (h : r.valid = false) : tilOf r rank = ([], false) := by unfold tilOf; rw [h]; rfl
theorem tilOf_no2 {r : Reg} {rank : Int} (h : inB rank 0 (((tilsR r).length : Int) - 1) = false) : tilOf r rank = ([], false) := by unfold tilOf; rw [h, Bool.and_false]; rfl
theorem tilOf_yes {r : Reg} {rank : Int} (hv : r.valid = true) (h : inB rank 0 (((tilsR r).length : Int) - 1) = true) : tilOf r rank = ((tilsR r).getD rank.toNat [], true) := by unfold tilOf; rw [hv, h]; rfl

/-- How many tilings go on with a domino to the east. -/
def eastM (r : Reg) (L : List Int) (k : Nat) : Nat := if free r L k 1 then withL r (layL r L k 1) else 0
section
variable {r : Reg} {L T : List Int} {n k : Nat}
theorem rank_done (hf : firstN r L = none) (hL : laidOk r L = true) (hT : tilingOk r T = true) (he : Ext L T) : idxN (tils (n + 1) r L) T = 0 := by
  have ho : openN r L < openN r L + 1 := by omega
  have hm := (mem_tils r _ L T hL ho).2 ⟨hT, he⟩
  rw [tils_done hf, List.mem_singleton] at hm
  subst hm
  rw [tils_done hf]
  unfold idxN
  simp
theorem first_free (hf : firstN r L = some k) (hL : laidOk r L = true) (hT : tilingOk r T = true) (he : Ext L T) : free r L k (T.getD k 0) = true ∧ Ext (layL r L k (T.getD k 0)) T := by
  obtain ⟨hkL, ho, hno⟩ := firstN_is hf
  obtain ⟨hfk, hk0⟩ := openB_iff.1 ho
  have hw := first_way hL hT he hf
  exact ext_free hL (tilingOk_iff.1 hT).1 he (by omega) hk0
theorem rank_east (hf : firstN r L = some k) (hL : laidOk r L = true) (hn : openN r L < n + 1) (hT : tilingOk r T = true) (he : Ext L T) (h1 : T.getD k 0 = 1) :
    idxN (tils (n + 1) r L) T = idxN (tils n r (layL r L k 1)) T := by
  obtain ⟨a, b⟩ := first_free hf hL hT he
  rw [h1] at a b
  have := openN_lay hL a
  rw [tils_some hf, if_pos a]
  exact idxN_left ((mem_tils r n _ T (lay_ok hL a) (by omega)).2 ⟨hT, b⟩)
theorem east_len (hL : laidOk r L = true) (hn : openN r L < n + 1) : (if free r L k 1 then tils n r (layL r L k 1) else []).length = eastM r L k := by
  unfold eastM
  cases h : free r L k 1
  · rfl
  · have := openN_lay hL h
    rw [if_pos rfl, if_pos rfl, withL_is (lay_ok hL h) (m := n) (by omega)]
theorem rank_north (hf : firstN r L = some k) (hL : laidOk r L = true) (hn : openN r L < n + 1) (hT : tilingOk r T = true) (he : Ext L T) (h1 : T.getD k 0 = 2) :
    idxN (tils (n + 1) r L) T = eastM r L k + idxN (tils n r (layL r L k 2)) T := by
  obtain ⟨a, b⟩ := first_free hf hL hT he
  rw [h1] at a b
  rw [tils_some hf, if_pos a, idxN_right, east_len hL hn]
  intro hm
  cases h : free r L k 1
  · rw [h] at hm; simp at hm
  · rw [h, if_pos rfl] at hm
    have ho := openN_lay hL h
    have hx := ((mem_tils r n _ T (lay_ok hL h) (by omega)).1 hm).2
    have e := (ext_lay hL h).2
    have := hx k (by rw [e]; omega)
    rw [e, h1] at this; omega
theorem getD_app_left {a b : List (List Int)} {i : Nat} (h : i < a.length) : (a ++ b).getD i [] = a.getD i [] := by
  simp [List.getD_eq_getElem?_getD, List.getElem?_append_left h]
theorem getD_app_right {a b : List (List Int)} {i : Nat} (h : a.length ≤ i) : (a ++ b).getD i [] = b.getD (i - a.length) [] := by
  simp [List.getD_eq_getElem?_getD, List.getElem?_append_right h]
theorem pick_east (hf : firstN r L = some k) (hL : laidOk r L = true) (hn : openN r L < n + 1) {i : Nat} (hi : i < eastM r L k) :
    free r L k 1 = true ∧ i < (tils n r (layL r L k 1)).length ∧ (tils (n + 1) r L).getD i [] = (tils n r (layL r L k 1)).getD i [] := by
  have hfr : free r L k 1 = true := by
    cases e : free r L k 1
    · unfold eastM at hi; rw [e] at hi; simp at hi
    · rfl
  have hl := east_len (k := k) hL hn
  rw [← hl] at hi
  rw [tils_some hf]
  rw [hfr, if_pos rfl] at hi ⊢
  exact ⟨rfl, hi, getD_app_left hi⟩
theorem pick_north (hf : firstN r L = some k) (hL : laidOk r L = true) (hn : openN r L < n + 1) {i : Nat} (hi : eastM r L k ≤ i) (h2 : i < (tils (n + 1) r L).length) :
    free r L k 2 = true ∧ i - eastM r L k < (tils n r (layL r L k 2)).length ∧ (tils (n + 1) r L).getD i [] = (tils n r (layL r L k 2)).getD (i - eastM r L k) [] := by
  have hl := east_len (k := k) hL hn
  rw [tils_some hf, List.length_append, hl] at h2
  have hfr : free r L k 2 = true := by
    cases e : free r L k 2
    · rw [e] at h2; simp at h2; omega
    · rfl
  rw [hfr, if_pos rfl] at h2
  refine ⟨hfr, by omega, ?_⟩
  rw [tils_some hf, getD_app_right (by rw [hl]; exact hi), hl, hfr, if_pos rfl]
theorem pick_done (hf : firstN r L = none) {i : Nat} (h : i < (tils (n + 1) r L).length) : i = 0 ∧ (tils (n + 1) r L).getD i [] = L := by
  rw [tils_done hf] at h ⊢
  have : i = 0 := by simpa using h
  subst this
  exact ⟨rfl, rfl⟩
/-- The next open cell comes later. -/
theorem first_later (hL : laidOk r L = true) (hf : firstN r L = some k) {way : Int} (hfr : free r L k way = true) {j : Nat} (h2 : firstN r (layL r L k way) = some j) : k < j := by
  obtain ⟨_, _, hno⟩ := firstN_is hf
  obtain ⟨_, ho, _⟩ := firstN_is h2
  obtain ⟨hfj, hj0⟩ := openB_iff.1 ho
  have hx := ext_lay hL hfr
  rcases Nat.lt_trichotomy j k with h | h | h
  · have h3 := hno j h
    have : openB r L j = true := openB_iff.2 ⟨hfj, by
      by_cases e : L.getD j 0 = 0
      · exact e
      · rw [hx.1 j e] at hj0; exact hj0⟩
    rw [h3] at this; cases this
  · subst h
    rw [hx.2] at hj0
    obtain ⟨t, F⟩ := free_at hL hfr
    have := F.hway
    omega
  · exact h
end
theorem firstI_none {r : Reg} {L : List Int} (h : firstN r L = none) : firstI r L = -1 := by unfold firstI; rw [h]
theorem firstI_some {r : Reg} {L : List Int} {k : Nat} (h : firstN r L = some k) : firstI r L = (k : Nat) := by unfold firstI; rw [h]
/-- How far the first open cell is from the end. -/
def leftI (n : Nat) (c : Int) : Nat := if c < 0 then 0 else n - c.toNat
theorem left_less {r : Reg} {L : List Int} {k : Nat} {way : Int} (hL : laidOk r L = true) (hf : firstN r L = some k) (hfr : free r L k way = true) : leftI L.length (firstI r (layL r L k way)) < leftI L.length (k : Int) := by
  obtain ⟨hk, _, _⟩ := firstN_is hf
  have h0 : leftI L.length (k : Int) = L.length - k := by unfold leftI; rw [if_neg (by omega)]; rfl
  rw [h0]
  cases h : firstN r (layL r L k way) with
  | none => rw [firstI_none h]; unfold leftI; rw [if_pos (by omega)]; omega
  | some j =>
    have := first_later hL hf hfr h
    rw [firstI_some h]; unfold leftI; rw [if_neg (by omega)]
    simp only [Int.toNat_natCast]; omega
end Domi

/- Faults: plain. -/
set_option linter.unusedVariables false
namespace Domi
open Go Go.RowKit

/-- Does no domino lie across the line in the west of column x? -/
def faultB (w t : Nat) (L : List Int) (x : Nat) : Bool := decide (acrossN w L x t = 0)
def faultsK (w t : Nat) (L : List Int) (n : Nat) : List Int := ((List.range n).filter fun x => decide (1 ≤ x) && faultB w t L x).map Int.ofNat
def faultsOf (r : Reg) (L : List Int) : List Int := if laidOk r L then faultsK r.wide.toNat r.tall.toNat L r.wide.toNat else []
theorem faultsOf_no {r : Reg} {L : List Int} (h : laidOk r L = false) : faultsOf r L = [] := by unfold faultsOf; rw [h]; rfl
theorem faultsOf_yes {r : Reg} {L : List Int} {w t : Nat} (h : laidOk r L = true) (hw : r.wide = w) (ht : r.tall = t) : faultsOf r L = faultsK w t L w := by unfold faultsOf; rw [if_pos h, hw, ht]; rfl
theorem faultsK_one (w t : Nat) (L : List Int) : faultsK w t L 1 = [] := by unfold faultsK; simp [List.range_succ]
theorem faultsK_yes {w t : Nat} {L : List Int} {k : Nat} (h1 : 1 ≤ k) (h : faultB w t L k = true) : faultsK w t L (k + 1) = faultsK w t L k ++ [(k : Int)] := by
  unfold faultsK; rw [List.range_succ, List.filter_append, List.map_append]; simp [h, h1]
theorem faultsK_no {w t : Nat} {L : List Int} {k : Nat} (h : faultB w t L k = false) : faultsK w t L (k + 1) = faultsK w t L k := by
  unfold faultsK; rw [List.range_succ, List.filter_append, List.map_append]; simp [h]
theorem faultsK_len (w t : Nat) (L : List Int) (k : Nat) : (faultsK w t L k).length ≤ k := by
  unfold faultsK; rw [List.length_map]; exact Nat.le_trans (List.length_filter_le _ _) (by simp)
theorem faults_asc (r : Reg) (L : List Int) : Asc (faultsOf r L) := by
  unfold faultsOf; split
  · exact asc_range _ _
  · intro i _ h; simp at h
theorem faults_at {r : Reg} {L : List Int} {w t : Nat} (h : laidOk r L = true) (hw : r.wide = w) (ht : r.tall = t) {k : Nat} (hk : k < (faultsOf r L).length) : ∃ x : Nat, (faultsOf r L).getD k 0 = x ∧ 1 ≤ x ∧ x < w ∧ faultB w t L x = true := by
  have hm : (faultsOf r L).getD k 0 ∈ faultsOf r L := by rw [← Domi.get_at _ _ _ hk]; exact List.getElem_mem hk
  generalize (faultsOf r L).getD k 0 = y at hm ⊢
  rw [faultsOf_yes h hw ht] at hm
  obtain ⟨x, hx, e⟩ := List.mem_map.1 hm
  obtain ⟨h1, h2⟩ := List.mem_filter.1 hx
  rw [Bool.and_eq_true, decide_eq_true_eq] at h2
  exact ⟨x, e.symm, h2.1, List.mem_range.1 h1, h2.2⟩
theorem fault_iff {w t : Nat} {L : List Int} {x : Nat} : faultB w t L x = true ↔ ∀ y, y < t → L.getD (y * w + x - 1) 0 ≠ 1 := by
  unfold faultB
  rw [decide_eq_true_eq, acrossN_eq (Nat.two_pow_pos t)]
  refine forall_congr' fun y => forall_congr' fun hy => ?_
  rw [Nat.zero_testBit]
  simp
/-- A domino across the line, seen from both sides. -/
theorem line_two {r : Reg} {L : List Int} {w t : Nat} (F : Fld r w t) (h : laidOk r L = true) {x y : Nat} (hx : 1 ≤ x ∧ x < w) (hy : y < t) : L.getD (y * w + x - 1) 0 = 1 ↔ L.getD (y * w + x) 0 = 3 := by
  obtain ⟨j, hj⟩ : ∃ j, y * w + x - 1 = j := ⟨_, rfl⟩
  have ej : y * w + x = j + 1 := by omega
  rw [hj, ej]
  have hxy := xyN (w := w) (x := x - 1) (y := y) (by omega)
  rw [show y * w + (x - 1) = j by omega] at hxy
  have hxy2 := xyN (w := w) (x := x) (y := y) hx.2
  rw [ej] at hxy2
  have hlt : y * w + x < w * t := by
    have h1 : y * w + w ≤ t * w := by rw [← Nat.succ_mul]; exact Nat.mul_le_mul_right w hy
    rw [Nat.mul_comm t w] at h1; omega
  have hlen := (laidOk_iff.1 h).2.1
  rw [F.len] at hlen
  constructor
  · intro e
    have A := laidOk_at h (k := j) (by omega) (by rw [e]; decide)
    have hb := A.back
    rw [e, F.east (by omega), Int.toNat_natCast] at hb
    exact hb
  · intro e
    have A := laidOk_at h (k := j + 1) (by omega) (by rw [e]; decide)
    have hb := A.back
    rw [e, F.west (by omega), Int.toNat_natCast] at hb
    exact hb
theorem fault_west {r : Reg} {L : List Int} {w t : Nat} (F : Fld r w t) (h : laidOk r L = true) {x : Nat} (hx : 1 ≤ x ∧ x < w) : faultB w t L x = true ↔ ∀ y, y < t → L.getD (y * w + x) 0 ≠ 3 := by
  rw [fault_iff]
  exact forall_congr' fun y => forall_congr' fun hy => not_congr (line_two F h hx hy)
/-- The colours of the west of a column. -/
def wsh (r : Reg) (c : Int) (j : Nat) : Int := if r.f j && decide ((j : Int) % r.wide < c) then (if darkB r.wide j then 1 else -1) else 0
theorem wsh_zero {r : Reg} {T : List Int} {w t : Nat} (F : Fld r w t) (h : tilingOk r T = true) {x : Nat} (hx : 1 ≤ x ∧ x < w) (hf : faultB w t T x = true) : sumI (wsh r x) r.cells.length = 0 := by
  have hl := (tilingOk_iff.1 h).1
  have hlen := (laidOk_iff.1 hl).2.1
  have hb := fault_bal h (c := (x : Int)) fun k hk hm => by
    rw [F.mod] at hm
    have h1 := fault_iff.1 hf (k / w) (by
      rw [hlen, F.len] at hk
      exact Nat.div_lt_of_lt_mul hk)
    have h2 := xyN_at (w := w) (k := k) rfl
    rw [show k / w * w + x - 1 = k by omega] at h1
    exact h1
  have e : sumI (wsh r x) r.cells.length = sumI (fun j => (if r.f j && decide ((j : Int) % r.wide < x) && darkB r.wide j then 1 else 0) + (-1) * (if r.f j && decide ((j : Int) % r.wide < x) && !darkB r.wide j then 1 else 0)) r.cells.length := by
    refine sumI_congr fun j _ => ?_
    unfold wsh
    cases r.f j <;> cases decide ((j : Int) % r.wide < (x : Int)) <;> cases darkB r.wide j <;> rfl
  rw [e, sumI_add, sumI_mul, sumI_num, sumI_num]
  have c1 : (num r.cells.length fun j => (r.f j && decide ((j : Int) % r.wide < (x : Int)) && darkB r.wide j) = true) = num r.cells.length (fun k => (r.f k = true ∧ (k : Int) % r.wide < (x : Int)) ∧ darkB r.wide k = true) := num_congr fun k _ => by simp
  have c2 : (num r.cells.length fun j => (r.f j && decide ((j : Int) % r.wide < (x : Int)) && !darkB r.wide j) = true) = num r.cells.length (fun k => (r.f k = true ∧ (k : Int) % r.wide < (x : Int)) ∧ darkB r.wide k = false) := num_congr fun k _ => by simp
  rw [c1, c2, hb]
  omega
end Domi

/- Simple regions, the search and the queue over places beside each other: plain. -/
set_option linter.unusedVariables false
namespace Domi
open Go Go.RowKit

/-- Two free places of the wider field, the one beside the other. -/
def F4 (r : Reg) (a b : Nat) : Prop := r.fr a = true ∧ r.fr b = true ∧ A4 ((b : Int) % (r.wide + 2) - (a : Int) % (r.wide + 2)) ((b : Int) / (r.wide + 2) - (a : Int) / (r.wide + 2))
/-- How many parts the free places have. -/
noncomputable def Reg.outs (r : Reg) : Nat := rootsN (F4 r) r.fr r.n2
noncomputable def Reg.simB (r : Reg) : Bool := r.valid && (decide (r.outs = 1) && decide (r.pmany = 1))
section
variable {r : Reg} {x y : Int} {k c : Nat}
theorem F4.symm {a b : Nat} (h : F4 r a b) : F4 r b a := ⟨h.2.1, h.1, by have := h.2.2; unfold A4 at *; omega⟩
theorem F4.near {a b : Nat} (h : F4 r a b) : E8 r a b := ⟨h.1, h.2.1, by have := h.2.2; unfold A4 at this; omega⟩
theorem F4_plc (h1 : 1 ≤ r.wide) (h2 : 1 ≤ r.tall) (hc : plc r x y c) (hf : r.fr c = true) (hk : r.fr k = true) :
    (((plc r (x + 1) y k ∨ plc r (x - 1) y k) ∨ plc r x (y + 1) k) ∨ plc r x (y - 1) k) ↔ F4 r c k := by
  obtain ⟨a1, a2, a3⟩ := hc.inv h1 h2
  unfold F4 A4
  rw [a2, a3]
  constructor
  · rintro (((h | h) | h) | h)
    all_goals
      obtain ⟨_, b2, b3⟩ := h.inv h1 h2
      rw [b2, b3]
      exact ⟨hf, hk, by omega⟩
  · rintro ⟨_, _, e⟩
    have hp := plc_at h1 h2 (fr_lt hk)
    have goal : ∀ dx dy : Int, (k : Int) % (r.wide + 2) = x + dx → (k : Int) / (r.wide + 2) = y + dy → plc r (x + dx) (y + dy) k := fun dx dy e1 e2 => by rw [← e1, ← e2]; exact hp
    rcases e with e | e | e | e
    · have := goal 1 0 (by omega) (by omega); rw [Int.add_zero] at this; exact .inl (.inl (.inl this))
    · have := goal 0 1 (by omega) (by omega); rw [Int.add_zero] at this; exact .inl (.inr this)
    · have := goal (-1) 0 (by omega) (by omega); rw [Int.add_zero] at this; exact .inl (.inl (.inr this))
    · have := goal 0 (-1) (by omega) (by omega); rw [Int.add_zero] at this; exact .inr this
theorem dfs4_all (h1 : 1 ≤ r.wide) (h2 : 1 ≤ r.tall) {M M1 M2 M3 M4 : List Bool} (hl : M.length = r.n2) (hc : plc r x y c) (hf : r.fr c = true)
    (g1 : Dfs (F4 r) r.fr (M.set c true) M1 (plc r (x + 1) y)) (g2 : Dfs (F4 r) r.fr M1 M2 (plc r (x - 1) y)) (g3 : Dfs (F4 r) r.fr M2 M3 (plc r x (y + 1))) (g4 : Dfs (F4 r) r.fr M3 M4 (plc r x (y - 1))) :
    Dfs (F4 r) r.fr M M4 (plc r x y) :=
  (Dfs.visit (E := F4 r) (by rw [hl]; exact fr_lt hf) (fun _ _ e => e.2.1) ((((g1.seq g2).seq g3).seq g4).congr fun _ hk => F4_plc h1 h2 hc hf hk) hf).congr fun k hk => ⟨fun e => by subst e; exact hc, fun e => e.uniq hc⟩
theorem dfs4_out {M : List Bool} (h : ¬ (0 ≤ x ∧ x < r.wide + 2 ∧ 0 ≤ y ∧ y < r.tall + 2)) : Dfs (F4 r) r.fr M M (plc r x y) :=
  .nothing fun _ hk _ => absurd ⟨hk.1, hk.2.1, hk.2.2.1, hk.2.2.2.1⟩ h
theorem dfs4_met {M : List Bool} (hc : plc r x y c) (h : M.getD c false = true) : Dfs (F4 r) r.fr M M (plc r x y) :=
  .nothing fun k hk _ => by rw [hk.uniq hc]; exact h
theorem dfs4_cell {M : List Bool} (h1 : 1 ≤ r.wide) (h2 : 1 ≤ r.tall) (h : r.at_ (x - 1) (y - 1) = true) : Dfs (F4 r) r.fr M M (plc r x y) :=
  .nothing fun k hk hf => by rw [hk.fr h1 h2, h] at hf; cases hf
end

/-! ### how many are met -/
theorem num_grow {n m : Nat} (h : n ≤ m) (Q : Nat → Prop) : num n Q ≤ num m Q := by
  induction h with
  | refl => exact Nat.le_refl _
  | step _ ih => rw [num_succ]; omega
theorem num_bool (M : List Bool) : (num M.length (fun j => M.getD j false = true) : Int) = cnt M := by
  have := num_cnt ⟨0, 0, M⟩
  exact this
theorem zero_plc {r : Reg} (h1 : 1 ≤ r.wide) (h2 : 1 ≤ r.tall) : plc r 0 0 0 := ⟨by omega, by omega, by omega, by omega, by simp⟩
theorem zero_fr {r : Reg} (h1 : 1 ≤ r.wide) (h2 : 1 ≤ r.tall) : r.fr 0 = true := by
  rw [(zero_plc h1 h2).fr h1 h2]
  unfold Reg.at_
  rw [show inB (0 - 1) 0 (r.wide - 1) = false by unfold inB; simp]
  rfl
section
variable {r : Reg}
/-- The free places are as many as all, less the cells. -/
theorem free_num (hv : r.valid = true) : (num r.n2 (fun k => r.fr k = true) : Int) = r.n2 - cnt r.cells := by
  obtain ⟨v1, v2, v3, _⟩ := Reg.valid_iff.1 hv
  have hn := n2_int (r := r) (by omega) (by omega)
  have hno : num r.n2 (fun k => ¬ r.fr k = true) = num r.cells.length (fun k => r.f k = true) := by
    have hl : ∀ E : Nat → Nat → Prop, (∀ a b, ¬ E a b) → ∀ k, least E k = k := fun E hE k => by
      have h1 := least_conn E k
      generalize least E k = m at h1
      cases h1 with
      | refl => rfl
      | step _ e => exact absurd e (hE _ _)
    have key := num_carry (n := r.n2) (m := r.cells.length) (E := fun _ _ => False) (F := fun _ _ => False) (P := fun k => k < r.n2 ∧ ¬ r.fr k = true) (Q := fun k => r.f k = true)
      (f := fun k => ((((k : Int) / (r.wide + 2) - 1) * r.wide + ((k : Int) % (r.wide + 2) - 1)).toNat)) (g := fun k => (((k : Int) / r.wide + 1) * (r.wide + 2) + ((k : Int) % r.wide + 1)).toNat)
      (fun _ _ h => h) (fun _ _ h => h) (fun _ h => h.1) (fun _ h => f_lt h)
      (fun a ha => by
        have hat : r.at_ ((a : Int) % (r.wide + 2) - 1) ((a : Int) / (r.wide + 2) - 1) = true := by
          have h2 := ha.2
          unfold Reg.fr at h2
          rw [decide_eq_true ha.1, Bool.true_and] at h2
          simpa using h2
        unfold Reg.at_ at hat
        simp only [Bool.and_eq_true, inB_iff] at hat
        obtain ⟨⟨hx, hy⟩, hg⟩ := hat
        have hl1 := grid_of (W := r.wide) (T := r.tall) (x := (a : Int) % (r.wide + 2) - 1) (y := (a : Int) / (r.wide + 2) - 1) (by omega) (by omega)
        refine ⟨?_, ?_⟩
        · have hh := at_here hv (k := (((a : Int) / (r.wide + 2) - 1) * r.wide + ((a : Int) % (r.wide + 2) - 1)).toNat) (by omega)
          rw [hl1.2.1, hl1.2.2] at hh
          rw [← hh]
          unfold Reg.at_
          rw [inB_iff.2 (by omega), inB_iff.2 (by omega), hg]; rfl
        · rw [hl1.2.1, hl1.2.2]
          have := grid_xy (W := r.wide + 2) (T := r.tall + 2) (by omega) (k := a) (by have := ha.1; omega)
          rw [show (a : Int) / (r.wide + 2) - 1 + 1 = (a : Int) / (r.wide + 2) by omega, show (a : Int) % (r.wide + 2) - 1 + 1 = (a : Int) % (r.wide + 2) by omega, this.2.2]
          rfl)
      (fun b hb => by
        have hbl := f_lt hb
        have hxy := grid_xy (W := r.wide) (T := r.tall) (by omega) (k := b) (by omega)
        have hl1 := grid_of (W := r.wide + 2) (T := r.tall + 2) (x := (b : Int) % r.wide + 1) (y := (b : Int) / r.wide + 1) (by omega) (by omega)
        refine ⟨⟨by omega, fun hf => ?_⟩, ?_⟩
        · unfold Reg.fr at hf
          rw [hl1.2.1, hl1.2.2, Bool.and_eq_true] at hf
          have h2 := hf.2
          rw [show (b : Int) % r.wide + 1 - 1 = (b : Int) % r.wide by omega, show (b : Int) / r.wide + 1 - 1 = (b : Int) / r.wide by omega, at_here hv hbl, hb] at h2
          cases h2
        · rw [hl1.2.1, hl1.2.2, show (b : Int) % r.wide + 1 - 1 = (b : Int) % r.wide by omega, show (b : Int) / r.wide + 1 - 1 = (b : Int) / r.wide by omega, hxy.2.2]
          rfl)
      (fun _ _ h => h.elim) (fun _ _ h => h.elim)
    have e1 : num r.n2 (fun k => ¬ r.fr k = true) = num r.n2 (fun k => (k < r.n2 ∧ ¬ r.fr k = true) ∧ least (fun _ _ => False) k = k) := num_congr fun k hk => ⟨fun h => ⟨⟨hk, h⟩, hl _ (fun _ _ h => h) k⟩, fun h => h.1.2⟩
    have e2 : num r.cells.length (fun k => r.f k = true) = num r.cells.length (fun k => r.f k = true ∧ least (fun _ _ => False) k = k) := num_congr fun k _ => ⟨fun h => ⟨h, hl _ (fun _ _ h => h) k⟩, fun h => h.1⟩
    rw [e1, e2, key]
  have h3 := num_split (n := r.n2) (fun _ => True) (fun k => r.fr k = true)
  have h4 : num r.n2 (fun _ => True) = r.n2 := by
    have h5 := num_le r.n2 (fun _ => True)
    have h6 : ∀ n, num n (fun _ => True) = n := fun n => by
      induction n with
      | zero => rfl
      | succ n ih => rw [num_succ, ih]; simp
    exact h6 _
  have h5 : num r.n2 (fun j => True ∧ ¬ r.fr j = true) = num r.n2 (fun k => ¬ r.fr k = true) := num_congr fun k _ => by simp
  have h6 : num r.n2 (fun j => True ∧ r.fr j = true) = num r.n2 (fun k => r.fr k = true) := num_congr fun k _ => by simp
  rw [h4, h5, h6, hno] at h3
  have h7 := num_cnt r
  omega
/-- The places that hang together with the corner. -/
def Met (r : Reg) (M : List Bool) : Prop := M.length = r.n2 ∧ ∀ j, M.getD j false = true ↔ Conn (F4 r) 0 j
theorem conn_fr {r : Reg} (h0 : r.fr 0 = true) {j : Nat} (h : Conn (F4 r) 0 j) : r.fr j = true := h.stays (Q := fun k => r.fr k = true) (fun _ _ e _ => e.2.1) h0
theorem least_zero {r : Reg} {j : Nat} (h : Conn (F4 r) 0 j) : least (F4 r) j = 0 := Nat.le_zero.1 (least_le (h.symm fun _ _ e => e.symm))
theorem outs_one (hv : r.valid = true) : r.outs = 1 ↔ ∀ j, r.fr j = true → Conn (F4 r) 0 j := by
  obtain ⟨v1, v2, v3, _⟩ := Reg.valid_iff.1 hv
  have h0 := zero_fr (r := r) (by omega) (by omega)
  have hn0 := fr_lt h0
  have hs : ∀ a b, F4 r a b → F4 r b a := fun _ _ e => e.symm
  constructor
  · intro h j hj
    have hr := least_conn (F4 r) j
    have hi := least_idem hs j
    have hfm : r.fr (least (F4 r) j) = true := hr.stays (Q := fun k => r.fr k = true) (fun _ _ e _ => e.2.1) hj
    generalize least (F4 r) j = m at hr hi hfm
    by_cases e : m = 0
    · subst e; exact hr.symm hs
    · exfalso
      unfold Reg.outs at h
      have h1 : rootsN (F4 r) r.fr (0 + 1) = rootsN (F4 r) r.fr 0 + 1 := rootsN_yes h0 (Nat.le_zero.1 (least_self 0))
      have h2 : rootsN (F4 r) r.fr (m + 1) = rootsN (F4 r) r.fr m + 1 := rootsN_yes hfm hi
      have h3 : rootsN (F4 r) r.fr (0 + 1) ≤ rootsN (F4 r) r.fr m := num_grow (by omega) _
      have h4 : rootsN (F4 r) r.fr (m + 1) ≤ rootsN (F4 r) r.fr r.n2 := num_grow (fr_lt hfm) _
      rw [rootsN_zero] at h1
      omega
  · intro h
    unfold Reg.outs rootsN
    rw [num_congr (R := fun k => k = 0) fun k _ => ⟨fun a => by have := least_zero (h k a.1); omega, fun a => by subst a; exact ⟨h0, Nat.le_zero.1 (least_self 0)⟩⟩]
    exact num_one hn0
theorem met_count (hv : r.valid = true) {M : List Bool} (h : Met r M) : decide (cnt M = (r.n2 : Int) - cnt r.cells) = decide (r.outs = 1) := by
  obtain ⟨v1, v2, v3, _⟩ := Reg.valid_iff.1 hv
  have h0 := zero_fr (r := r) (by omega) (by omega)
  refine decide_eq_decide.2 ?_
  rw [outs_one hv, ← num_bool, h.1, ← free_num hv, num_congr (fun k _ => h.2 k)]
  constructor
  · intro e j hj
    by_cases hc : Conn (F4 r) 0 j
    · exact hc
    · exfalso
      have := num_lt (n := r.n2) (Q := Conn (F4 r) 0) (R := fun k => r.fr k = true) (fun k _ hk => conn_fr h0 hk) (fr_lt hj) hc hj
      have e' : num r.n2 (Conn (F4 r) 0) = num r.n2 (fun k => r.fr k = true) := by exact_mod_cast e
      omega
  · intro e
    rw [num_congr (R := fun k => r.fr k = true) fun k _ => ⟨fun hk => conn_fr h0 hk, fun hk => e k hk⟩]
theorem met_dfs (h1 : 1 ≤ r.wide) (h2 : 1 ≤ r.tall) {M : List Bool} (g : Dfs (F4 r) r.fr (List.replicate r.n2 false) M (plc r 0 0)) : Met r M := by
  have hz : ∀ j, (List.replicate r.n2 false).getD j false = false := fun j => by
    simp only [List.getD_eq_getElem?_getD, List.getElem?_replicate]; split <;> rfl
  have h0 := zero_plc (r := r) h1 h2
  refine ⟨by rw [g.len]; simp, fun j => ⟨fun hj => ?_, fun hc => ?_⟩⟩
  · rcases g.reach j hj with h | ⟨k, hk, _, hc⟩
    · rw [hz] at h; cases h
    · rw [hk.uniq h0] at hc; exact hc
  · induction hc with
    | refl => exact g.here 0 h0 (zero_fr h1 h2)
    | step _ e ih => exact g.clos _ _ ih (hz _) e
end

/-! ### the queue -/
/-- The queue Q behind its first k places, and m directions of the k-th. -/
structure Bfs (r : Reg) (M : List Bool) (Q : List Nat) (k m : Nat) : Prop where
  len : M.length = r.n2
  mem : ∀ j, M.getD j false = true ↔ j ∈ Q
  nodup : Q.Nodup
  conn : ∀ j ∈ Q, Conn (F4 r) 0 j
  zero : 0 ∈ Q
  clos : ∀ i, i < k → ∀ b, F4 r (Q.getD i 0) b → M.getD b false = true
  part : ∀ way : Int, 1 ≤ way → way ≤ m → ∀ b, plc r ((Q.getD k 0 : Nat) % (r.wide + 2) + dX way) ((Q.getD k 0 : Nat) / (r.wide + 2) + dY way) b → r.fr b = true → M.getD b false = true
section
variable {r : Reg} {M : List Bool} {Q : List Nat} {k m : Nat}
theorem Bfs.start (h1 : 1 ≤ r.wide) (h2 : 1 ≤ r.tall) : Bfs r ((List.replicate r.n2 false).set 0 true) [0] 0 0 := by
  have hn := fr_lt (zero_fr (r := r) h1 h2)
  refine ⟨by simp, fun j => ?_, by simp, fun j hj => ?_, by simp, fun i hi => by omega, fun way w1 w2 => by omega⟩
  · rw [getB_put _ _ _ _ (by simpa using hn)]
    by_cases e : 0 = j
    · subst e; simp
    · rw [if_neg e]
      simp only [List.getD_eq_getElem?_getD, List.getElem?_replicate, List.mem_singleton]
      constructor
      · intro h; split at h <;> simp at h
      · intro h; exact absurd h.symm e
  · rw [List.mem_singleton] at hj; subst hj; exact .refl _
theorem Bfs.qlen (h : Bfs r M Q k m) (h0 : r.fr 0 = true) : Q.length = num r.n2 (fun j => M.getD j false = true) := by
  have hb : ∀ j ∈ Q, j < r.n2 := fun j hj => fr_lt (conn_fr h0 (h.conn j hj))
  unfold num
  refine Nat.le_antisymm (nodup_len h.nodup fun x hx => List.mem_filter.2 ⟨List.mem_range.2 (hb x hx), ?_⟩) (nodup_len (List.nodup_range.filter _) fun x hx => (h.mem x).1 ?_)
  · have := (h.mem x).2 hx; simpa using this
  · have := (List.mem_filter.1 hx).2; simpa using this
theorem Bfs.count (h : Bfs r M Q k m) (h0 : r.fr 0 = true) : (Q.length : Int) = cnt M := by
  rw [h.qlen h0, ← num_bool, h.len]
theorem Bfs.le (h : Bfs r M Q k m) (h0 : r.fr 0 = true) : Q.length ≤ r.n2 := by
  rw [h.qlen h0]; exact num_le _ _
theorem Bfs.skip (h : Bfs r M Q k m) (hs : ∀ b, plc r ((Q.getD k 0 : Nat) % (r.wide + 2) + dX ((m : Int) + 1)) ((Q.getD k 0 : Nat) / (r.wide + 2) + dY ((m : Int) + 1)) b → r.fr b = true → M.getD b false = true) : Bfs r M Q k (m + 1) :=
  ⟨h.len, h.mem, h.nodup, h.conn, h.zero, h.clos, fun way w1 w2 b hb hf => by
    by_cases e : way = (m : Int) + 1
    · subst e; exact hs b hb hf
    · exact h.part way w1 (by omega) b hb hf⟩
theorem Bfs.put (h : Bfs r M Q k m) (h1 : 1 ≤ r.wide) (h2 : 1 ≤ r.tall) (hk : k < Q.length) (hm : m < 4) {b : Nat} (hp : plc r ((Q.getD k 0 : Nat) % (r.wide + 2) + dX ((m : Int) + 1)) ((Q.getD k 0 : Nat) / (r.wide + 2) + dY ((m : Int) + 1)) b) (hf : r.fr b = true) (hn : M.getD b false = false) :
    Bfs r (M.set b true) (Q ++ [b]) k (m + 1) := by
  have hbl : b < M.length := by rw [h.len]; exact fr_lt hf
  have hget : ∀ j, (M.set b true).getD j false = if b = j then true else M.getD j false := fun j => getB_put M b j true hbl
  have hbq : b ∉ Q := fun hb => by rw [(h.mem b).2 hb] at hn; cases hn
  have hq : ∀ i, i < Q.length → (Q ++ [b]).getD i 0 = Q.getD i 0 := fun i hi => by simp [List.getD_eq_getElem?_getD, List.getElem?_append_left hi]
  have hkq : Q.getD k 0 ∈ Q := by rw [List.getD_eq_getElem?_getD, List.getElem?_eq_getElem hk]; exact List.getElem_mem hk
  have hck := h.conn _ hkq
  have hfk := conn_fr (zero_fr h1 h2) hck
  have he : F4 r (Q.getD k 0) b := by
    refine (F4_plc h1 h2 (plc_at h1 h2 (fr_lt hfk)) hfk hf).1 ?_
    have hc : (m : Int) + 1 = 1 ∨ (m : Int) + 1 = 2 ∨ (m : Int) + 1 = 3 ∨ (m : Int) + 1 = 4 := by omega
    rcases hc with e | e | e | e <;> rw [e] at hp
    · have : plc r (((Q.getD k 0 : Nat) : Int) % (r.wide + 2) + 1) (((Q.getD k 0 : Nat) : Int) / (r.wide + 2) + 0) b := hp
      rw [Int.add_zero] at this; exact .inl (.inl (.inl this))
    · have : plc r (((Q.getD k 0 : Nat) : Int) % (r.wide + 2) + 0) (((Q.getD k 0 : Nat) : Int) / (r.wide + 2) + 1) b := hp
      rw [Int.add_zero] at this; exact .inl (.inr this)
    · have : plc r (((Q.getD k 0 : Nat) : Int) % (r.wide + 2) + (-1)) (((Q.getD k 0 : Nat) : Int) / (r.wide + 2) + 0) b := hp
      rw [Int.add_zero] at this; exact .inl (.inl (.inr this))
    · have : plc r (((Q.getD k 0 : Nat) : Int) % (r.wide + 2) + 0) (((Q.getD k 0 : Nat) : Int) / (r.wide + 2) + (-1)) b := hp
      rw [Int.add_zero] at this; exact .inr this
  refine ⟨by rw [List.length_set]; exact h.len, fun j => ?_, ?_, fun j hj => ?_, List.mem_append.2 (.inl h.zero), fun i hi c hc => ?_, fun way w1 w2 c hc hfc => ?_⟩
  · rw [hget, List.mem_append, List.mem_singleton]
    by_cases e : b = j
    · subst e; simp
    · rw [if_neg e, h.mem j]
      exact ⟨fun h => .inl h, fun h => h.elim id fun h2 => absurd h2.symm e⟩
  · rw [List.nodup_append]
    refine ⟨h.nodup, by simp, fun a ha c hc => ?_⟩
    rw [List.mem_singleton] at hc
    rintro rfl
    exact hbq (hc ▸ ha)
  · rcases List.mem_append.1 hj with hj | hj
    · exact h.conn j hj
    · rw [List.mem_singleton] at hj; subst hj; exact .step hck he
  · rw [hq i (by omega)] at hc
    rw [hget]; split
    · rfl
    · exact h.clos i hi c hc
  · rw [hq k hk] at hc
    rw [hget]; split
    · rfl
    · next hne =>
      by_cases e : way = (m : Int) + 1
      · subst e; exact absurd (hp.uniq hc) hne
      · exact h.part way w1 (by omega) c hc hfc
theorem Bfs.next (h : Bfs r M Q k 4) (h1 : 1 ≤ r.wide) (h2 : 1 ≤ r.tall) (hk : k < Q.length) : Bfs r M Q (k + 1) 0 := by
  refine ⟨h.len, h.mem, h.nodup, h.conn, h.zero, fun i hi b hb => ?_, fun way w1 w2 => by omega⟩
  by_cases e : i = k
  · subst e
    have hfk := hb.1
    have hx := (F4_plc h1 h2 (plc_at h1 h2 (fr_lt hfk)) hfk hb.2.1).2 hb
    rcases hx with ((hx | hx) | hx) | hx
    · exact h.part 1 (by omega) (by omega) b (by show plc r (_ + 1) (_ + 0) b; rw [Int.add_zero]; exact hx) hb.2.1
    · exact h.part 3 (by omega) (by omega) b (by show plc r (_ + (-1)) (_ + 0) b; rw [Int.add_zero]; exact hx) hb.2.1
    · exact h.part 2 (by omega) (by omega) b (by show plc r (_ + 0) (_ + 1) b; rw [Int.add_zero]; exact hx) hb.2.1
    · exact h.part 4 (by omega) (by omega) b (by show plc r (_ + 0) (_ + (-1)) b; rw [Int.add_zero]; exact hx) hb.2.1
  · exact h.clos i (by omega) b hb
theorem Bfs.met (h : Bfs r M Q Q.length 0) : Met r M := by
  refine ⟨h.len, fun j => ⟨fun hj => h.conn j ((h.mem j).1 hj), fun hc => ?_⟩⟩
  induction hc with
  | refl => exact (h.mem 0).2 h.zero
  | step _ e ih =>
    obtain ⟨i, hi, e2⟩ := List.getElem_of_mem ((h.mem _).1 ih)
    refine h.clos i hi _ ?_
    rw [List.getD_eq_getElem?_getD, List.getElem?_eq_getElem hi, Option.getD_some, e2]; exact e
end

/-! ### turned and mirrored -/
theorem outs_g {r : Reg} (hv : r.valid = true) : r.outs = gparts (r.wide + 2) (r.tall + 2) r.ph A4 := by
  have e : GE (r.wide + 2) (r.tall + 2) r.ph A4 = F4 r := by
    funext a b
    unfold GE F4
    rw [gp_h hv, gp_h hv]
  unfold Reg.outs rootsN gparts Reg.n2
  rw [e]
  exact num_congr fun k _ => by rw [gp_h hv]
theorem turn_outs {r : Reg} (hv : r.valid = true) : r.turn.outs = r.outs := by
  obtain ⟨v1, v2, v3, _⟩ := Reg.valid_iff.1 hv
  rw [outs_g hv, outs_g (turn_valid hv)]
  have := (grid_turn (W := r.wide + 2) (T := r.tall + 2) (p := r.ph) (q := r.turn.ph) (by omega) (by omega) a4_turn fun x y _ _ _ _ => by
    show (!r.turn.at_ (r.tall + 2 - 1 - y - 1) (x - 1)) = !r.at_ (x - 1) (y - 1)
    rw [← turn_at hv (x - 1) (y - 1), show r.tall - 1 - (y - 1) = r.tall + 2 - 1 - y - 1 by omega]).symm
  rw [show gparts (r.turn.wide + 2) (r.turn.tall + 2) r.turn.ph A4 = gparts (r.tall + 2) (r.wide + 2) r.turn.ph A4 from rfl, this]
theorem mir_outs {r : Reg} (hv : r.valid = true) : r.mir.outs = r.outs := by
  obtain ⟨v1, v2, v3, _⟩ := Reg.valid_iff.1 hv
  rw [outs_g hv, outs_g (mir_valid hv)]
  have := (grid_flip (W := r.wide + 2) (T := r.tall + 2) (p := r.ph) (q := r.mir.ph) (by omega) a4_flip (fun x y h => a4_turn _ _ (a4_turn _ _ h)) fun x y _ _ _ _ => by
    show (!r.mir.at_ (r.wide + 2 - 1 - x - 1) (y - 1)) = !r.at_ (x - 1) (y - 1)
    rw [← mir_at hv (x - 1) (y - 1), show r.wide - 1 - (x - 1) = r.wide + 2 - 1 - x - 1 by omega]).symm
  rw [show gparts (r.mir.wide + 2) (r.mir.tall + 2) r.mir.ph A4 = gparts (r.wide + 2) (r.tall + 2) r.mir.ph A4 from rfl, this]
theorem mir_pmany {r : Reg} (hv : r.valid = true) : r.mir.pmany = r.pmany := by
  unfold Reg.pmany; rw [if_pos hv, if_pos (mir_valid hv), mir_parts hv]
theorem sim_turn {r : Reg} : r.turnR.simB = r.simB := by
  cases hv : r.valid
  · have e : r.turnR = Reg.zero := by unfold Reg.turnR; rw [hv]; rfl
    rw [e]; unfold Reg.simB; rw [hv, show Reg.zero.valid = false from rfl]; rfl
  · rw [turnR_yes hv]; unfold Reg.simB; rw [turn_valid hv, hv, turn_outs hv, turn_pmany hv]
theorem sim_mir {r : Reg} : r.flipR.simB = r.simB := by
  cases hv : r.valid
  · have e : r.flipR = Reg.zero := by unfold Reg.flipR; rw [hv]; rfl
    rw [e]; unfold Reg.simB; rw [hv, show Reg.zero.valid = false from rfl]; rfl
  · rw [flipR_yes hv]; unfold Reg.simB; rw [mir_valid hv, hv, mir_outs hv, mir_pmany hv]
theorem sim_holes {r : Reg} (h : r.simB = true) : r.valid = true ∧ r.pmany = 1 ∧ r.holesR = 0 := by
  unfold Reg.simB at h
  simp only [Bool.and_eq_true, decide_eq_true_eq] at h
  obtain ⟨hv, ho, hp⟩ := h
  refine ⟨hv, hp, ?_⟩
  obtain ⟨v1, v2, v3, _⟩ := Reg.valid_iff.1 hv
  have h0 := zero_fr (r := r) (by omega) (by omega)
  have hall := (outs_one hv).1 ho
  rw [holesR_yes hv]
  unfold Reg.holes rootsN
  rw [num_congr (R := fun k => k = 0) fun k _ => ⟨fun a => by
    have hc := (hall k a.1).mono (F := E8 r) fun _ _ e => e.near
    have := least_le (hc.symm fun _ _ e => e.symm)
    omega, fun a => by subst a; exact ⟨h0, Nat.le_zero.1 (least_self 0)⟩⟩, num_one (fr_lt h0)]
  rfl
end Domi

/- A part has one part; the cells of all parts: plain. -/
set_option linter.unusedVariables false
namespace Domi
open Go Go.RowKit

theorem partC_conn {r : Reg} {p : Nat} {a b : Nat} (h : Conn (E4 r) a b) (ha : partN r a = (p : Int)) : Conn (E4 (r.partC p)) a b ∧ partN r b = (p : Int) ∨ r.valid = false := by
  cases hv : r.valid
  · exact .inr rfl
  refine .inl ?_
  induction h with
  | refl => exact ⟨.refl _, ha⟩
  | step _ e ih =>
    obtain ⟨h1, h2⟩ := ih
    have h3 := partN_next hv e
    refine ⟨.step h1 ⟨partC_f.2 ⟨by omega, h2⟩, partC_f.2 ⟨by omega, by omega⟩, ?_⟩, by omega⟩
    obtain ⟨way, w1, w2, w3⟩ := e.2.2
    exact ⟨way, w1, w2, w3⟩
theorem partC_least {r : Reg} (hv : r.valid = true) {p k : Nat} (h : (r.partC p).f k = true) : least (E4 (r.partC p)) k = p := by
  obtain ⟨h1, h2⟩ := partC_f.1 h
  have hf := partN_f.1 h1
  have hl := h2
  rw [partN_yes hf] at hl
  have hl : least (E4 r) k = p := by omega
  have hc := least_conn (E4 r) k
  rw [hl] at hc
  rcases partC_conn hc h2 with ⟨g1, g2⟩ | g
  · refine Nat.le_antisymm (least_le g1) ?_
    have g3 := least_conn (E4 (r.partC p)) k
    have g4 := conn_f g3 h
    have g5 := (partC_f.1 g4).2
    have := partN_le (r := r) (k := least (E4 (r.partC p)) k)
    omega
  · rw [hv] at g; exact absurd g (by decide)
theorem partC_pmany {r : Reg} (hv : r.valid = true) {p : Int} (h : hasPart r p = true) : (r.partC p).pmany = 1 := by
  obtain ⟨k, hk⟩ := hasPart_iff.1 h
  obtain ⟨g1, g2⟩ := partC_f.1 hk
  obtain ⟨n, rfl⟩ : ∃ n : Nat, p = n := ⟨p.toNat, by omega⟩
  have hn : partN r n = (n : Int) := partN_idem hv g2
  have hfn : (r.partC n).f n = true := partC_f.2 ⟨by omega, hn⟩
  have hlt : n < (r.partC n).cells.length := f_lt hfn
  unfold Reg.pmany
  rw [if_pos (partC_valid hv _)]
  unfold partCount
  rw [num_congr (R := fun j => j = n) fun j _ => ?_, num_one hlt]
  · rfl
  · constructor
    · rintro ⟨h1, h2⟩
      rw [partC_least hv h1] at h2; exact h2.symm
    · rintro rfl
      exact ⟨hfn, partC_least hv hfn⟩
theorem partReg_pmany {r : Reg} {p : Int} (h : (partReg r p).2 = true) : (partReg r p).1.pmany = 1 := by
  unfold partReg at h ⊢
  split at h
  · rename_i hc
    rw [if_pos hc]
    rw [Bool.and_eq_true] at hc
    exact partC_pmany hc.1 hc.2
  · exact absurd h (by decide)
theorem partReg_zero {r : Reg} {p : Int} (h : (partReg r p).2 = false) : (partReg r p).1.wide = 0 := by
  unfold partReg at h ⊢
  split at h
  · exact absurd (show true = false from h) (by decide)
  · rename_i hc; rw [if_neg hc]; rfl
theorem partReg_valid {r : Reg} {p : Int} (h : (partReg r p).2 = true) : r.valid = true := by
  unfold partReg at h
  split at h
  · rename_i hc; rw [Bool.and_eq_true] at hc; exact hc.1
  · exact absurd h (by decide)
/-- How many cells the parts less than n have together. -/
noncomputable def belowN (r : Reg) (n : Nat) : Int := cnt (r.below n).cells
theorem belowN_succ (r : Reg) (n : Nat) : belowN r (n + 1) = belowN r n + cnt (r.partC n).cells := by
  unfold belowN
  rw [← num_cnt, ← num_cnt, ← num_cnt, below_len, below_len, partC_len]
  rw [show ((num r.cells.length fun k => (r.below n).f k = true : Nat) : Int) + (num r.cells.length fun k => (r.partC n).f k = true : Nat) = ((num r.cells.length (fun k => (r.below n).f k = true) + num r.cells.length (fun k => (r.partC n).f k = true) : Nat) : Int) from (Int.natCast_add _ _).symm]
  rw [← num_or fun k _ h1 h2 => by have a := (below_f.1 h1).2; have b := (partC_f.1 h2).2; omega]
  refine congrArg _ (num_congr fun k _ => ?_)
  rw [below_f, below_f, partC_f]
  omega
theorem belowN_zero (r : Reg) : belowN r 0 = 0 := by
  unfold belowN
  rw [← num_cnt]
  refine congrArg Int.ofNat (num_none fun k _ h => ?_)
  have := below_f.1 h
  omega
theorem belowN_all (r : Reg) : belowN r r.cells.length = cnt r.cells := by unfold belowN; rw [below_all]
theorem belowN_le (r : Reg) (n : Nat) : 0 ≤ belowN r n ∧ belowN r n ≤ r.cells.length := by
  unfold belowN; rw [← num_cnt, below_len]
  have := num_le r.cells.length fun k => (r.below n).f k = true
  omega
theorem belowN_yes {r : Reg} {n : Nat} (hv : r.valid = true) {z : Reg} (h : partReg r n = (z, true)) : belowN r (n + 1) = belowN r n + z.many := by
  unfold partReg at h
  split at h
  · obtain ⟨rfl, _⟩ := Prod.mk.inj h
    rw [belowN_succ, Reg.many_yes (partC_valid hv _)]
  · exact absurd (Prod.mk.inj h).2 (by decide)
theorem belowN_no {r : Reg} {n : Nat} (hv : r.valid = true) {z : Reg} (h : partReg r n = (z, false)) : belowN r (n + 1) = belowN r n := by
  unfold partReg at h
  split at h
  · exact absurd (Prod.mk.inj h).2 (by decide)
  · rename_i hc
    have hp : hasPart r n = false := by
      cases hp : hasPart r n
      · rfl
      · rw [hv, hp] at hc; exact absurd rfl hc
    rw [belowN_succ]
    have : cnt (r.partC n).cells = 0 := by
      rw [← num_cnt]
      refine congrArg Int.ofNat (num_none fun k _ hk => ?_)
      rw [hasPart_iff.2 ⟨k, hk⟩] at hp; exact absurd hp (by decide)
    omega
end Domi
