/- Plain words and laws on memory, regions and dominoes, of several texts. -/
import Derived.Test.YtklifibiadiinaaZa
import Derived.Test.YtklifibiadiinaaZb
import Derived.Test.YtklifibiadiinaaZc
import Derived.Test.YtklifibiadiinaaZd
import Derived.Test.YtklifibiadiinaaZe

/- Determinants by Laplace: plain. -/
set_option linter.unusedVariables false
namespace Domi

/-- The ways to take one out of a list: its sign, it, and the others. -/
def sels {α : Type} : List α → List (Int × α × List α)
  | [] => []
  | x :: J => (1, x, J) :: (sels J).map fun t => (-t.1, t.2.1, x :: t.2.2)
/-- Sums over lists. -/
def sm {α : Type} (L : List α) (f : α → Int) : Int := (L.map f).sum
section
variable {α β : Type}
@[simp] theorem sm_nil (f : α → Int) : sm [] f = 0 := rfl
@[simp] theorem sm_cons (x : α) (L : List α) (f : α → Int) : sm (x :: L) f = f x + sm L f := rfl
theorem sm_map (L : List α) (g : α → β) (f : β → Int) : sm (L.map g) f = sm L fun x => f (g x) := by
  induction L with
  | nil => rfl
  | cons x L ih => simp [ih]
theorem sm_append (L K : List α) (f : α → Int) : sm (L ++ K) f = sm L f + sm K f := by
  induction L with
  | nil => simp
  | cons x L ih => simp [ih, Int.add_assoc]
theorem sm_add (L : List α) (f g : α → Int) : (sm L fun x => f x + g x) = sm L f + sm L g := by
  induction L with
  | nil => rfl
  | cons x L ih => simp [ih]; omega
theorem sm_mul (L : List α) (c : Int) (f : α → Int) : (sm L fun x => c * f x) = c * sm L f := by
  induction L with
  | nil => simp
  | cons x L ih => simp [ih, Int.mul_add]
theorem sm_neg (L : List α) (f : α → Int) : (sm L fun x => -f x) = -sm L f := by
  induction L with
  | nil => rfl
  | cons x L ih => simp [ih]; omega
theorem sm_zero (L : List α) : (sm L fun _ => 0) = 0 := by
  induction L with
  | nil => rfl
  | cons x L ih => simp [ih]
theorem sm_congr {L : List α} {f g : α → Int} (h : ∀ x ∈ L, f x = g x) : sm L f = sm L g := by
  induction L with
  | nil => rfl
  | cons x L ih => simp [h x (by simp), ih fun y hy => h y (by simp [hy])]
theorem sm_swap (L : List α) (K : List β) (f : α → β → Int) : (sm L fun x => sm K (f x)) = sm K fun y => sm L fun x => f x y := by
  induction L with
  | nil => simp [sm_zero]
  | cons x L ih => simp only [sm_cons, ih, sm_add]
theorem selG_map (g : α → β) : ∀ L : List α, sels (L.map g) = (sels L).map fun t => (t.1, g t.2.1, t.2.2.map g)
  | [] => rfl
  | x :: L => by simp [sels, selG_map g L]
end
/-- The determinant of rows at columns. -/
def Dt : List (Nat → Int) → List Nat → Int
  | [], [] => 1
  | [], _ :: _ => 0
  | a :: R, J => sm (sels J) fun t => t.1 * a t.2.1 * Dt R t.2.2

section
variable {α : Type}
theorem sel_len : ∀ {J : List α} {t : Int × α × List α}, t ∈ sels J → t.2.2.length + 1 = J.length
  | [], _, h => by simp [sels] at h
  | x :: J, t, h => by
    simp only [sels, List.mem_cons, List.mem_map] at h
    rcases h with rfl | ⟨u, hu, rfl⟩
    · rfl
    · have := sel_len hu; simp; omega
theorem sel_mem : ∀ {J : List α} {t : Int × α × List α}, t ∈ sels J → t.2.1 ∈ J ∧ ∀ x ∈ t.2.2, x ∈ J
  | [], _, h => by simp [sels] at h
  | x :: J, t, h => by
    simp only [sels, List.mem_cons, List.mem_map] at h
    rcases h with rfl | ⟨u, hu, rfl⟩
    · exact ⟨by simp, fun y hy => by simp [hy]⟩
    · have := sel_mem hu
      exact ⟨by simp [this.1], fun y hy => by
        simp only [List.mem_cons] at hy ⊢
        rcases hy with h | h
        · exact .inl h
        · exact .inr (this.2 y h)⟩
theorem sel_sign : ∀ {J : List α} {t : Int × α × List α}, t ∈ sels J → t.1 = 1 ∨ t.1 = -1
  | [], _, h => by simp [sels] at h
  | x :: J, t, h => by
    simp only [sels, List.mem_cons, List.mem_map] at h
    rcases h with rfl | ⟨u, hu, rfl⟩
    · exact .inl rfl
    · have := sel_sign hu; simp; omega
theorem sel_length (J : List α) : (sels J).length = J.length := by
  induction J with
  | nil => rfl
  | cons x J ih => simp [sels, ih]

end
/-- Columns alone count. -/
theorem Dt_congr : ∀ {R R' : List (Nat → Int)} {J : List Nat}, R.length = R'.length → (∀ k (h : k < R.length) (h' : k < R'.length), ∀ x ∈ J, R[k] x = R'[k] x) → Dt R J = Dt R' J
  | [], [], _, _, _ => rfl
  | [], _ :: _, _, h, _ => by simp at h
  | _ :: _, [], _, h, _ => by simp at h
  | a :: R, b :: R', J, hl, h => by
    simp only [Dt]
    refine sm_congr fun t ht => ?_
    have h0 := h 0 (by simp) (by simp) t.2.1 (sel_mem ht).1
    simp only [List.getElem_cons_zero] at h0
    rw [h0, Dt_congr (R := R) (R' := R') (by simpa using hl) fun k h1 h2 x hx => by
      have := h (k + 1) (by simpa using h1) (by simpa using h2) x ((sel_mem ht).2 x hx)
      simpa using this]

/-- Two taken out one after the other: exchanged, the sign turns. -/
theorem sel_two (J : List Nat) : ∀ f : Nat → Nat → List Nat → Int,
    (sm (sels J) fun t => t.1 * sm (sels t.2.2) fun u => u.1 * f t.2.1 u.2.1 u.2.2) = -sm (sels J) fun t => t.1 * sm (sels t.2.2) fun u => u.1 * f u.2.1 t.2.1 u.2.2 := by
  induction J with
  | nil => intro f; rfl
  | cons x J ih =>
    intro f
    have key : ∀ f : Nat → Nat → List Nat → Int, (sm (sels (x :: J)) fun t => t.1 * sm (sels t.2.2) fun u => u.1 * f t.2.1 u.2.1 u.2.2) =
        (sm (sels J) fun u => u.1 * f x u.2.1 u.2.2) - (sm (sels J) fun u => u.1 * f u.2.1 x u.2.2) + sm (sels J) fun t => t.1 * sm (sels t.2.2) fun u => u.1 * f t.2.1 u.2.1 (x :: u.2.2) := by
      intro f
      simp only [sels, sm_cons, sm_map, Int.one_mul]
      have : (sm (sels J) fun t => -t.1 * (f t.2.1 x t.2.2 + sm (sels t.2.2) fun u => -u.1 * f t.2.1 u.2.1 (x :: u.2.2)))
          = -(sm (sels J) fun u => u.1 * f u.2.1 x u.2.2) + sm (sels J) fun t => t.1 * sm (sels t.2.2) fun u => u.1 * f t.2.1 u.2.1 (x :: u.2.2) := by
        rw [← sm_neg, ← sm_add]
        refine sm_congr fun t _ => ?_
        have e : (sm (sels t.2.2) fun u => -u.1 * f t.2.1 u.2.1 (x :: u.2.2)) = -sm (sels t.2.2) fun u => u.1 * f t.2.1 u.2.1 (x :: u.2.2) := by
          rw [← sm_neg]; exact sm_congr fun u _ => by rw [Int.neg_mul]
        rw [e, Int.mul_add, Int.neg_mul, Int.neg_mul, Int.mul_neg, Int.neg_neg]
      rw [this]; omega
    rw [key f, key fun a b r => f b a r, ih fun a b r => f a b (x :: r)]
    omega
theorem Dt_swap0 (a b : Nat → Int) (R : List (Nat → Int)) (J : List Nat) : Dt (a :: b :: R) J = -Dt (b :: a :: R) J := by
  have h : ∀ a b : Nat → Int, Dt (a :: b :: R) J = sm (sels J) fun t => t.1 * sm (sels t.2.2) fun u => u.1 * (a t.2.1 * b u.2.1 * Dt R u.2.2) := by
    intro a b
    simp only [Dt]
    refine sm_congr fun t _ => ?_
    rw [Int.mul_assoc, ← sm_mul (c := a t.2.1)]
    congr 1
    refine sm_congr fun u _ => ?_
    rw [← Int.mul_assoc, ← Int.mul_assoc, Int.mul_comm (a t.2.1) u.1, Int.mul_assoc u.1, Int.mul_assoc]
  rw [h a b, h b a, sel_two J fun x y r => a x * b y * Dt R r]
  congr 1
  refine sm_congr fun t _ => ?_
  congr 1
  refine sm_congr fun u _ => ?_
  rw [Int.mul_comm (a u.2.1)]
theorem Dt_swap (X : List (Nat → Int)) (a b : Nat → Int) (R : List (Nat → Int)) : ∀ J : List Nat, Dt (X ++ a :: b :: R) J = -Dt (X ++ b :: a :: R) J := by
  induction X with
  | nil => exact Dt_swap0 a b R
  | cons c X ih =>
    intro J
    simp only [List.cons_append, Dt]
    rw [← sm_neg]
    exact sm_congr fun t _ => by rw [ih, Int.mul_neg]
theorem Dt_swap2 (X Y : List (Nat → Int)) (a b : Nat → Int) (R : List (Nat → Int)) (J : List Nat) : Dt (X ++ a :: (Y ++ b :: R)) J = -Dt (X ++ b :: (Y ++ a :: R)) J := by
  induction Y generalizing X with
  | nil => exact Dt_swap X a b R J
  | cons y Y ih =>
    have h1 := Dt_swap X a y (Y ++ b :: R) J
    have h2 := ih (X ++ [y])
    have h3 := Dt_swap X y b (Y ++ a :: R) J
    simp only [List.append_assoc, List.cons_append, List.nil_append] at h1 h2 h3 ⊢
    rw [h1, h2, h3, Int.neg_neg]
theorem Dt_eq (X : List (Nat → Int)) (a : Nat → Int) (R : List (Nat → Int)) (J : List Nat) : Dt (X ++ a :: a :: R) J = 0 := by
  have := Dt_swap X a a R J
  omega
theorem Dt_eq2 (X Y : List (Nat → Int)) (a : Nat → Int) (R : List (Nat → Int)) (J : List Nat) : Dt (X ++ a :: (Y ++ a :: R)) J = 0 := by
  have := Dt_swap2 X Y a a R J
  omega
/-- A row may be a sum. -/
theorem Dt_lin (X : List (Nat → Int)) (a b : Nat → Int) (p q : Int) (R : List (Nat → Int)) : ∀ J : List Nat, Dt (X ++ (fun x => p * a x + q * b x) :: R) J = p * Dt (X ++ a :: R) J + q * Dt (X ++ b :: R) J := by
  induction X with
  | nil =>
    intro J
    simp only [List.nil_append, Dt]
    rw [← sm_mul, ← sm_mul, ← sm_add]
    refine sm_congr fun t _ => ?_
    rw [Int.mul_add, Int.add_mul]
    congr 1
    · rw [Int.mul_left_comm, Int.mul_assoc p]
    · rw [Int.mul_left_comm, Int.mul_assoc q]
  | cons c X ih =>
    intro J
    simp only [List.cons_append, Dt]
    rw [← sm_mul, ← sm_mul, ← sm_add]
    refine sm_congr fun t _ => ?_
    rw [ih, Int.mul_add]
    congr 1
    · rw [Int.mul_left_comm]
    · rw [Int.mul_left_comm]
/-- Along the first column. -/
theorem Dt_col (x : Nat) : ∀ (R : List (Nat → Int)) (J : List Nat), Dt R (x :: J) = sm (sels R) fun t => t.1 * t.2.1 x * Dt t.2.2 J
  | [], _ => rfl
  | a :: R, J => by
    simp only [Dt, sels, sm_cons, sm_map, sels, Int.one_mul]
    congr 1
    have h1 : (sm (sels J) fun t => -t.1 * a t.2.1 * Dt R (x :: t.2.2)) = sm (sels J) fun t => sm (sels R) fun u => -(t.1 * a t.2.1 * (u.1 * u.2.1 x * Dt u.2.2 t.2.2)) := by
      refine sm_congr fun t _ => ?_
      rw [Dt_col x R t.2.2, sm_neg, sm_mul, Int.neg_mul, Int.neg_mul]
    rw [h1, sm_swap]
    refine sm_congr fun u _ => ?_
    rw [← sm_mul]
    refine sm_congr fun t _ => ?_
    rw [Int.neg_mul, Int.neg_mul]
    congr 1
    rw [Int.mul_left_comm]
/-- Rows as columns. -/
theorem Dt_turn (A : Nat → Nat → Int) : ∀ (I J : List Nat), Dt (I.map fun i j => A i j) J = Dt (J.map fun j i => A i j) I
  | [], [] => rfl
  | [], _ :: _ => by simp [Dt, sels]
  | i :: I, J => by
    rw [Dt_col]
    simp only [List.map_cons, Dt]
    rw [selG_map, sm_map]
    refine sm_congr fun t _ => ?_
    rw [Dt_turn A I t.2.2]
/-- The column below the first row is 0. -/
theorem Dt_col0 (a : Nat → Int) (R : List (Nat → Int)) (x : Nat) (J : List Nat) (h : ∀ b ∈ R, b x = 0) : Dt (a :: R) (x :: J) = a x * Dt R J := by
  rw [Dt_col]
  simp only [sels, sm_cons, sm_map, Int.one_mul]
  have : (sm (sels R) fun t => -t.1 * t.2.1 x * Dt (a :: t.2.2) J) = 0 := by
    rw [← sm_zero (sels R)]
    refine sm_congr fun t ht => ?_
    rw [h _ (sel_mem ht).1, Int.mul_zero, Int.zero_mul]
  rw [this, Int.add_zero]
theorem Dt_none (R : List (Nat → Int)) (x : Nat) (J : List Nat) (h : ∀ b ∈ R, b x = 0) : Dt R (x :: J) = 0 := by
  cases R with
  | nil => rfl
  | cons a R => rw [Dt_col0 a R x J fun b hb => h b (by simp [hb]), h a (by simp), Int.zero_mul]
end Domi

/- Elimination without fractions gives the determinant: plain. -/
set_option linter.unusedVariables false
namespace Domi
open Go Go.RowKit
/-! ### how great -/
theorem wr_in (n : Int) (h : -9223372036854775808 ≤ n ∧ n ≤ 9223372036854775807) : wrap64 n = n := by unfold wrap64; omega
def facN : Nat → Nat
  | 0 => 1
  | n + 1 => (n + 1) * facN n
theorem fac_mono {m n : Nat} (h : m ≤ n) : facN m ≤ facN n := by
  induction n with
  | zero => have : m = 0 := by omega
            subst this; exact Nat.le_refl _
  | succ n ih =>
    by_cases e : m = n + 1
    · subst e; exact Nat.le_refl _
    · exact Nat.le_trans (ih (by omega)) (by rw [facN]; exact Nat.le_mul_of_pos_left _ (by omega))
theorem fac12 {m : Nat} (h : m ≤ 12) : facN m ≤ 479001600 := fac_mono (n := 12) h
theorem sm_abs {α : Type} (L : List α) (f : α → Int) (c : Nat) (h : ∀ x ∈ L, (f x).natAbs ≤ c) : (sm L f).natAbs ≤ L.length * c := by
  induction L with
  | nil => simp
  | cons x L ih =>
    have h1 := h x (by simp)
    have h2 := ih fun y hy => h y (by simp [hy])
    rw [sm_cons, List.length_cons, Nat.add_mul, Nat.one_mul]
    omega
theorem Dt_abs : ∀ (R : List (Nat → Int)) (J : List Nat), (∀ a ∈ R, ∀ x ∈ J, (a x).natAbs ≤ 1) → (Dt R J).natAbs ≤ facN J.length
  | [], [], _ => by simp [Dt, facN]
  | [], _ :: _, _ => by simp [Dt]
  | a :: R, J, h => by
    cases J with
    | nil => simp [Dt, sels, facN]
    | cons y J =>
      rw [Dt]
      refine Nat.le_trans (sm_abs _ _ (facN J.length) fun t ht => ?_) (by rw [sel_length, List.length_cons, facN]; exact Nat.le_refl _)
      have h1 := h a (by simp) _ (sel_mem ht).1
      have h2 := Dt_abs R t.2.2 fun b hb x hx => h b (by simp [hb]) x ((sel_mem ht).2 x hx)
      have h3 := sel_len ht
      rw [List.length_cons] at h3
      have h4 : t.2.2.length = J.length := by omega
      rw [h4] at h2
      have h5 : (t.1).natAbs = 1 := by rcases sel_sign ht with h | h <;> rw [h] <;> rfl
      rw [Int.natAbs_mul, Int.natAbs_mul, h5, Nat.one_mul]
      calc (a t.2.1).natAbs * (Dt R t.2.2).natAbs ≤ 1 * facN J.length := Nat.mul_le_mul h1 h2
        _ = facN J.length := Nat.one_mul _
/-! ### rows made of rows -/
theorem Dt_scale (c : Int) : ∀ (R : List (Nat → Int)) (J : List Nat), Dt (R.map fun a x => c * a x) J = c ^ R.length * Dt R J
  | [], J => by simp
  | a :: R, J => by
    simp only [List.map_cons, Dt]
    rw [← sm_mul]
    refine sm_congr fun t _ => ?_
    rw [Dt_scale c R, List.length_cons, Int.pow_succ]
    rw [Int.mul_comm (c ^ _) c, Int.mul_left_comm t.1 c, Int.mul_assoc c (t.1 * _), Int.mul_assoc c (c ^ _), Int.mul_left_comm (t.1 * _) (c ^ _)]
theorem Dt_elim (a : Nat → Int) (p : Int) (q : Nat → Int) (N : Nat → Nat → Int) : ∀ (I : List Nat) (X : List (Nat → Int)) (J : List Nat),
    Dt (a :: (X ++ I.map fun i j => p * N i j + q i * a j)) J = p ^ I.length * Dt (a :: (X ++ I.map N)) J
  | [], X, J => by simp
  | i :: I, X, J => by
    have h1 := Dt_lin (a :: X) (N i) a p (q i) (I.map fun i j => p * N i j + q i * a j) J
    have h2 := Dt_eq2 [] X a (I.map fun i j => p * N i j + q i * a j) J
    have h3 := Dt_elim a p q N I (X ++ [N i]) J
    simp only [List.append_assoc, List.cons_append, List.nil_append, List.map_cons, List.length_cons, Int.pow_succ] at h1 h2 h3 ⊢
    rw [h1, h2, h3, Int.mul_zero, Int.add_zero, Int.mul_comm (p ^ _) p, Int.mul_assoc]

/-! ### elimination -/
def swN (p k x : Nat) : Nat := if x = k then p else if x = p then k else x
theorem swapF_is (A : Nat → Nat → Int) (p k : Nat) : swapF A p k = fun x => A (swN p k x) := rfl
def Bar (n k : Nat) (l : Int) (A R : Nat → Nat → Int) : Prop := ∀ I J : List Nat, I.length = J.length → (∀ i ∈ I, k ≤ i ∧ i < n) → (∀ j ∈ J, k ≤ j ∧ j < n) →
  l * Dt (I.map A) J = l ^ I.length * Dt ((List.range k).map R ++ I.map R) (List.range k ++ J)
theorem swN_lt {p k x : Nat} (h : x < k) (hp : k ≤ p) : swN p k x = x := by unfold swN; rw [if_neg (by omega), if_neg (by omega)]
theorem Bar.swap {n k p : Nat} {l : Int} {A R : Nat → Nat → Int} (h : Bar n k l A R) (h1 : k ≤ p) (h2 : p < n) : Bar n k l (swapF A p k) (swapF R p k) := by
  intro I J hl hI hJ
  have := h (I.map (swN p k)) J (by simpa using hl) (fun i hi => by
    obtain ⟨x, hx, rfl⟩ := List.mem_map.1 hi
    have := hI x hx
    unfold swN; split <;> (try split) <;> omega) hJ
  rw [List.length_map] at this
  rw [swapF_is, swapF_is]
  rw [List.map_map, List.map_map] at this
  rw [show (List.range k).map (fun x => R (swN p k x)) = (List.range k).map R from List.map_congr_left fun x hx => by rw [swN_lt (List.mem_range.1 hx) h1]]
  exact this
theorem range_split {n k p : Nat} (h1 : k < p) (h2 : p < n) : List.range n = List.range k ++ k :: (List.range' (k + 1) (p - k - 1) ++ p :: List.range' (p + 1) (n - p - 1)) := by
  have e1 : k :: (List.range' (k + 1) (p - k - 1) ++ p :: List.range' (p + 1) (n - p - 1)) = List.range' k (n - k) := by
    have a1 : p :: List.range' (p + 1) (n - p - 1) = List.range' p (n - p) := by
      rw [show n - p = (n - p - 1) + 1 by omega]; rfl
    have a2 : List.range' (k + 1) (p - k - 1) ++ List.range' p (n - p) = List.range' (k + 1) (n - k - 1) := by
      have := List.range'_append_1 (s := k + 1) (m := p - k - 1) (n := n - p)
      rw [show k + 1 + (p - k - 1) = p by omega] at this
      rw [this]; congr 1; omega
    rw [a1, a2, show n - k = (n - k - 1) + 1 by omega]; rfl
  rw [e1, List.range_eq_range', List.range_eq_range']
  have := List.range'_append_1 (s := 0) (m := k) (n := n - k)
  rw [Nat.zero_add] at this
  rw [this]; congr 1; omega
theorem Dt_rows_swap {n k p : Nat} (R : Nat → Nat → Int) (h1 : k < p) (h2 : p < n) (J : List Nat) : Dt ((List.range n).map (swapF R p k)) J = -Dt ((List.range n).map R) J := by
  rw [range_split h1 h2]
  simp only [List.map_append, List.map_cons]
  rw [Dt_swap2, swapF_is]
  congr 2
  have e1 : (List.range k).map (fun x => R (swN p k x)) = (List.range k).map R := List.map_congr_left fun x hx => by rw [swN_lt (List.mem_range.1 hx) (by omega)]
  have e2 : (List.range' (k + 1) (p - k - 1)).map (fun x => R (swN p k x)) = (List.range' (k + 1) (p - k - 1)).map R := List.map_congr_left fun x hx => by
    have := List.mem_range'_1.1 hx
    unfold swN; rw [if_neg (by omega), if_neg (by omega)]
  have e3 : (List.range' (p + 1) (n - p - 1)).map (fun x => R (swN p k x)) = (List.range' (p + 1) (n - p - 1)).map R := List.map_congr_left fun x hx => by
    have := List.mem_range'_1.1 hx
    unfold swN; rw [if_neg (by omega), if_neg (by omega)]
  have e4 : swN p k k = p := by unfold swN; rw [if_pos rfl]
  have e5 : swN p k p = k := by unfold swN; rw [if_neg (by omega), if_pos rfl]
  rw [e1, e2, e3]
  show _ ++ R (swN p k p) :: (_ ++ R (swN p k k) :: _) = _
  rw [e4, e5]
theorem mul_small {a b c : Int} (ha : a.natAbs ≤ 479001600) (hb : b.natAbs ≤ 479001600) (hc : a * b = c) : c.natAbs ≤ 229442532802560000 := by
  subst hc
  rw [Int.natAbs_mul]
  exact Nat.mul_le_mul ha hb
theorem bq_exact {a b c d l x : Int} (ha : a.natAbs ≤ 479001600) (hb : b.natAbs ≤ 479001600) (hc : c.natAbs ≤ 479001600) (hd : d.natAbs ≤ 479001600) (hx : x.natAbs ≤ 479001600) (hl : l ≠ 0) (h : a * b - c * d = l * x) : bq a b c d l = x := by
  have h1 := mul_small ha hb rfl
  have h2 := mul_small hc hd rfl
  unfold bq
  rw [wr_in (a * b) (by omega), wr_in (c * d) (by omega), wr_in (a * b - c * d) (by omega), h, Int.mul_tdiv_cancel_left _ hl, wr_in x (by omega)]
section
variable {n k : Nat} {l : Int} {A R : Nat → Nat → Int}
theorem minor_le (hR : ∀ i j, i < n → j < n → (R i j).natAbs ≤ 1) (hn : n ≤ 12) {I J : List Nat} (hI : ∀ i ∈ I, i < n) (hJ : ∀ j ∈ J, j < n) (hJl : J.length ≤ n) : (Dt (I.map R) J).natAbs ≤ 479001600 := by
  refine Nat.le_trans (Dt_abs _ _ fun a ha x hx => ?_) (fac12 (by omega))
  obtain ⟨i, hi, rfl⟩ := List.mem_map.1 ha
  exact hR i x (hI i hi) (hJ x hx)
theorem Bar.one (h : Bar n k l A R) (hl : l ≠ 0) {i j : Nat} (hi : k ≤ i ∧ i < n) (hj : k ≤ j ∧ j < n) : A i j = Dt ((List.range k ++ [i]).map R) (List.range k ++ [j]) := by
  have := h [i] [j] rfl (by simpa using hi) (by simpa using hj)
  simp only [List.map_cons, List.map_nil, Dt, sels, sm_cons, sm_nil, List.length_cons, List.length_nil, Nat.zero_add, Int.pow_one, Int.one_mul, Int.mul_one, Int.add_zero] at this
  rw [List.map_append]
  exact Int.eq_of_mul_eq_mul_left hl this
theorem Bar.small (h : Bar n k l A R) (hl : l ≠ 0) (hR : ∀ i j, i < n → j < n → (R i j).natAbs ≤ 1) (hn : n ≤ 12) {i j : Nat} (hi : k ≤ i ∧ i < n) (hj : k ≤ j ∧ j < n) : (A i j).natAbs ≤ 479001600 := by
  rw [h.one hl hi hj]
  refine minor_le hR hn (fun x hx => ?_) (fun x hx => ?_) (by simp; omega)
  · simp only [List.mem_append, List.mem_range, List.mem_singleton] at hx; omega
  · simp only [List.mem_append, List.mem_range, List.mem_singleton] at hx; omega
theorem Bar.step (h : Bar n k l A R) (hl : l ≠ 0) (hR : ∀ i j, i < n → j < n → (R i j).natAbs ≤ 1) (hn : n ≤ 12) (hk : k < n) (_ : A k k ≠ 0) : Bar n (k + 1) (A k k) (stepF A k l) R := by
  have hex : ∀ i j, k + 1 ≤ i ∧ i < n → k + 1 ≤ j ∧ j < n → A k k * A i j + (-A i k) * A k j = l * stepF A k l i j := by
    intro i j hi hj
    have h2 := h [k, i] [k, j] rfl (by simp; omega) (by simp; omega)
    simp only [List.map_cons, List.map_nil, List.length_cons, List.length_nil, Nat.zero_add] at h2
    have e2 : l ^ (1 + 1) = l * l := by rw [Int.pow_succ, Int.pow_one]
    rw [e2, Int.mul_assoc] at h2
    have h3 := Int.eq_of_mul_eq_mul_left hl h2
    have hM : ((Dt ((List.range k ++ [k, i]).map R) (List.range k ++ [k, j]))).natAbs ≤ 479001600 := by
      refine minor_le hR hn (fun x hx => ?_) (fun x hx => ?_) (by simp; omega)
      · simp only [List.mem_append, List.mem_range, List.mem_cons, List.not_mem_nil, or_false] at hx; omega
      · simp only [List.mem_append, List.mem_range, List.mem_cons, List.not_mem_nil, or_false] at hx; omega
    rw [List.map_append] at hM
    simp only [List.map_cons, List.map_nil] at hM
    have h4 : Dt [A k, A i] [k, j] = A k k * A i j - A k j * A i k := by
      simp [Dt, sels]; rw [Int.sub_eq_add_neg, Int.neg_mul]
    rw [h4] at h3
    have h5 : stepF A k l i j = Dt (List.map R (List.range k) ++ [R k, R i]) (List.range k ++ [k, j]) := by
      unfold stepF
      refine bq_exact (h.small hl hR hn ?_ ?_) (h.small hl hR hn ?_ ?_) (h.small hl hR hn ?_ ?_) (h.small hl hR hn ?_ ?_) hM hl ?_ <;> (try omega)
      rw [← h3, Int.mul_comm (A i j), Int.mul_comm (A i k)]
    rw [h5, ← h3, Int.neg_mul, Int.mul_comm (A i k)]; omega
  intro I J hIJ hI hJ
  have h1 := h (k :: I) (k :: J) (by simpa using hIJ) (by simp; exact ⟨hk, fun i hi => by have := hI i hi; omega⟩) (by simp; exact ⟨hk, fun i hi => by have := hJ i hi; omega⟩)
  have h2 := Dt_elim (A k) (A k k) (fun i => -A i k) A I [] (k :: J)
  rw [Dt_col0 (A k) _ k J (fun b hb => by
    simp only [List.nil_append, List.mem_map] at hb
    obtain ⟨i, _, rfl⟩ := hb
    show A k k * A i k + -A i k * A k k = 0
    rw [Int.neg_mul, Int.mul_comm]; omega)] at h2
  have h3 : Dt (I.map fun i j => A k k * A i j + -A i k * A k j) J = l ^ I.length * Dt (I.map (stepF A k l)) J := by
    have e := Dt_scale l (I.map (stepF A k l)) J
    rw [List.length_map, List.map_map] at e
    rw [← e]
    refine Dt_congr (by simp) fun m a b x hx => ?_
    simp only [List.getElem_map, Function.comp]
    exact hex _ x (hI _ (List.getElem_mem _)) (hJ x hx)
  simp only [List.nil_append] at h2
  rw [h3] at h2
  simp only [List.map_cons, List.length_cons, Int.pow_succ] at h1
  rw [Int.mul_comm (l ^ _) l, Int.mul_assoc] at h1
  have h4 := Int.eq_of_mul_eq_mul_left hl h1
  rw [h4] at h2
  have hlm : l ^ I.length ≠ 0 := Int.pow_ne_zero hl
  have h5 : l ^ I.length * (A k k * Dt (I.map (stepF A k l)) J) = l ^ I.length * (A k k ^ I.length * Dt (List.map R (List.range k) ++ R k :: List.map R I) (List.range k ++ k :: J)) := by
    rw [Int.mul_left_comm, h2, Int.mul_left_comm]
  have h6 := Int.eq_of_mul_eq_mul_left hlm h5
  rw [h6, List.range_succ, List.map_append]
  simp only [List.append_assoc, List.map_cons, List.map_nil, List.cons_append, List.nil_append]
end
theorem detF_exact {n : Nat} (hn : n ≤ 12) : ∀ (f k : Nat) (A R : Nat → Nat → Int) (s l : Int), f + k = n → l ≠ 0 → (s = 1 ∨ s = -1) → (∀ i j, i < n → j < n → (R i j).natAbs ≤ 1) → Bar n k l A R →
    detF f k A s l = s * Dt ((List.range n).map R) (List.range n)
  | 0, k, A, R, s, l, hk, hl, hs, hR, hB => by
    have e : k = n := by omega
    subst e
    have h0 := hB [] [] rfl (by simp) (by simp)
    simp only [List.map_nil, List.append_nil, Dt, List.length_nil, Int.pow_zero, Int.mul_one, Int.one_mul] at h0
    have hb := minor_le (R := R) hR hn (I := List.range k) (J := List.range k) (fun x hx => List.mem_range.1 hx) (fun x hx => List.mem_range.1 hx) (by simp)
    rw [← h0] at hb ⊢
    rw [detF]
    rcases hs with rfl | rfl
    · exact wr_in _ (by omega)
    · exact wr_in _ (by omega)
  | f + 1, k, A, R, s, l, hk, hl, hs, hR, hB => by
    rw [detF]
    cases hp : piv A k (f + 1) k with
    | none =>
      have hz : ∀ f m, piv A k f m = none → ∀ i, m ≤ i → i < m + f → A i k = 0 := by
        intro f
        induction f with
        | zero => intro m _ i _ _; omega
        | succ f ih =>
          intro m h i h1 h2
          rw [piv] at h
          split at h
          · simp at h
          · rename_i h3
            by_cases e : i = m
            · subst e; simpa using h3
            · exact ih (m + 1) h i (by omega) (by omega)
      have hz := hz _ _ hp
      have h1 := hB (List.range' k (f + 1)) (List.range' k (f + 1)) rfl (fun i hi => by have := List.mem_range'_1.1 hi; omega) (fun i hi => by have := List.mem_range'_1.1 hi; omega)
      have h2 : Dt ((List.range' k (f + 1)).map A) (List.range' k (f + 1)) = 0 := by
        refine Dt_none _ k _ fun b hb => ?_
        obtain ⟨i, hi, rfl⟩ := List.mem_map.1 hb
        have := List.mem_range'_1.1 hi
        exact hz i (by omega) (by omega)
      have e : List.range k ++ List.range' k (f + 1) = List.range n := by
        rw [List.range_eq_range', List.range_eq_range']
        have := List.range'_append_1 (s := 0) (m := k) (n := f + 1)
        rw [Nat.zero_add] at this
        rw [this]; congr 1; omega
      rw [h2, Int.mul_zero, ← List.map_append, e] at h1
      have h3 := (Int.mul_eq_zero.1 h1.symm).resolve_left (Int.pow_ne_zero hl)
      rw [h3, Int.mul_zero]
    | some p =>
      obtain ⟨⟨p1, p2⟩, p3⟩ := piv_spec hp
      have hB' := hB.swap p1 (by omega : p < n)
      have hR' : ∀ i j, i < n → j < n → (swapF R p k i j).natAbs ≤ 1 := fun i j hi hj => by
        rw [swapF_is]
        refine hR _ j ?_ hj
        unfold swN; split <;> (try split) <;> omega
      have hpp : swapF A p k k k = A p k := by unfold swapF; rw [if_pos rfl]
      have hS := hB'.step hl hR' hn (by omega) (by rw [hpp]; exact p3)
      rw [hpp] at hS
      have ih := detF_exact hn f (k + 1) (stepF (swapF A p k) k l) (swapF R p k) (if p = k then s else wrap64 (-s)) (A p k) (by omega) p3 (by
        split
        · exact hs
        · rcases hs with rfl | rfl
          · exact .inr (wr_in _ (by omega))
          · exact .inl (wr_in _ (by omega))) hR' hS
      simp only
      rw [ih]
      by_cases e : p = k
      · subst e
        rw [if_pos rfl]
        congr 3
        rw [swapF_is]
        funext x
        unfold swN
        split
        · rename_i h; rw [h]
        · rfl
      · rw [if_neg e, Dt_rows_swap R (by omega) (by omega)]
        rcases hs with rfl | rfl
        · rw [wr_in _ (by omega), Int.neg_mul_neg]
        · rw [wr_in _ (by omega), Int.neg_mul_neg]
theorem detM_exact {M : List (List Int)} (hn : M.length ≤ 12) (hR : ∀ i j, i < M.length → j < M.length → (ent M i j).natAbs ≤ 1) : detM M = Dt ((List.range M.length).map (ent M)) (List.range M.length) := by
  unfold detM
  rw [detF_exact hn M.length 0 (ent M) (ent M) 1 1 rfl (by omega) (.inl rfl) hR (by
    intro I J _ _ _
    simp [Int.one_pow]), Int.one_mul]
end Domi

/- Determinants turn with rows: plain. -/
set_option linter.unusedVariables false
namespace Domi
open Go Go.RowKit

theorem matB_mk {n : Nat} {M : List (List Int)} (h : SqM n M) (hn : n ≤ 12) (he : ∀ i j, i < n → j < n → -1 ≤ ent M i j ∧ ent M i j ≤ 1) : matB M = true := by
  rw [matB_good fun k hk => rowB_good (by rw [h.1] at hk ⊢; exact h.2 k hk) fun j hj => by
    rw [h.1] at hk
    rw [h.2 k hk] at hj
    exact inB_iff.2 (he k j hk hj)]
  rw [h.1]; exact decide_eq_true hn
theorem detR_lap {n : Nat} {M : List (List Int)} (h : matB M = true) (hn : M.length = n) : detR M = Dt ((List.range n).map (ent M)) (List.range n) := by
  subst hn
  obtain ⟨h1, h2, h3⟩ := matB_sq h
  rw [detR_yes h, detM_exact h2 fun i j hi hj => by have := h3 i j hi hj; omega]
theorem rows_congr {n : Nat} {A B : Nat → Nat → Int} (h : ∀ i j, i < n → j < n → A i j = B i j) : Dt ((List.range n).map A) (List.range n) = Dt ((List.range n).map B) (List.range n) := by
  refine Dt_congr (by simp) fun k h1 h2 x hx => ?_
  simp only [List.getElem_map, List.getElem_range]
  rw [List.length_map, List.length_range] at h1
  exact h k x h1 (List.mem_range.1 hx)
theorem detR_bd {M : List (List Int)} : -479001600 ≤ detR M ∧ detR M ≤ 479001600 := by
  cases h : matB M
  · rw [detR_no h]; omega
  · rw [detR_lap h rfl]
    obtain ⟨h1, h2, h3⟩ := matB_sq h
    have := minor_le (R := ent M) (n := M.length) (fun i j hi hj => by have := h3 i j hi hj; omega) h2 (I := List.range M.length) (J := List.range M.length) (fun i hi => List.mem_range.1 hi) (fun i hi => List.mem_range.1 hi) (by simp)
    omega
section
variable {M : List (List Int)} {k : Nat}
/-- One row in another's place. -/
theorem ent_row {n : Nat} (h : SqM n M) {i : Nat} (hi : i < n) (row : List Int) (a b : Nat) : ent (M.set i row) a b = if i = a then row.getD b 0 else ent M a b := by
  unfold ent
  rw [getD_set _ _ _ _ _ (by rw [h.1]; exact hi)]
  split <;> rfl
theorem sq_row {n : Nat} (h : SqM n M) {i : Nat} (hi : i < n) {row : List Int} (hr : row.length = n) : SqM n (M.set i row) := by
  refine ⟨by simpa using h.1, fun a ha => ?_⟩
  rw [getD_set _ _ _ _ _ (by rw [h.1]; exact hi)]
  split
  · exact hr
  · exact h.2 a ha
theorem detR_twice (h : matB M = true) (h1 : 0 < k) (h2 : k < M.length) : detR (M.set (k - 1) (M.getD k [])) = 0 := by
  obtain ⟨sq, hn, he⟩ := matB_sq h
  obtain ⟨n, hnn⟩ : ∃ n, M.length = n := ⟨_, rfl⟩
  rw [hnn] at sq hn he h2
  have hs := sq_row sq (i := k - 1) (by omega) (sq.2 k h2)
  have hen := fun a b => ent_row sq (i := k - 1) (by omega) (M.getD k []) a b
  rw [detR_lap (n := n) (matB_mk hs hn fun i j hi hj => by
    rw [hen]; split
    · exact he k j h2 hj
    · exact he i j hi hj) hs.1]
  rw [range_split (show k - 1 < k by omega) h2]
  have e : ent (M.set (k - 1) (M.getD k [])) (k - 1) = ent (M.set (k - 1) (M.getD k [])) k := by
    funext b
    rw [hen, hen, if_pos rfl, if_neg (by omega)]; rfl
  simp only [List.map_append, List.map_cons]
  rw [e]
  exact Dt_eq2 _ _ _ _ _
theorem detR_flip (h : matB M = true) (h1 : 0 < k) (h2 : k < M.length) : detR ((M.set (k - 1) (M.getD k [])).set k (M.getD (k - 1) [])) = -detR M := by
  obtain ⟨sq, hn, he⟩ := matB_sq h
  obtain ⟨n, hnn⟩ : ∃ n, M.length = n := ⟨_, rfl⟩
  rw [hnn] at sq hn he h2
  have hs := sq_row sq (i := k - 1) (by omega) (sq.2 k h2)
  have hs2 := sq_row hs (i := k) h2 (sq.2 (k - 1) (by omega))
  have hen : ∀ a b, ent ((M.set (k - 1) (M.getD k [])).set k (M.getD (k - 1) [])) a b = swapF (ent M) k (k - 1) a b := fun a b => by
    rw [ent_row hs h2, ent_row sq (i := k - 1) (by omega)]
    unfold swapF
    by_cases e1 : k = a
    · subst e1; rw [if_pos rfl, if_neg (by omega), if_pos rfl]; rfl
    · rw [if_neg e1]
      by_cases e2 : k - 1 = a
      · rw [if_pos e2, if_pos e2.symm]; rfl
      · rw [if_neg e2, if_neg (fun e => e2 e.symm), if_neg (fun e => e1 e.symm)]
  rw [detR_lap (n := n) (matB_mk hs2 hn fun i j hi hj => by
    rw [hen]; unfold swapF
    split
    · exact he k j h2 hj
    · split
      · exact he (k - 1) j (by omega) hj
      · exact he i j hi hj) hs2.1, detR_lap h hnn]
  rw [← Dt_rows_swap (ent M) (show k - 1 < k by omega) h2]
  exact rows_congr fun i j _ _ => hen i j
/-- Rows as columns. -/
def turnM (M : List (List Int)) (n : Nat) : List (List Int) := (List.range n).map fun k => (List.range n).map fun j => ent M j k
theorem turnM_length (M : List (List Int)) (n : Nat) : (turnM M n).length = n := by simp [turnM]
theorem turnM_ent (M : List (List Int)) {n i j : Nat} (hi : i < n) (hj : j < n) : ent (turnM M n) i j = ent M j i := by
  unfold turnM ent
  simp [List.getD_eq_getElem?_getD, hi, hj]
theorem turnM_sq (M : List (List Int)) (n : Nat) : SqM n (turnM M n) := by
  refine ⟨turnM_length M n, fun i hi => ?_⟩
  unfold turnM
  simp [List.getD_eq_getElem?_getD, hi]
theorem detR_turn (h : matB M = true) : detR (turnM M M.length) = detR M := by
  obtain ⟨sq, hn, he⟩ := matB_sq h
  obtain ⟨n, hnn⟩ : ∃ n, M.length = n := ⟨_, rfl⟩
  rw [hnn] at sq hn he ⊢
  rw [detR_lap (n := n) (matB_mk (turnM_sq M n) hn fun i j hi hj => by rw [turnM_ent M hi hj]; exact he j i hj hi) (turnM_length M n), detR_lap h hnn]
  rw [rows_congr (B := fun i j => ent M j i) fun i j hi hj => turnM_ent M hi hj]
  exact (Dt_turn (ent M) (List.range n) (List.range n)).symm
end
end Domi

/- Determinants of two kinds of cells, by the first cell: plain. -/
set_option linter.unusedVariables false
namespace Domi
open Go Go.RowKit

/-- A sign by parity. -/
def sg (n : Nat) : Int := if n % 2 = 0 then 1 else -1
theorem sg_add (a b : Nat) : sg (a + b) = sg a * sg b := by
  unfold sg
  rcases Nat.mod_two_eq_zero_or_one a with h | h <;> rcases Nat.mod_two_eq_zero_or_one b with g | g
  · rw [if_pos h, if_pos g, if_pos (by omega)]; rfl
  · rw [if_pos h, if_neg (by omega), if_neg (by omega)]; rfl
  · rw [if_neg (by omega), if_pos g, if_neg (by omega)]; rfl
  · rw [if_pos (show (a + b) % 2 = 0 by omega), if_neg (show ¬ a % 2 = 0 by omega), if_neg (show ¬ b % 2 = 0 by omega)]; rfl
theorem sg_sq (a : Nat) : sg a * sg a = 1 := by unfold sg; split <;> rfl
theorem sg_mod {a b : Nat} (h : a % 2 = b % 2) : sg a = sg b := by unfold sg; rw [h]
theorem sg_succ (a : Nat) : sg (a + 1) = -sg a := by rw [sg_add, show sg 1 = -1 from rfl]; omega
theorem sg_two (a : Nat) : sg a = 1 ∨ sg a = -1 := by unfold sg; split <;> simp
/-- How many of a kind. -/
def cn (p : Nat → Bool) (A : List Nat) : Nat := (A.filter p).length
theorem cn_cons (p : Nat → Bool) (x : Nat) (A : List Nat) : cn p (x :: A) = cn p A + if p x then 1 else 0 := by
  unfold cn
  cases h : p x
  · rw [List.filter_cons_of_neg (by rw [h]; decide)]; rfl
  · rw [List.filter_cons_of_pos h]; rfl
theorem cn_app (p : Nat → Bool) (A B : List Nat) : cn p (A ++ B) = cn p A + cn p B := by simp [cn]
theorem cn_two (p : Nat → Bool) (A : List Nat) : cn p A + cn (fun k => !p k) A = A.length := by
  induction A with
  | nil => rfl
  | cons x A ih => rw [cn_cons, cn_cons, List.length_cons]; cases p x <;> simp <;> omega
/-- The ways to take one of a kind out of a list. -/
def selp (p : Nat → Bool) : List Nat → List (Int × Nat × List Nat)
  | [] => []
  | x :: S => if p x then (1, x, S) :: (selp p S).map (fun t => (-t.1, t.2.1, x :: t.2.2)) else (selp p S).map fun t => (t.1, t.2.1, x :: t.2.2)
theorem selp_yes {p : Nat → Bool} {x : Nat} (h : p x = true) (S : List Nat) : selp p (x :: S) = (1, x, S) :: (selp p S).map (fun t => (-t.1, t.2.1, x :: t.2.2)) := by rw [selp, if_pos h]
theorem selp_no {p : Nat → Bool} {x : Nat} (h : p x = false) (S : List Nat) : selp p (x :: S) = (selp p S).map fun t => (t.1, t.2.1, x :: t.2.2) := by rw [selp, if_neg (by rw [h]; decide)]
theorem sels_filter (p : Nat → Bool) : ∀ S : List Nat, sels (S.filter p) = (selp p S).map fun t => (t.1, t.2.1, t.2.2.filter p)
  | [] => rfl
  | x :: S => by
    cases h : p x
    · rw [List.filter_cons_of_neg (by rw [h]; decide), selp_no h, sels_filter p S, List.map_map]
      refine List.map_congr_left fun t _ => ?_
      simp only [Function.comp]
      rw [List.filter_cons_of_neg (by rw [h]; decide)]
    · rw [List.filter_cons_of_pos h, selp_yes h, sels, sels_filter p S, List.map_cons, List.map_map, List.map_map]
      congr 1
      refine List.map_congr_left fun t _ => ?_
      simp only [Function.comp]
      rw [List.filter_cons_of_pos h]
theorem selp_is (p : Nat → Bool) : ∀ {S : List Nat} {t : Int × Nat × List Nat}, t ∈ selp p S → ∃ A B, S = A ++ t.2.1 :: B ∧ t.2.2 = A ++ B ∧ p t.2.1 = true ∧ t.1 = sg (cn p A)
  | [], t, h => by simp [selp] at h
  | x :: S, t, h => by
    cases hp : p x
    · rw [selp_no hp, List.mem_map] at h
      obtain ⟨u, hu, rfl⟩ := h
      obtain ⟨A, B, e1, e2, e3, e4⟩ := selp_is p hu
      refine ⟨x :: A, B, by rw [e1]; rfl, by rw [e2]; rfl, e3, ?_⟩
      rw [cn_cons, hp]; exact e4
    · rw [selp_yes hp, List.mem_cons, List.mem_map] at h
      rcases h with rfl | ⟨u, hu, rfl⟩
      · exact ⟨[], S, rfl, rfl, hp, rfl⟩
      · obtain ⟨A, B, e1, e2, e3, e4⟩ := selp_is p hu
        refine ⟨x :: A, B, by rw [e1]; rfl, by rw [e2]; rfl, e3, ?_⟩
        rw [cn_cons, hp, if_pos rfl, sg_succ, ← e4]
theorem selp_other {p q : Nat → Bool} (h : ∀ x, p x = true → q x = false) {S : List Nat} {t : Int × Nat × List Nat} (ht : t ∈ selp p S) : t.2.2.filter q = S.filter q := by
  obtain ⟨A, B, e1, e2, e3, _⟩ := selp_is p ht
  rw [e2, e1, List.filter_append, List.filter_append, List.filter_cons_of_neg (by rw [h _ e3]; decide)]
/-- The determinant of the dark rows and the light columns of a list of cells. -/
def Dc (ent : Nat → Nat → Int) (dk : Nat → Bool) (S : List Nat) : Int := Dt ((S.filter dk).map ent) (S.filter fun k => !dk k)
def sy (ent : Nat → Nat → Int) (dk : Nat → Bool) (c m : Nat) : Int := if dk c then ent c m else ent m c
section
variable (ent : Nat → Nat → Int) (dk : Nat → Bool)
theorem Dc_first (c : Nat) (S : List Nat) : Dc ent dk (c :: S) = sm (selp (fun x => dk x != dk c) S) fun t => t.1 * sy ent dk c t.2.1 * Dc ent dk t.2.2 := by
  cases hc : dk c
  · have e : (fun x => dk x != false) = dk := by funext x; cases dk x <;> rfl
    rw [e]
    unfold Dc
    rw [List.filter_cons_of_neg (by rw [hc]; decide), List.filter_cons_of_pos (by rw [hc]; rfl), Dt_col, selG_map, sm_map, sels_filter, sm_map]
    refine sm_congr fun t ht => ?_
    rw [selp_other (q := fun k => !dk k) (fun x hx => by rw [hx]; rfl) ht]
    simp only [sy, hc]
    rfl
  · have e : (fun x => dk x != true) = fun k => !dk k := by funext x; cases dk x <;> rfl
    rw [e]
    unfold Dc
    rw [List.filter_cons_of_pos hc, List.filter_cons_of_neg (by rw [hc]; decide), List.map_cons, Dt, sels_filter, sm_map]
    refine sm_congr fun t ht => ?_
    rw [selp_other (q := dk) (fun x hx => by simpa using hx) ht]
    simp only [sy, hc]
    rfl
end
/-- Sums over what can be taken, where only two matter. -/
def selT (p : Nat → Bool) (S : List Nat) (F : Int × Nat × List Nat → Int) (m : Nat) : Int := if m ∈ S ∧ p m = true then F (sg (cn p (S.takeWhile fun x => x != m)), m, S.erase m) else 0
theorem selT_out {p : Nat → Bool} {S : List Nat} {F : Int × Nat × List Nat → Int} {m : Nat} (h : m ∉ S) : selT p S F m = 0 := by unfold selT; rw [if_neg (fun e => h e.1)]
theorem selT_head {p : Nat → Bool} {S : List Nat} {F : Int × Nat × List Nat → Int} {x : Nat} : selT p (x :: S) F x = if p x then F (1, x, S) else 0 := by
  unfold selT
  by_cases h : p x = true
  · rw [if_pos ⟨by simp, h⟩, if_pos h]
    simp [cn, sg]
  · rw [if_neg (fun e => h e.2), if_neg h]
theorem selT_tail {p : Nat → Bool} {S : List Nat} {F : Int × Nat × List Nat → Int} {x m : Nat} (h : x ≠ m) : selT p (x :: S) F m = selT p S (fun t => F (if p x then -t.1 else t.1, t.2.1, x :: t.2.2)) m := by
  unfold selT
  by_cases hm : m ∈ S ∧ p m = true
  · rw [if_pos ⟨by simp [hm.1], hm.2⟩, if_pos hm]
    rw [List.takeWhile_cons_of_pos (by simpa using h), cn_cons, List.erase_cons_tail (by simpa using h)]
    cases p x
    · rfl
    · simp only [if_true, sg_succ]
  · rw [if_neg (fun e => hm ⟨by
      have := e.1
      rw [List.mem_cons] at this
      rcases this with e | e
      · exact absurd e.symm h
      · exact e, e.2⟩), if_neg hm]
theorem sm_selp (p : Nat → Bool) {m1 m2 : Nat} (hm : m1 ≠ m2) : ∀ (S : List Nat) (F : Int × Nat × List Nat → Int), S.Nodup → (∀ t ∈ selp p S, t.2.1 ≠ m1 → t.2.1 ≠ m2 → F t = 0) → sm (selp p S) F = selT p S F m1 + selT p S F m2
  | [], F, _, _ => by simp [selp, selT]
  | x :: S, F, hn, h => by
    rw [List.nodup_cons] at hn
    have step : sm (selp p (x :: S)) F = (if p x then F (1, x, S) else 0) + sm (selp p S) fun t => F (if p x then -t.1 else t.1, t.2.1, x :: t.2.2) := by
      cases hp : p x
      · rw [selp_no hp, sm_map]; simp
      · rw [selp_yes hp, sm_cons, sm_map]; simp
    have ih := sm_selp p hm S (fun t => F (if p x then -t.1 else t.1, t.2.1, x :: t.2.2)) hn.2 fun t ht h1 h2 => by
      refine h _ ?_ h1 h2
      cases hp : p x
      · rw [selp_no hp, List.mem_map]; exact ⟨t, ht, by simp⟩
      · rw [selp_yes hp, List.mem_cons, List.mem_map]; exact .inr ⟨t, ht, by simp⟩
    rw [step, ih]
    by_cases e1 : x = m1
    · subst e1
      rw [selT_head, selT_tail hm, selT_out (m := x) hn.1]; omega
    · by_cases e2 : x = m2
      · subst e2
        rw [selT_head, selT_tail e1, selT_out (m := x) hn.1]; omega
      · rw [selT_tail e1, selT_tail e2]
        have : (if p x = true then F (1, x, S) else 0) = 0 := by
          split
          · rename_i hp
            exact h _ (by rw [selp_yes hp]; simp) e1 e2
          · rfl
        rw [this]; omega
/-- The cells of a list before one of it, and behind. -/
theorem take_erase {S : List Nat} {m : Nat} (h : m ∈ S) : ∃ B, S = (S.takeWhile fun x => x != m) ++ m :: B ∧ S.erase m = (S.takeWhile fun x => x != m) ++ B := by
  induction S with
  | nil => simp at h
  | cons x S ih =>
    by_cases e : x = m
    · subst e; exact ⟨S, by simp, by simp⟩
    · obtain ⟨B, h1, h2⟩ := ih (by simpa [Ne.symm e] using h)
      refine ⟨B, ?_, ?_⟩
      · rw [List.takeWhile_cons_of_pos (by simpa using e)]
        exact congrArg (x :: ·) h1
      · rw [List.takeWhile_cons_of_pos (by simpa using e), List.erase_cons_tail (by simpa using e), h2]; rfl
/-- The places of the dark cells. -/
def pR (dk : Nat → Bool) : List Nat → Nat
  | [] => 0
  | _ :: S => pR dk S + cn dk S
theorem pR_take (dk : Nat → Bool) (m : Nat) (B : List Nat) : ∀ A : List Nat, pR dk (A ++ m :: B) = pR dk (A ++ B) + (if dk m then A.length else 0) + cn dk B
  | [] => by simp [pR]
  | a :: A => by
    have ih := pR_take dk m B A
    simp only [List.cons_append, pR, ih, cn_app, cn_cons, List.length_cons]
    cases dk m <;> simp <;> omega
section
variable (ent : Nat → Nat → Int) (dk : Nat → Bool)
def Vc (S : List Nat) : Int := sg (pR dk S) * Dc ent dk S
def Vt (c : Nat) (S : List Nat) (m : Nat) : Int := if m ∈ S ∧ (dk m != dk c) = true then sg ((S.takeWhile fun x => x != m).length + if dk c then 0 else 1) * sy ent dk c m * Vc ent dk (S.erase m) else 0
theorem Vc_first {c m1 m2 : Nat} {S : List Nat} (hm : m1 ≠ m2) (hn : S.Nodup) (h : ∀ m ∈ S, m ≠ m1 → m ≠ m2 → sy ent dk c m = 0) : Vc ent dk (c :: S) = Vt ent dk c S m1 + Vt ent dk c S m2 := by
  have key : ∀ m, sg (pR dk (c :: S)) * selT (fun x => dk x != dk c) S (fun t => t.1 * sy ent dk c t.2.1 * Dc ent dk t.2.2) m = Vt ent dk c S m := by
    intro m
    unfold selT Vt
    by_cases hc : m ∈ S ∧ (dk m != dk c) = true
    · rw [if_pos hc, if_pos hc]
      obtain ⟨B, h1, h2⟩ := take_erase hc.1
      obtain ⟨A, hA⟩ : ∃ A, (S.takeWhile fun x => x != m) = A := ⟨_, rfl⟩
      rw [hA] at h1 h2 ⊢
      rw [h2]
      have hp : sg (pR dk (c :: S)) * sg (cn (fun x => dk x != dk c) A) = sg (A.length + if dk c then 0 else 1) * sg (pR dk (A ++ B)) := by
        rw [← sg_add, ← sg_add]
        refine sg_mod ?_
        rw [pR, h1, pR_take, cn_app, cn_cons]
        have h3 := cn_two dk A
        have hmc := hc.2
        cases hcc : dk c
        · have hmm : dk m = true := by rw [hcc] at hmc; simpa using hmc
          have e : (fun x => dk x != false) = dk := by funext x; cases dk x <;> rfl
          rw [e, hmm]; simp; omega
        · have hmm : dk m = false := by rw [hcc] at hmc; simpa using hmc
          have e : (fun x => dk x != true) = fun k => !dk k := by funext x; cases dk x <;> rfl
          rw [e, hmm]; simp; omega
      unfold Vc
      have : ∀ a b c d e : Int, a * (b * c * d) = a * b * c * d := fun a b c d e => by simp only [Int.mul_assoc]
      rw [this _ _ _ _ 0, hp]
      simp only [Int.mul_assoc, Int.mul_comm, Int.mul_left_comm]
    · rw [if_neg hc, if_neg hc, Int.mul_zero]
  rw [← key, ← key, ← Int.mul_add]
  unfold Vc
  rw [Dc_first, sm_selp _ hm S _ hn]
  intro t ht h1 h2
  obtain ⟨A, B, e1, _⟩ := selp_is _ ht
  rw [h t.2.1 (by rw [e1]; simp) h1 h2]
  simp
end
end Domi

/- The determinant of the matrix of signs is a sum over the tilings, each with a sign: plain. -/
set_option linter.unusedVariables false
namespace Domi
open Go Go.RowKit

theorem step1 (r : Reg) (c : Int) : stepI r c 1 = if c % r.wide < r.wide - 1 then c + 1 else -1 := by unfold stepI; simp
theorem step2 (r : Reg) (c : Int) : stepI r c 2 = if c / r.wide < r.tall - 1 then c + r.wide else -1 := by unfold stepI; simp
theorem step3 (r : Reg) (c : Int) : stepI r c 3 = if 0 < c % r.wide then c - 1 else -1 := by unfold stepI; simp
theorem step4 (r : Reg) (c : Int) : stepI r c 4 = if 0 < c / r.wide then c - r.wide else -1 := by unfold stepI; simp
theorem up_take {S : List Nat} (hs : S.Pairwise (· < ·)) {m : Nat} (h : m ∈ S) : (S.takeWhile fun x => x != m) = S.filter fun x => decide (x < m) := by
  induction S with
  | nil => simp at h
  | cons x S ih =>
    rw [List.pairwise_cons] at hs
    by_cases e : x = m
    · subst e
      rw [List.takeWhile_cons_of_neg (by simp), List.filter_cons_of_neg (by simp)]
      symm
      rw [List.filter_eq_nil_iff]
      intro y hy
      have := hs.1 y hy
      simp; omega
    · have hm : m ∈ S := by simpa [Ne.symm e] using h
      have := hs.1 m hm
      rw [List.takeWhile_cons_of_pos (by simpa using e), List.filter_cons_of_pos (by simpa using this), ih hs.2 hm]
section
variable {r : Reg} {L : List Int}
/-- The cells without a domino, and those behind a cell. -/
def opS (r : Reg) (L : List Int) : List Nat := (List.range L.length).filter (openB r L)
def opA (r : Reg) (L : List Int) (c : Nat) : List Nat := (List.range L.length).filter fun k => openB r L k && decide (c < k)
theorem opA_up (r : Reg) (L : List Int) (c : Nat) : (opA r L c).Pairwise (· < ·) := List.Pairwise.filter _ List.pairwise_lt_range
theorem opA_nodup (r : Reg) (L : List Int) (c : Nat) : (opA r L c).Nodup := (opA_up r L c).imp fun h => by omega
theorem mem_opA {c k : Nat} : k ∈ opA r L c ↔ k < L.length ∧ openB r L k = true ∧ c < k := by
  unfold opA; simp only [List.mem_filter, List.mem_range, Bool.and_eq_true, decide_eq_true_eq]
theorem range_cut {n c : Nat} (h : c < n) : List.range n = List.range c ++ c :: List.range' (c + 1) (n - c - 1) := by
  have e1 : c :: List.range' (c + 1) (n - c - 1) = List.range' c (n - c) := by
    rw [show n - c = (n - c - 1) + 1 by omega]; rfl
  rw [e1, List.range_eq_range', List.range_eq_range']
  have := List.range'_append_1 (s := 0) (m := c) (n := n - c)
  rw [Nat.zero_add] at this
  rw [this]; congr 1; omega
theorem op_first {c : Nat} (h : firstN r L = some c) : opS r L = c :: opA r L c := by
  obtain ⟨h1, h2, h3⟩ := firstN_is h
  unfold opS opA
  rw [range_cut h1, List.filter_append, List.filter_append, List.filter_cons_of_pos h2, List.filter_cons_of_neg (by simp)]
  have e1 : (List.range c).filter (openB r L) = [] := by
    rw [List.filter_eq_nil_iff]
    intro k hk
    rw [h3 k (List.mem_range.1 hk)]; decide
  have e2 : (List.range c).filter (fun k => openB r L k && decide (c < k)) = [] := by
    rw [List.filter_eq_nil_iff]
    intro k hk
    rw [h3 k (List.mem_range.1 hk), Bool.false_and]; decide
  rw [e1, e2, List.nil_append, List.nil_append]
  congr 1
  refine List.filter_congr fun k hk => ?_
  rw [List.mem_range'_1] at hk
  rw [decide_eq_true (by omega : c < k), Bool.and_true]
theorem op_none (h : firstN r L = none) : opS r L = [] := by
  unfold opS
  rw [List.filter_eq_nil_iff]
  intro k hk
  rw [firstN_no h k (List.mem_range.1 hk)]; decide
theorem op_lay {c t : Nat} {way : Int} (h : firstN r L = some c) (F : FreeAt r L c t way) : opS r (layL r L c way) = (opA r L c).erase t := by
  obtain ⟨h1, h2, h3⟩ := firstN_is h
  rw [(opA_nodup r L c).erase_eq_filter]
  unfold opS opA
  rw [List.filter_filter, layL_len]
  refine List.filter_congr fun k hk => ?_
  have hb := (backI_way F.hway).1
  have hw := F.hway
  unfold openB
  rw [layL_get F]
  by_cases e1 : t = k
  · subst e1
    rw [if_pos rfl, decide_eq_false (by omega : ¬ backI way = 0)]; simp
  · rw [if_neg e1]
    have e1' : (k != t) = true := by simpa using fun e => e1 e.symm
    by_cases e2 : c = k
    · subst e2
      rw [if_pos rfl, decide_eq_false (by omega : ¬ way = 0)]; simp
    · rw [if_neg e2, e1']
      by_cases e3 : c < k
      · rw [decide_eq_true e3]; simp
      · have := h3 k (by omega)
        unfold openB at this
        rw [this]; rfl
/-- The numbers of the matrix, by cells. -/
def entR (r : Reg) (a b : Nat) : Int := sgnTo r a b 4
def dkR (r : Reg) (k : Nat) : Bool := darkB r.wide k
def ltN (r : Reg) (k : Nat) : Nat := if dkR r k then 0 else 1
def colN (r : Reg) (k : Nat) : Nat := ((k : Int) % r.wide).toNat
theorem sgn_val (hw : 1 ≤ r.wide) {a b way : Int} (h1 : 1 ≤ way) (h4 : way ≤ 4) (hb : 0 ≤ b) (h : stepI r a way = b) : sgnTo r a b 4 = sgnV r a way.toNat := by
  have z : ((0 : Nat) : Int) + 1 = 1 := rfl
  have o : ((1 : Nat) : Int) + 1 = 2 := rfl
  have t : ((2 : Nat) : Int) + 1 = 3 := rfl
  have q : ((3 : Nat) : Int) + 1 = 4 := rfl
  have m1 := Int.emod_nonneg a (b := r.wide) (by omega)
  have m2 := Int.emod_lt_of_pos a (b := r.wide) (by omega)
  have hc : way = 1 ∨ way = 2 ∨ way = 3 ∨ way = 4 := by omega
  simp only [sgnTo, z, o, t, q]
  rw [step1, step2, step3, step4]
  rcases hc with rfl | rfl | rfl | rfl
  · rw [step1] at h
    split at h
    · rw [if_neg (by split <;> omega), if_neg (by split <;> omega), if_neg (by split <;> omega), if_pos (by rw [if_pos (by omega)]; omega)]; rfl
    · omega
  · rw [step2] at h
    split at h
    · rw [if_neg (by split <;> omega), if_neg (by split <;> omega), if_pos (by rw [if_pos (by omega)]; omega)]; rfl
    · omega
  · rw [step3] at h
    split at h
    · rw [if_neg (by split <;> omega), if_pos (by rw [if_pos (by omega)]; omega)]; rfl
    · omega
  · rw [step4] at h
    split at h
    · rw [if_pos (by rw [if_pos (by omega)]; omega)]; rfl
    · omega
/-- Between two cells that don't lie side by side. -/
theorem sy_far {c m : Nat} (hcm : c < m) (h1 : m ≠ c + 1) (h2 : (m : Int) ≠ c + r.wide) (hw : 1 ≤ r.wide) : sy (entR r) (dkR r) c m = 0 := by
  have key : ∀ a b : Nat, (∀ way : Int, 1 ≤ way → way ≤ 4 → stepI r a way ≠ b) → entR r a b = 0 := fun a b h => by
    unfold entR
    refine Classical.byContradiction fun hn => ?_
    rcases (sgn_nz r a b).1 hn with e | e | e | e
    · exact h 1 (by omega) (by omega) e
    · exact h 2 (by omega) (by omega) e
    · exact h 3 (by omega) (by omega) e
    · exact h 4 (by omega) (by omega) e
  have four : ∀ way : Int, 1 ≤ way → way ≤ 4 → way = 1 ∨ way = 2 ∨ way = 3 ∨ way = 4 := fun way _ _ => by omega
  unfold sy
  split
  · refine key _ _ fun way a b => ?_
    rcases four way a b with rfl | rfl | rfl | rfl
    · rw [step1]; split <;> omega
    · rw [step2]; split <;> omega
    · rw [step3]; split <;> omega
    · rw [step4]; split <;> omega
  · refine key _ _ fun way a b => ?_
    rcases four way a b with rfl | rfl | rfl | rfl
    · rw [step1]; split <;> omega
    · rw [step2]; split <;> omega
    · rw [step3]; split <;> omega
    · rw [step4]; split <;> omega
theorem sy_edge {c : Nat} (hw : 2 ≤ r.wide) (hc : 0 ≤ (c : Int)) (h : stepI r c 1 = -1) : sy (entR r) (dkR r) c (c + 1) = 0 := by
  have m1 := Int.emod_nonneg (c : Int) (b := r.wide) (by omega)
  have m2 := Int.emod_lt_of_pos (c : Int) (b := r.wide) (by omega)
  have hx : (c : Int) % r.wide = r.wide - 1 := by
    rw [step1] at h
    split at h <;> omega
  have hx2 : ((c + 1 : Nat) : Int) % r.wide = 0 := by
    have : ((c + 1 : Nat) : Int) = (c : Int) / r.wide * r.wide + r.wide := by
      have := Int.mul_ediv_add_emod (c : Int) r.wide
      rw [Int.mul_comm]
      push_cast
      omega
    rw [this, Int.add_emod_right, Int.mul_emod_left]
  unfold sy entR
  split
  · refine Classical.byContradiction fun hn => ?_
    rcases (sgn_nz r c (c + 1 : Nat)).1 hn with e | e | e | e
    · rw [h] at e; omega
    · rw [step2] at e; split at e <;> omega
    · rw [step3] at e; split at e <;> omega
    · rw [step4] at e; split at e <;> omega
  · refine Classical.byContradiction fun hn => ?_
    rcases (sgn_nz r (c + 1 : Nat) c).1 hn with e | e | e | e
    · rw [step1] at e; split at e <;> omega
    · rw [step2] at e; split at e <;> omega
    · rw [step3, hx2] at e; simp at e
    · rw [step4] at e; split at e <;> omega
theorem sgnV_is (a : Nat) (hw : 1 ≤ r.wide) (m : Nat) : sgnV r a m = sg (if m = 2 ∨ m = 4 then colN r a else 0) := by
  have m1 := Int.emod_nonneg (a : Int) (b := r.wide) (by omega)
  unfold sgnV colN
  by_cases h : m = 2 ∨ m = 4
  · rw [if_pos h]
    unfold sg
    by_cases h2 : (a : Int) % r.wide % 2 = 1
    · rw [if_pos ⟨h, h2⟩, if_neg (by omega)]
    · rw [if_neg (fun e => h2 e.2), if_pos (by omega)]
  · rw [if_neg h, if_neg (fun e => h e.1)]; rfl
theorem sy_near (hw : 1 ≤ r.wide) {c t : Nat} {way : Int} (h12 : way = 1 ∨ way = 2) (h : stepI r c way = t) (hb : stepI r t (backI way) = c) : sy (entR r) (dkR r) c t = sg (if way = 2 then colN r c else 0) := by
  unfold sy entR
  rcases h12 with rfl | rfl
  · rw [sgn_val hw (way := 1) (by omega) (by omega) (by omega) h, sgn_val hw (way := backI 1) (by decide) (by decide) (by omega) hb, sgnV_is _ hw, sgnV_is _ hw]
    simp [backI]
  · have hcol : colN r t = colN r c := by unfold colN; rw [step_south (.inl rfl) (by omega) h]
    rw [sgn_val hw (way := 2) (by omega) (by omega) (by omega) h, sgn_val hw (way := backI 2) (by decide) (by decide) (by omega) hb, sgnV_is _ hw, sgnV_is _ hw, hcol]
    simp [backI]
/-- The cells of the region before a cell. -/
noncomputable def rkN (r : Reg) (m : Nat) : Nat := num m (fun k => r.f k = true)
/-- Each domino begins before every cell without one. -/
def Low (r : Reg) (L : List Int) : Prop := ∀ k j, (L.getD k 0 = 1 ∨ L.getD k 0 = 2) → openB r L j = true → k < j
theorem Low.bare (hv : r.valid = true) : Low r (bareL r) := fun k j h => by
  have : (bareL r).getD k 0 = 0 := by
    rw [bareL_yes hv]
    simp only [List.getD_eq_getElem?_getD, List.getElem?_replicate]; split <;> rfl
  rw [this] at h; omega
theorem Low.lay (hl : Low r L) {c t : Nat} {way : Int} (h : firstN r L = some c) (h12 : way = 1 ∨ way = 2) (F : FreeAt r L c t way) : Low r (layL r L c way) := fun k j hk hj => by
  obtain ⟨h1, h2, h3⟩ := firstN_is h
  have hb := (backI_way F.hway).1
  obtain ⟨a, b⟩ := openB_iff.1 hj
  rw [layL_get F] at b
  have hjo : openB r L j = true ∧ c ≠ j := by
    split at b
    · omega
    · split at b
      · omega
      · exact ⟨openB_iff.2 ⟨a, b⟩, by assumption⟩
  rw [layL_get F] at hk
  split at hk
  · unfold backI at hk; omega
  · split at hk
    · rename_i e
      subst e
      by_cases g : c < j
      · exact g
      · have := h3 j (by omega)
        rw [hjo.1] at this; cases this
    · exact hl k j hk hjo.1
theorem opA_take (c : Nat) {m : Nat} (hm : m ∈ opA r L c) : ((opA r L c).takeWhile fun x => x != m).length = num L.length (fun k => openB r L k = true ∧ c < k ∧ k < m) := by
  rw [up_take (opA_up r L c) hm]
  unfold opA
  rw [num_filter2]
  refine num_congr fun k _ => ?_
  simp only [Bool.and_eq_true, decide_eq_true_eq, and_assoc]
theorem rk_odd (hL : laidOk r L = true) (hl : Low r L) {c t : Nat} (h : firstN r L = some c) (F : FreeAt r L c t 2) : (num L.length (fun k => openB r L k = true ∧ c < k ∧ k < t)) % 2 = (rkN r t + 1) % 2 := by
  obtain ⟨h1, h2, h3⟩ := firstN_is h
  obtain ⟨v1, v2, v3, _⟩ := Reg.valid_iff.1 (laidOk_iff.1 hL).1
  have htw := laid_twice hL
  rw [wayN_num _ rfl, wayN_num _ rfl] at htw
  have hct : (t : Int) = c + r.wide := by
    have := F.hst
    rw [step2] at this
    split at this <;> omega
  have hlen := (laidOk_iff.1 hL).2.1
  have e1 : rkN r t = num L.length (fun k => r.f k = true ∧ k < t) := by
    unfold rkN
    refine Nat.le_antisymm ?_ ?_
    · exact num_inj (fun k => k) (fun k hk hq => ⟨by have := F.ht; omega, hq, hk⟩) (fun k j _ _ _ _ e => e)
    · exact num_inj (fun k => k) (fun k hk hq => ⟨hq.2, hq.1⟩) (fun k j _ _ _ _ e => e)
  have e2 : num L.length (fun k => r.f k = true ∧ k < t) = num L.length (fun k => (openB r L k = true ∧ c < k ∧ k < t) ∨ k = c) + num L.length (fun k => isSome (L.getD k 0) = true) := by
    rw [← num_or]
    · refine num_congr fun k hk => ?_
      constructor
      · rintro ⟨a, b⟩
        by_cases h0 : L.getD k 0 = 0
        · left
          have ho := openB_iff.2 ⟨a, h0⟩
          by_cases e : k = c
          · exact .inr e
          · refine .inl ⟨ho, ?_, b⟩
            by_cases g : c < k
            · exact g
            · have := h3 k (by omega)
              rw [ho] at this; cases this
        · right; unfold isSome; simpa using h0
      · rintro ((⟨a, b, e⟩ | rfl) | a)
        · exact ⟨(openB_iff.1 a).1, e⟩
        · exact ⟨F.fc, by omega⟩
        · have h0 : L.getD k 0 ≠ 0 := by unfold isSome at a; simpa using a
          have A := laidOk_at hL hk h0
          refine ⟨A.here, ?_⟩
          have hd := A.dest.1
          have hb := A.back
          have hway := A.way
          have hc : L.getD k 0 = 1 ∨ L.getD k 0 = 2 ∨ L.getD k 0 = 3 ∨ L.getD k 0 = 4 := by omega
          rcases hc with e | e | e | e
          · have := hl k c (.inl e) h2; omega
          · have := hl k c (.inr e) h2; omega
          · rw [e] at hd hb
            rw [step3] at hd hb
            split at hd
            · rename_i g
              rw [if_pos g] at hb
              have := hl _ c (.inl hb) h2
              omega
            · omega
          · rw [e] at hd hb
            rw [step4] at hd hb
            split at hd
            · rename_i g
              rw [if_pos g] at hb
              have := hl _ c (.inr hb) h2
              omega
            · omega
    · rintro k hk (⟨a, _⟩ | rfl) b
      · have := (openB_iff.1 a).2
        unfold isSome at b
        rw [this] at b; cases b
      · have := F.oc
        unfold isSome at b
        rw [this] at b; cases b
  have e3 : num L.length (fun k => (openB r L k = true ∧ c < k ∧ k < t) ∨ k = c) = num L.length (fun k => openB r L k = true ∧ c < k ∧ k < t) + 1 := by
    rw [num_or, num_one h1]
    rintro k _ ⟨_, a, _⟩ rfl; omega
  omega
/-- The weight of a domino, and of a list. -/
noncomputable def eD (r : Reg) (k : Nat) (x : Int) : Nat := if x = 1 then ltN r k else if x = 2 then ltN r k + (rkN r (k + r.wide.toNat) + 1) + colN r k else 0
noncomputable def eS (r : Reg) (L : List Int) : Nat → Nat
  | 0 => 0
  | n + 1 => eS r L n + eD r n (L.getD n 0)
theorem eS_same {M : List Int} {n : Nat} (h : ∀ k, k < n → eD r k (M.getD k 0) = eD r k (L.getD k 0)) : eS r M n = eS r L n := by
  induction n with
  | zero => rfl
  | succ n ih => rw [eS, eS, ih fun k hk => h k (by omega), h n (by omega)]
theorem eS_one {M : List Int} {c d : Nat} (hd : eD r c (M.getD c 0) = eD r c (L.getD c 0) + d) : ∀ {n : Nat}, c < n → (∀ k, k < n → k ≠ c → eD r k (M.getD k 0) = eD r k (L.getD k 0)) → eS r M n = eS r L n + d
  | 0, h, _ => by omega
  | n + 1, h, g => by
    rw [eS, eS]
    by_cases e : n = c
    · subst e
      rw [eS_same fun k hk => g k (by omega) (by omega), hd]; omega
    · rw [eS_one hd (n := n) (by omega) fun k hk he => g k (by omega) he, g n (by omega) e]; omega
theorem eS_lay {c t : Nat} {way : Int} (h12 : way = 1 ∨ way = 2) (F : FreeAt r L c t way) : eS r (layL r L c way) L.length = eS r L L.length + eD r c way := by
  have hb : eD r t (backI way) = 0 := by
    rcases h12 with rfl | rfl
    · simp [backI, eD]
    · simp [backI, eD]
  have hz : ∀ k, eD r k 0 = 0 := fun k => by simp [eD]
  refine eS_one (c := c) ?_ F.hc fun k hk he => ?_
  · rw [layL_get F, if_neg (fun e => F.hne e.symm), if_pos rfl, F.oc, hz]; omega
  · rw [layL_get F]
    by_cases e : t = k
    · subst e; rw [if_pos rfl, hb, F.ot, hz]
    · rw [if_neg e, if_neg (fun e => he e.symm)]
/-- What a direction yields. -/
theorem Vt_way (hL : laidOk r L = true) (hl : Low r L) {c : Nat} {way : Int} (h12 : way = 1 ∨ way = 2) (h1w : way = 1 → r.wide ≠ 1) (h : firstN r L = some c) {m : Nat} (hm : way = 1 ∧ m = c + 1 ∨ way = 2 ∧ (m : Int) = c + r.wide) :
    Vt (entR r) (dkR r) c (opA r L c) m = if free r L c way then sg (eD r c way) * Vc (entR r) (dkR r) (opS r (layL r L c way)) else 0 := by
  obtain ⟨h1, h2, h3⟩ := firstN_is h
  obtain ⟨v1, v2, v3, _⟩ := Reg.valid_iff.1 (laidOk_iff.1 hL).1
  have hlen := (laidOk_iff.1 hL).2.1
  obtain ⟨hfc, h0c⟩ := openB_iff.1 h2
  have hw : 1 ≤ r.wide := v1.1
  unfold Vt
  cases hf : free r L c way
  · rw [if_neg (by decide : ¬ false = true)]
    split
    · rename_i hc
      have hmo := mem_opA.1 hc.1
      obtain ⟨hfm, h0m⟩ := openB_iff.1 hmo.2.1
      have hst : stepI r c way = -1 := by
        rcases hm with ⟨rfl, e⟩ | ⟨rfl, e⟩
        · rw [step1]
          split
          · rename_i g
            have : free r L c 1 = true := free_iff.2 ⟨by omega, by rw [step1, if_pos g]; omega, by rw [Int.toNat_natCast]; exact hfc, by rw [step1, if_pos g, show ((c : Int) + 1).toNat = m by omega]; exact hfm, by rw [Int.toNat_natCast]; exact h0c, by rw [step1, if_pos g, show ((c : Int) + 1).toNat = m by omega]; exact h0m⟩
            rw [this] at hf; cases hf
          · rfl
        · rw [step2]
          split
          · rename_i g
            have : free r L c 2 = true := free_iff.2 ⟨by omega, by rw [step2, if_pos g]; omega, by rw [Int.toNat_natCast]; exact hfc, by rw [step2, if_pos g, show ((c : Int) + r.wide).toNat = m by omega]; exact hfm, by rw [Int.toNat_natCast]; exact h0c, by rw [step2, if_pos g, show ((c : Int) + r.wide).toNat = m by omega]; exact h0m⟩
            rw [this] at hf; cases hf
          · rfl
      have hz : sy (entR r) (dkR r) c m = 0 := by
        rcases hm with ⟨rfl, e⟩ | ⟨rfl, e⟩
        · subst e
          exact sy_edge (by have := h1w rfl; omega) (by omega) hst
        · exfalso
          obtain ⟨a1, a2, a3, a4, a5⟩ := cell_xy (r := r) (c := (c : Int)) hw (by omega) (by omega)
          rw [step2] at hst
          split at hst
          · omega
          · have e3 : (c : Int) / r.wide = r.tall - 1 := by omega
            rw [e3, Int.sub_mul, Int.mul_comm r.tall] at a5
            have := hmo.1
            omega
      rw [hz]; simp
    · rfl
  · obtain ⟨t, F⟩ := free_at hL hf
    have htm : t = m := by
      have := F.hst
      rcases hm with ⟨rfl, e⟩ | ⟨rfl, e⟩
      · rw [step1] at this; split at this <;> omega
      · rw [step2] at this; split at this <;> omega
    subst htm
    have hmem : t ∈ opA r L c := mem_opA.2 ⟨F.ht, openB_iff.2 ⟨F.ft, F.ot⟩, by rcases hm with ⟨_, e⟩ | ⟨_, e⟩ <;> omega⟩
    have hdk : (dkR r t != dkR r c) = true := by
      have := dark_step (r := r) hw (c := (c : Int)) (way := way) (by rw [F.hst]; omega)
      rw [F.hst] at this
      unfold dkR
      rw [this]
      cases darkB r.wide c <;> rfl
    rw [if_pos ⟨hmem, hdk⟩, if_pos rfl, opA_take c hmem, sy_near hw h12 F.hst F.hback, ← sg_add, op_lay h F]
    congr 1
    refine sg_mod ?_
    have hlt : (if dkR r c = true then 0 else 1) = ltN r c := rfl
    rw [hlt]
    rcases hm with ⟨rfl, e⟩ | ⟨rfl, e⟩
    · rw [num_none (fun k _ ⟨_, a, b⟩ => by omega)]
      simp [eD]
    · have := rk_odd hL hl h F
      have ht : t = c + r.wide.toNat := by omega
      have e2 : eD r c 2 = ltN r c + (rkN r t + 1) + colN r c := by rw [ht]; simp [eD]
      rw [e2, if_pos rfl]
      omega
theorem V_sum : ∀ (m : Nat) (L : List Int), laidOk r L = true → Low r L → openN r L < m → sg (eS r L L.length) * Vc (entR r) (dkR r) (opS r L) = sm (tils m r L) fun T => sg (eS r T T.length)
  | 0, L, _, _, h => by omega
  | m + 1, L, hL, hl, hm => by
    obtain ⟨v1, v2, v3, _⟩ := Reg.valid_iff.1 (laidOk_iff.1 hL).1
    have hlen := (laidOk_iff.1 hL).2.1
    cases hf : firstN r L with
    | none =>
      rw [tils_done hf, op_none hf]
      simp [Vc, Dc, Dt, pR, sg]
    | some c =>
      obtain ⟨h1, h2, h3⟩ := firstN_is hf
      have way : ∀ x : Int, x = 1 ∨ x = 2 → sg (eS r L L.length) * (if free r L c x then sg (eD r c x) * Vc (entR r) (dkR r) (opS r (layL r L c x)) else 0) = sm (if free r L c x = true then tils m r (layL r L c x) else []) fun T => sg (eS r T T.length) := by
        intro x h12
        cases hfr : free r L c x
        · simp
        · rw [if_pos rfl, if_pos rfl]
          obtain ⟨t, F⟩ := free_at hL hfr
          rw [← V_sum m _ (lay_ok hL hfr) (hl.lay hf h12 F) (by have := openN_lay hL hfr; omega), layL_len, eS_lay h12 F, sg_add]
          simp only [Int.mul_assoc]
      rw [tils_some hf, sm_append, ← way 1 (.inl rfl), ← way 2 (.inr rfl), ← Int.mul_add, op_first hf]
      congr 1
      by_cases hw1 : r.wide = 1
      · have e0 : free r L c 1 = false := by
          cases e : free r L c 1
          · rfl
          · have := (free_iff.1 e).2.1
            rw [step1, hw1] at this
            split at this <;> omega
        have hout : L.length + 1 ∉ opA r L c := fun e => by have := (mem_opA.1 e).1; omega
        rw [Vc_first (entR r) (dkR r) (m1 := L.length + 1) (m2 := c + 1) (by omega) (opA_nodup r L c) (fun k hk a b => sy_far (mem_opA.1 hk).2.2 b (by rw [hw1]; omega) v1.1)]
        rw [Vt_way hL hl (.inr rfl) (fun e => by omega) hf (m := c + 1) (.inr ⟨rfl, by rw [hw1]; omega⟩), e0]
        congr 1
        unfold Vt
        rw [if_neg (fun e => hout e.1)]; rfl
      · rw [Vc_first (entR r) (dkR r) (m1 := c + 1) (m2 := c + r.wide.toNat) (by omega) (opA_nodup r L c) (fun k hk a b => sy_far (mem_opA.1 hk).2.2 a (by omega) v1.1)]
        rw [Vt_way hL hl (.inl rfl) (fun _ => hw1) hf (m := c + 1) (.inl ⟨rfl, rfl⟩), Vt_way hL hl (.inr rfl) (fun e => by omega) hf (m := c + r.wide.toNat) (.inr ⟨rfl, by omega⟩)]
end
end Domi

/- Two tilings of a region without holes have the same sign: plain. -/
set_option linter.unusedVariables false
namespace Domi
open Go Go.RowKit

/-! ### sums by parts, but for even numbers -/
theorem ev_mul {a : Int} (h : a % 2 = 0) (b : Int) : a * b % 2 = 0 := by
  rw [Int.mul_emod, h]; simp
theorem sum_even {f g : Nat → Int} : ∀ {n : Nat}, (∀ k, k < n → (f k - g k) % 2 = 0) → (sumI f n - sumI g n) % 2 = 0
  | 0, _ => rfl
  | n + 1, h => by
    have h1 := sum_even (n := n) fun k hk => h k (by omega)
    have h2 := h n (by omega)
    rw [sumI, sumI]; omega
theorem sum_part (g : Nat → Int) : ∀ {n m : Nat}, m ≤ n → sumI (fun k => if k < m then g k else 0) n = sumI g m
  | 0, m, h => by
    obtain rfl : m = 0 := (by omega)
    rfl
  | n + 1, m, h => by
    rw [sumI]
    by_cases e : m = n + 1
    · subst e
      rw [if_pos (by omega), sumI]
      congr 1
      exact sumI_congr fun k hk => if_pos (by omega)
    · rw [if_neg (by omega), sum_part g (by omega)]; omega
theorem sum_shift (g : Nat → Int) (W : Nat) : ∀ m : Nat, sumI (fun k => if W ≤ k then g (k - W) else 0) (m + W) = sumI g m
  | 0 => by
    rw [Nat.zero_add]
    have : sumI (fun k => if W ≤ k then g (k - W) else 0) W = sumI (fun _ => 0) W := sumI_congr fun k hk => if_neg (by omega)
    rw [this]
    have z : ∀ n, sumI (fun _ => 0) n = 0 := fun n => by
      induction n with
      | zero => rfl
      | succ n ih => rw [sumI, ih]; rfl
    rw [z]; rfl
  | m + 1 => by
    rw [show m + 1 + W = (m + W) + 1 by omega, sumI, sum_shift g W m, sumI, if_pos (by omega), show m + W - W = m by omega]
theorem sum_by {W n : Nat} {h c u : Nat → Int} (hn : W ≤ n) (h1 : ∀ k, k < n → (h k - (c k + if W ≤ k then c (k - W) else 0)) % 2 = 0) (h2 : ∀ k, k < n → n ≤ k + W → c k % 2 = 0)
    (h3 : ∀ k, k + W < n → (c k * (u k + u (k + W)) - c k) % 2 = 0) : (sumI (fun k => h k * u k) n - sumI c n) % 2 = 0 := by
  have a1 : (sumI (fun k => h k * u k) n - sumI (fun k => c k * u k + (if W ≤ k then c (k - W) * u (k - W + W) else 0)) n) % 2 = 0 := sum_even fun k hk => by
    have := ev_mul (h1 k hk) (u k)
    by_cases e : W ≤ k
    · rw [if_pos e] at this ⊢
      rw [show k - W + W = k by omega]
      rw [Int.sub_mul, Int.add_mul] at this
      exact this
    · rw [if_neg e] at this ⊢
      rw [Int.sub_mul, Int.add_mul] at this
      simpa using this
  have a2 := sum_shift (fun k => c k * u (k + W)) W (n - W)
  rw [show n - W + W = n by omega] at a2
  have a3 := sum_part (fun k => c k * u (k + W)) (n := n) (m := n - W) (by omega)
  rw [sumI_add] at a1
  have a4 : (sumI (fun k => c k * u k + if k < n - W then c k * u (k + W) else 0) n - sumI c n) % 2 = 0 := sum_even fun k hk => by
    by_cases e : k < n - W
    · rw [if_pos e, ← Int.mul_add]; exact h3 k (by omega)
    · rw [if_neg e]
      have := h2 k hk (by omega)
      have := ev_mul this (u k)
      omega
  rw [sumI_add, a3] at a4
  simp only [a2] at a1
  omega

/-! ### places and dominoes by column and row -/
section
variable {r : Reg} {T : List Int}
/-- Does a domino of T go from the cell (x, y) in this direction? -/
def tg (r : Reg) (T : List Int) (x y : Int) : Int := if r.at_ x y then T.getD (y * r.wide + x).toNat 0 else 0
theorem tg_out {x y : Int} (h : r.at_ x y = false) : tg r T x y = 0 := by unfold tg; rw [h]; rfl
theorem atd_in {x y : Int} (h : r.at_ x y = true) : 0 ≤ x ∧ x < r.wide ∧ 0 ≤ y ∧ y < r.tall ∧ r.f (y * r.wide + x).toNat = true := by
  unfold Reg.at_ at h
  simp only [Bool.and_eq_true, inB_iff] at h
  exact ⟨by omega, by omega, by omega, by omega, h.2⟩
theorem tg_in {x y : Int} (h : r.at_ x y = true) : tg r T x y = T.getD (y * r.wide + x).toNat 0 := by unfold tg; rw [if_pos h]
/-- The other end. -/
theorem tg_mate (hT : laidOk r T = true) {x y : Int} (h0 : tg r T x y ≠ 0) : (1 ≤ tg r T x y ∧ tg r T x y ≤ 4) ∧ tg r T (x + dX (tg r T x y)) (y + dY (tg r T x y)) = backI (tg r T x y) := by
  have ha : r.at_ x y = true := by
    cases h : r.at_ x y
    · exact absurd (tg_out h) h0
    · rfl
  obtain ⟨x1, x2, y1, y2, hf⟩ := atd_in ha
  have hv := (laidOk_iff.1 hT).1
  obtain ⟨v1, v2, v3, _⟩ := Reg.valid_iff.1 hv
  have hlen := (laidOk_iff.1 hT).2.1
  obtain ⟨k, hk⟩ : ∃ k, (y * r.wide + x).toNat = k := ⟨_, rfl⟩
  have hk' : (k : Int) = y * r.wide + x := by
    have : 0 ≤ y * r.wide := Int.mul_nonneg y1 (by omega)
    omega
  rw [tg_in ha, hk] at h0 ⊢
  rw [hk] at hf
  have hkl := f_lt hf
  have A := laidOk_at hT (k := k) (by omega) h0
  have hxy := xy_of (w := r.wide) (x := x) (y := y) x1 x2
  rw [← hk'] at hxy
  refine ⟨A.way, ?_⟩
  obtain ⟨way, hway⟩ : ∃ way, T.getD k 0 = way := ⟨_, rfl⟩
  have A1 := A.way
  have A2 := A.dest.1
  have A3 := A.there
  have A4 := A.back
  rw [hway] at A1 A2 A3 A4 ⊢
  have hs := stepI_xy (r := r) (c := (k : Int)) (way := way) v1.1 (by omega) (by omega) A1.1 A1.2
  rw [hxy.1, hxy.2] at hs
  rw [hs] at A2 A3 A4
  split at A2
  · rename_i hin
    rw [if_pos hin] at A3 A4
    have hat : r.at_ (x + dX way) (y + dY way) = true := by
      unfold Reg.at_
      rw [hin]
      exact A3
    rw [tg_in hat]
    exact A4
  · omega
/-- Beginnings of flat and upright dominoes. -/
def hT (r : Reg) (T : List Int) (x y : Int) : Int := if tg r T x y = 1 then 1 else 0
def vT (r : Reg) (T : List Int) (x y : Int) : Int := if tg r T x y = 2 then 1 else 0
theorem mate_h (hL : laidOk r T = true) (x y : Int) : tg r T x y = 1 ↔ tg r T (x + 1) y = 3 := by
  constructor
  · intro h
    have := (tg_mate hL (x := x) (y := y) (by omega)).2
    rw [h] at this
    simpa [dX, dY, backI] using this
  · intro h
    have := (tg_mate hL (x := x + 1) (y := y) (by omega)).2
    rw [h] at this
    simpa [dX, dY, backI, Int.add_neg_cancel_right] using this
theorem mate_v (hL : laidOk r T = true) (x y : Int) : tg r T x y = 2 ↔ tg r T x (y + 1) = 4 := by
  constructor
  · intro h
    have := (tg_mate hL (x := x) (y := y) (by omega)).2
    rw [h] at this
    simpa [dX, dY, backI] using this
  · intro h
    have := (tg_mate hL (x := x) (y := y + 1) (by omega)).2
    rw [h] at this
    simpa [dX, dY, backI, Int.add_neg_cancel_right] using this
/-- Each cell of the region belongs to one domino. -/
theorem once (hL : tilingOk r T = true) (x y : Int) : hT r T x y + hT r T (x - 1) y + vT r T x y + vT r T x (y - 1) = if r.at_ x y then 1 else 0 := by
  obtain ⟨h1, h2⟩ := tilingOk_iff.1 hL
  have e1 := mate_h h1 (x - 1) y
  have e2 := mate_v h1 x (y - 1)
  rw [Int.sub_add_cancel] at e1 e2
  unfold hT vT
  rw [ite_congr (propext e1) (fun _ => rfl) (fun _ => rfl), ite_congr (propext e2) (fun _ => rfl) (fun _ => rfl)]
  cases ha : r.at_ x y
  · rw [tg_out ha]; rfl
  · have hf := (atd_in ha).2.2.2.2
    have h0 : tg r T x y ≠ 0 := by rw [tg_in ha]; exact h2 _ (f_lt hf) hf
    have hw := (tg_mate h1 h0).1
    generalize tg r T x y = t at *
    have : t = 1 ∨ t = 2 ∨ t = 3 ∨ t = 4 := by omega
    rcases this with rfl | rfl | rfl | rfl <;> rfl
/-- The difference of two tilings, summed along a row below a corner. -/
def cC (r : Reg) (S T : List Int) (x y : Int) : Int := sumI (fun i => vT r S i (y - 1) + vT r T i (y - 1)) x.toNat
theorem vT_out {x y : Int} (h : r.at_ x y = false) : vT r T x y = 0 := by unfold vT; rw [tg_out h]; rfl
theorem hT_out {x y : Int} (h : r.at_ x y = false) : hT r T x y = 0 := by unfold hT; rw [tg_out h]; rfl
theorem at_west {x y : Int} (h : x < 0) : r.at_ x y = false := by
  cases e : r.at_ x y
  · rfl
  · have := (atd_in e).1; omega
variable {S : List Int}
theorem cC_east (x y : Int) : cC r S T (x + 1) y = cC r S T x y + (vT r S x (y - 1) + vT r T x (y - 1)) := by
  unfold cC
  by_cases hx : 0 ≤ x
  · rw [show (x + 1).toNat = x.toNat + 1 by omega, sumI, Int.toNat_of_nonneg hx]
  · rw [show (x + 1).toNat = 0 by omega, show x.toNat = 0 by omega, vT_out (at_west (by omega)), vT_out (at_west (by omega))]; rfl
theorem cC_west {x y : Int} (h : x ≤ 0) : cC r S T x y = 0 := by unfold cC; rw [show x.toNat = 0 by omega]; rfl
theorem cC_north (hS : tilingOk r S = true) (hT' : tilingOk r T = true) (y : Int) : ∀ n : Nat, (cC r S T n (y + 1) + cC r S T n y - (hT r S ((n : Int) - 1) y + hT r T ((n : Int) - 1) y)) % 2 = 0
  | 0 => by
    rw [cC_west (by omega), cC_west (by omega), hT_out (at_west (by omega)), hT_out (at_west (by omega))]; rfl
  | n + 1 => by
    have ih := cC_north hS hT' y n
    have a := once hS n y
    have b := once hT' n y
    have e1 := cC_east (r := r) (S := S) (T := T) n (y + 1)
    have e2 := cC_east (r := r) (S := S) (T := T) n y
    rw [Int.add_sub_cancel] at e1
    push_cast
    rw [Int.add_sub_cancel]
    obtain ⟨q, hq⟩ : ∃ q : Int, (if r.at_ n y = true then 1 else 0) = q := ⟨_, rfl⟩
    rw [hq] at a b
    omega
theorem cC_north' (hS : tilingOk r S = true) (hT' : tilingOk r T = true) (x y : Int) : (cC r S T (x + 1) (y + 1) + cC r S T (x + 1) y - (hT r S x y + hT r T x y)) % 2 = 0 := by
  by_cases hx : 0 ≤ x + 1
  · obtain ⟨n, hn⟩ := Int.eq_ofNat_of_zero_le hx
    have := cC_north hS hT' y n
    rw [← hn, Int.add_sub_cancel] at this
    exact this
  · rw [cC_west (by omega), cC_west (by omega), hT_out (at_west (by omega)), hT_out (at_west (by omega))]; rfl
/-- About a place that does not belong to the region all corners are alike. -/
theorem cC_free (hS : tilingOk r S = true) (hT' : tilingOk r T = true) {x y : Int} (h : r.at_ x y = false) :
    cC r S T (x + 1) y = cC r S T x y ∧ cC r S T (x + 1) (y + 1) = cC r S T x (y + 1) ∧ (cC r S T (x + 1) (y + 1) - cC r S T (x + 1) y) % 2 = 0 := by
  have z : ∀ U : List Int, laidOk r U = true → vT r U x (y - 1) = 0 := fun U hU => by
    have e2 := mate_v hU x (y - 1)
    rw [Int.sub_add_cancel, tg_out h] at e2
    unfold vT
    rw [if_neg (fun e => by have := e2.1 e; omega)]
  have h1 := (tilingOk_iff.1 hS).1
  have h2 := (tilingOk_iff.1 hT').1
  refine ⟨?_, ?_, ?_⟩
  · rw [cC_east, z S h1, z T h2]; omega
  · rw [cC_east, Int.add_sub_cancel, vT_out h, vT_out h]; omega
  · have := cC_north' hS hT' x y
    rw [hT_out h, hT_out h] at this
    omega
/-- The corner southwest of a place of the wider field. -/
def swC (r : Reg) (S T : List Int) (k : Nat) : Int := cC r S T ((k : Int) % (r.wide + 2) - 1) ((k : Int) / (r.wide + 2) - 1)
theorem fr_at {k : Nat} (h : r.fr k = true) : r.at_ ((k : Int) % (r.wide + 2) - 1) ((k : Int) / (r.wide + 2) - 1) = false := by
  unfold Reg.fr at h
  simp only [Bool.and_eq_true, Bool.not_eq_true'] at h
  exact h.2
theorem free_four (hS : tilingOk r S = true) (hT' : tilingOk r T = true) {x y : Int} (h : r.at_ x y = false) {x' y' : Int} (hx : x' = x ∨ x' = x + 1) (hy : y' = y ∨ y' = y + 1) : (cC r S T x' y' - cC r S T x y) % 2 = 0 := by
  obtain ⟨a, b, c⟩ := cC_free hS hT' h
  rcases hx with rfl | rfl <;> rcases hy with rfl | rfl <;> omega
theorem near_same (hS : tilingOk r S = true) (hT' : tilingOk r T = true) {a b : Nat} (h : E8 r a b) : (swC r S T a - swC r S T b) % 2 = 0 := by
  obtain ⟨ha, hb, hx, hy⟩ := h
  have fa := fr_at ha
  have fb := fr_at hb
  unfold swC
  generalize (a : Int) % (r.wide + 2) = ax at *
  generalize (a : Int) / (r.wide + 2) = ay at *
  generalize (b : Int) % (r.wide + 2) = bx at *
  generalize (b : Int) / (r.wide + 2) = yb at *
  obtain ⟨x, x1, x2⟩ : ∃ x, (x = ax - 1 ∨ x = ax - 1 + 1) ∧ (x = bx - 1 ∨ x = bx - 1 + 1) := by
    by_cases e : ax = bx + 1
    · exact ⟨ax - 1, .inl rfl, .inr (by omega)⟩
    · by_cases e2 : ax = bx
      · exact ⟨ax - 1, .inl rfl, .inl (by omega)⟩
      · exact ⟨ax, .inr (by omega), .inl (by omega)⟩
  obtain ⟨y, y1, y2⟩ : ∃ y, (y = ay - 1 ∨ y = ay - 1 + 1) ∧ (y = yb - 1 ∨ y = yb - 1 + 1) := by
    by_cases e : ay = yb + 1
    · exact ⟨ay - 1, .inl rfl, .inr (by omega)⟩
    · by_cases e2 : ay = yb
      · exact ⟨ay - 1, .inl rfl, .inl (by omega)⟩
      · exact ⟨ay, .inr (by omega), .inl (by omega)⟩
  have p := free_four hS hT' fa x1 y1
  have q := free_four hS hT' fb x2 y2
  omega
theorem one_root (hv : r.valid = true) (hh : r.holes ≤ 0) {k : Nat} (hk : r.fr k = true) : Conn (E8 r) k 0 := by
  obtain ⟨v1, v2, _, _⟩ := Reg.valid_iff.1 hv
  have hs : ∀ a b, E8 r a b → E8 r b a := fun a b h => h.symm
  have hl : r.fr (least (E8 r) k) = true := (least_conn (E8 r) k).stays (Q := fun j => r.fr j = true) (fun a b e _ => e.2.1) hk
  have hn : (r.n2 : Int) = (r.wide + 2) * (r.tall + 2) := n2_int v1.1 v2.1
  have hn0 : 0 < r.n2 := by have := fr_lt hk; omega
  have h0 : r.fr 0 = true := by
    unfold Reg.fr
    rw [decide_eq_true hn0, show ((0 : Nat) : Int) = 0 from rfl, Int.zero_emod, Int.zero_ediv, at_west (by omega)]; rfl
  have hz : least (E8 r) 0 = 0 := by have := least_self (E := E8 r) 0; omega
  by_cases e : least (E8 r) k = 0
  · have := least_conn (E8 r) k
    rwa [e] at this
  · exfalso
    unfold Reg.holes rootsN at hh
    have two : num 2 (fun _ => True) ≤ num r.n2 (fun j => r.fr j = true ∧ least (E8 r) j = j) := by
      refine num_inj (fun i => if i = 0 then 0 else least (E8 r) k) (fun i hi _ => ?_) (fun i j hi hj _ _ he => ?_)
      · by_cases hi0 : i = 0
        · rw [if_pos hi0]; exact ⟨hn0, h0, hz⟩
        · rw [if_neg hi0]; exact ⟨fr_lt hl, hl, least_idem hs k⟩
      · by_cases hi0 : i = 0 <;> by_cases hj0 : j = 0
        · omega
        · rw [if_pos hi0, if_neg hj0] at he; omega
        · rw [if_neg hi0, if_pos hj0] at he; omega
        · omega
    have : num 2 (fun _ => True) = 2 := by
      rw [num_succ, num_succ, num_zero]; simp
    omega
/-- Without holes the difference is even at each corner of each place outside. -/
theorem corner_even (hv : r.valid = true) (hh : r.holes ≤ 0) (hS : tilingOk r S = true) (hT' : tilingOk r T = true) {x y : Int} (h1 : -1 ≤ x ∧ x ≤ r.wide) (h2 : -1 ≤ y ∧ y ≤ r.tall) (h : r.at_ x y = false) {x' y' : Int} (hx : x' = x ∨ x' = x + 1) (hy : y' = y ∨ y' = y + 1) : cC r S T x' y' % 2 = 0 := by
  obtain ⟨v1, v2, _, _⟩ := Reg.valid_iff.1 hv
  have hn : (r.n2 : Int) = (r.wide + 2) * (r.tall + 2) := n2_int v1.1 v2.1
  obtain ⟨k, hk⟩ : ∃ k : Nat, (k : Int) = (y + 1) * (r.wide + 2) + (x + 1) := by
    have : 0 ≤ (y + 1) * (r.wide + 2) := Int.mul_nonneg (by omega) (by omega)
    exact ⟨((y + 1) * (r.wide + 2) + (x + 1)).toNat, by omega⟩
  have P : plc r (x + 1) (y + 1) k := ⟨by omega, by omega, by omega, by omega, hk⟩
  obtain ⟨k1, k2, k3⟩ := P.inv v1.1 v2.1
  have hf : r.fr k = true := by
    unfold Reg.fr
    rw [decide_eq_true k1, k2, k3, Int.add_sub_cancel, Int.add_sub_cancel, h]; rfl
  have hc := one_root hv hh hf
  have key : (swC r S T k - swC r S T 0) % 2 = 0 := by
    have gen : ∀ b, Conn (E8 r) k b → (swC r S T k - swC r S T b) % 2 = 0 := fun b hb => by
      induction hb with
      | refl => omega
      | step _ e ih => have := near_same hS hT' e; omega
    exact gen 0 hc
  have h0 : swC r S T 0 = 0 := by
    unfold swC
    rw [show ((0 : Nat) : Int) = 0 from rfl, Int.zero_emod]
    exact cC_west (by omega)
  unfold swC at key h0
  rw [k2, k3, Int.add_sub_cancel, Int.add_sub_cancel] at key
  have := free_four hS hT' h hx hy
  omega
end
end Domi

/- The determinant of the matrix of signs counts the tilings: plain. -/
set_option linter.unusedVariables false
namespace Domi
open Go Go.RowKit

section
variable {r : Reg} {S T : List Int}
theorem tg_cell (hv : r.valid = true) (hS : laidOk r S = true) {k : Nat} (hk : k < r.cells.length) : tg r S ((k : Int) % r.wide) ((k : Int) / r.wide) = S.getD k 0 := by
  obtain ⟨v1, v2, v3, _⟩ := Reg.valid_iff.1 hv
  have h := at_here hv hk
  obtain ⟨a1, a2, a3, a4, a5⟩ := cell_xy (r := r) (c := (k : Int)) v1.1 (by omega) (by omega)
  cases hf : r.f k
  · rw [hf] at h
    rw [tg_out h, laid_out hS hf]
  · rw [hf] at h
    rw [tg_in h, a5, Int.toNat_natCast]
theorem at_south {x y : Int} (h : y < 0) : r.at_ x y = false := by
  cases e : r.at_ x y
  · rfl
  · have := (atd_in e).2.2.1; omega
theorem at_north {x y : Int} (h : r.tall ≤ y) : r.at_ x y = false := by
  cases e : r.at_ x y
  · rfl
  · have := (atd_in e).2.2.2.1; omega
theorem at_east {x y : Int} (h : r.wide ≤ x) : r.at_ x y = false := by
  cases e : r.at_ x y
  · rfl
  · have := (atd_in e).2.1; omega
theorem cC_south {x y : Int} (h : y ≤ 0) : cC r S T x y = 0 := by
  unfold cC
  rw [sumI_congr (h := fun _ => 0) fun k _ => by rw [vT_out (at_south (by omega)), vT_out (at_south (by omega))]; rfl]
  generalize x.toNat = n
  induction n with
  | zero => rfl
  | succ n ih => rw [sumI, ih]; rfl
/-- The corner northeast of a cell. -/
def neC (r : Reg) (S T : List Int) (k : Nat) : Int := cC r S T ((k : Int) % r.wide + 1) ((k : Int) / r.wide + 1)
theorem eD_is (k : Nat) (x : Int) : (eD r k x : Int) = (if x = 1 then 1 else 0) * (ltN r k : Int) + (if x = 2 then 1 else 0) * ((ltN r k + (rkN r (k + r.wide.toNat) + 1) + colN r k : Nat) : Int) := by
  unfold eD
  by_cases h1 : x = 1
  · subst h1; simp
  · by_cases h2 : x = 2
    · subst h2; simp
    · simp [h1, h2]
theorem eS_sum (hv : r.valid = true) (hS : laidOk r S = true) (hT' : laidOk r T = true) : ∀ n, n ≤ r.cells.length → ((eS r S n : Int) + (eS r T n : Int)) =
    sumI (fun k => (hT r S ((k : Int) % r.wide) ((k : Int) / r.wide) + hT r T ((k : Int) % r.wide) ((k : Int) / r.wide)) * (ltN r k : Int)) n + sumI (fun k => (vT r S ((k : Int) % r.wide) ((k : Int) / r.wide) + vT r T ((k : Int) % r.wide) ((k : Int) / r.wide)) * ((ltN r k + (rkN r (k + r.wide.toNat) + 1) + colN r k : Nat) : Int)) n
  | 0, _ => rfl
  | n + 1, h => by
    have ih := eS_sum hv hS hT' n (by omega)
    rw [eS, eS, sumI, sumI]
    push_cast [eD_is] at ih ⊢
    unfold hT vT at ih ⊢
    rw [tg_cell hv hS (by omega), tg_cell hv hT' (by omega)]
    simp only [Int.add_mul]
    simp only [Int.add_mul] at ih
    omega
theorem lt_step (hv : r.valid = true) {k m : Nat} {way : Int} (h : stepI r k way = m) : (ltN r k : Int) + ltN r m = 1 := by
  obtain ⟨v1, v2, v3, _⟩ := Reg.valid_iff.1 hv
  have := dark_step (r := r) v1.1 (c := (k : Int)) (way := way) (by omega)
  rw [h] at this
  unfold ltN dkR
  rw [this]
  cases darkB r.wide k <;> rfl
/-- Without holes all tilings have the same sign. -/
theorem sign_same (hv : r.valid = true) (hh : r.holes ≤ 0) (hS : tilingOk r S = true) (hT' : tilingOk r T = true) : eS r S r.cells.length % 2 = eS r T r.cells.length % 2 := by
  obtain ⟨v1, v2, v3, _⟩ := Reg.valid_iff.1 hv
  have h1 := (tilingOk_iff.1 hS).1
  have h2 := (tilingOk_iff.1 hT').1
  have hsum := eS_sum hv h1 h2 r.cells.length (Nat.le_refl _)
  obtain ⟨W, hW⟩ : ∃ W : Nat, r.wide = W := ⟨r.wide.toNat, by omega⟩
  have hWn : r.wide.toNat = W := by omega
  have xyk : ∀ k : Nat, k < r.cells.length → 0 ≤ (k : Int) % r.wide ∧ (k : Int) % r.wide < r.wide ∧ 0 ≤ (k : Int) / r.wide ∧ (k : Int) / r.wide < r.tall ∧ (k : Int) / r.wide * r.wide + (k : Int) % r.wide = k := fun k hk => cell_xy v1.1 (by omega) (by omega)
  have hWle : W ≤ r.cells.length := by
    have : r.wide * 1 ≤ r.wide * r.tall := Int.mul_le_mul_of_nonneg_left v2.1 (by omega)
    omega
  have top : ∀ k, k < r.cells.length → r.cells.length ≤ k + W → neC r S T k % 2 = 0 := fun k hk hkW => by
    obtain ⟨a1, a2, a3, a4, a5⟩ := xyk k hk
    have hy : (k : Int) / r.wide = r.tall - 1 := by
      refine Classical.byContradiction fun hne => ?_
      have hle : (k : Int) / r.wide + 2 ≤ r.tall := by omega
      have := Int.mul_le_mul_of_nonneg_right hle (show 0 ≤ r.wide by omega)
      rw [Int.add_mul, Int.mul_comm r.tall] at this
      omega
    unfold neC
    rw [hy, Int.sub_add_cancel]
    exact corner_even hv hh hS hT' (x := (k : Int) % r.wide) (y := r.tall) (by omega) (by omega) (at_north (by omega)) (.inr rfl) (.inl rfl)
  have A := sum_by (W := W) (n := r.cells.length) (h := fun k => hT r S ((k : Int) % r.wide) ((k : Int) / r.wide) + hT r T ((k : Int) % r.wide) ((k : Int) / r.wide)) (c := neC r S T) (u := fun k => (ltN r k : Int)) hWle
    (fun k hk => by
      obtain ⟨a1, a2, a3, a4, a5⟩ := xyk k hk
      have hn := cC_north' (r := r) hS hT' ((k : Int) % r.wide) ((k : Int) / r.wide)
      by_cases e : W ≤ k
      · rw [if_pos e]
        have e1 : ((k - W : Nat) : Int) = ((k : Int) / r.wide - 1) * r.wide + (k : Int) % r.wide := by rw [Int.sub_mul]; omega
        have hxy := xy_of (w := r.wide) (x := (k : Int) % r.wide) (y := (k : Int) / r.wide - 1) a1 a2
        rw [← e1] at hxy
        have e2 : neC r S T (k - W) = cC r S T ((k : Int) % r.wide + 1) ((k : Int) / r.wide) := by
          unfold neC; rw [hxy.1, hxy.2, Int.sub_add_cancel]
        rw [e2]
        unfold neC
        omega
      · rw [if_neg e]
        have hy : (k : Int) / r.wide = 0 := Int.ediv_eq_zero_of_lt (by omega) (by omega)
        rw [hy] at hn ⊢
        rw [cC_south (y := 0) (by omega)] at hn
        unfold neC
        rw [hy]
        omega) top
    (fun k hk => by
      have hst : stepI r k 2 = ((k + W : Nat) : Int) := by
        obtain ⟨a1, a2, a3, a4, a5⟩ := xyk k (by omega)
        rw [step2, if_pos, hW]
        · push_cast; rfl
        · refine Classical.byContradiction fun hne => ?_
          have hy : (k : Int) / r.wide = r.tall - 1 := by omega
          rw [hy, Int.sub_mul, Int.mul_comm r.tall] at a5
          omega
      show (neC r S T k * ((ltN r k : Int) + ltN r (k + W)) - neC r S T k) % 2 = 0
      rw [lt_step hv hst, Int.mul_one, Int.sub_self]; rfl)
  have B := sum_by (W := 1) (n := r.cells.length) (h := fun k => vT r S ((k : Int) % r.wide) ((k : Int) / r.wide) + vT r T ((k : Int) % r.wide) ((k : Int) / r.wide)) (c := neC r S T) (u := fun k => ((ltN r k + (rkN r (k + r.wide.toNat) + 1) + colN r k : Nat) : Int)) (by omega)
    (fun k hk => by
      obtain ⟨a1, a2, a3, a4, a5⟩ := xyk k hk
      have hn := cC_east (r := r) (S := S) (T := T) ((k : Int) % r.wide) ((k : Int) / r.wide + 1)
      rw [Int.add_sub_cancel] at hn
      by_cases e : 1 ≤ k
      · rw [if_pos e]
        by_cases hx : (k : Int) % r.wide = 0
        · have e1 : ((k - 1 : Nat) : Int) = ((k : Int) / r.wide - 1) * r.wide + (r.wide - 1) := by rw [Int.sub_mul]; omega
          have hxy := xy_of (w := r.wide) (x := r.wide - 1) (y := (k : Int) / r.wide - 1) (by omega) (by omega)
          rw [← e1] at hxy
          have e2 : neC r S T (k - 1) = cC r S T r.wide ((k : Int) / r.wide) := by
            unfold neC; rw [hxy.1, hxy.2, Int.sub_add_cancel, Int.sub_add_cancel]
          have ev := corner_even hv hh hS hT' (x := r.wide) (y := (k : Int) / r.wide) (by omega) (by omega) (at_east (by omega)) (.inl rfl) (.inl rfl)
          rw [hx] at hn
          rw [cC_west (x := 0) (by omega)] at hn
          rw [e2]
          unfold neC
          rw [hx]
          omega
        · have e1 : ((k - 1 : Nat) : Int) = ((k : Int) / r.wide) * r.wide + ((k : Int) % r.wide - 1) := by omega
          have hxy := xy_of (w := r.wide) (x := (k : Int) % r.wide - 1) (y := (k : Int) / r.wide) (by omega) (by omega)
          rw [← e1] at hxy
          have e2 : neC r S T (k - 1) = cC r S T ((k : Int) % r.wide) ((k : Int) / r.wide + 1) := by
            unfold neC; rw [hxy.1, hxy.2, Int.sub_add_cancel]
          rw [e2]
          unfold neC
          omega
      · have : k = 0 := by omega
        subst this
        rw [if_neg e]
        rw [show ((0 : Nat) : Int) % r.wide = 0 from Int.zero_emod _] at hn ⊢
        rw [cC_west (x := 0) (by omega)] at hn
        unfold neC
        rw [show ((0 : Nat) : Int) % r.wide = 0 from Int.zero_emod _]
        omega) (fun k hk hk1 => top k hk (by omega))
    (fun k hk => by
      obtain ⟨a1, a2, a3, a4, a5⟩ := xyk k (by omega)
      have even : neC r S T k % 2 = 0 → (neC r S T k * (((ltN r k + (rkN r (k + r.wide.toNat) + 1) + colN r k : Nat) : Int) + ((ltN r (k + 1) + (rkN r (k + 1 + r.wide.toNat) + 1) + colN r (k + 1) : Nat) : Int)) - neC r S T k) % 2 = 0 := fun h => by
        have := ev_mul h (((ltN r k + (rkN r (k + r.wide.toNat) + 1) + colN r k : Nat) : Int) + ((ltN r (k + 1) + (rkN r (k + 1 + r.wide.toNat) + 1) + colN r (k + 1) : Nat) : Int))
        omega
      by_cases hx : (k : Int) % r.wide = r.wide - 1
      · refine even ?_
        unfold neC
        rw [hx, Int.sub_add_cancel]
        exact corner_even hv hh hS hT' (x := r.wide) (y := (k : Int) / r.wide) (by omega) (by omega) (at_east (by omega)) (.inl rfl) (.inr rfl)
      · cases ha : r.at_ ((k : Int) % r.wide) ((k : Int) / r.wide + 1)
        · refine even ?_
          exact corner_even hv hh hS hT' (x := (k : Int) % r.wide) (y := (k : Int) / r.wide + 1) (by omega) (by omega) ha (.inr rfl) (.inl rfl)
        · have hf := (atd_in ha).2.2.2.2
          have e1 : (((k : Int) / r.wide + 1) * r.wide + (k : Int) % r.wide).toNat = k + r.wide.toNat := by rw [Int.add_mul]; omega
          rw [e1] at hf
          have hrk : rkN r (k + 1 + r.wide.toNat) = rkN r (k + r.wide.toNat) + 1 := by
            rw [show k + 1 + r.wide.toNat = (k + r.wide.toNat) + 1 by omega]
            unfold rkN
            rw [num_succ, if_pos hf]
          have hst : stepI r k 1 = ((k + 1 : Nat) : Int) := by rw [step1, if_pos (by omega)]; push_cast; rfl
          have hlt := lt_step hv hst
          have hcol : (colN r (k + 1) : Int) = colN r k + 1 := by
            have e2 : ((k + 1 : Nat) : Int) = (k : Int) / r.wide * r.wide + ((k : Int) % r.wide + 1) := by push_cast; omega
            have hxy := xy_of (w := r.wide) (x := (k : Int) % r.wide + 1) (y := (k : Int) / r.wide) (by omega) (by omega)
            rw [← e2] at hxy
            unfold colN
            rw [hxy.1]; omega
          have odd : (((ltN r k + (rkN r (k + r.wide.toNat) + 1) + colN r k : Nat) : Int) + ((ltN r (k + 1) + (rkN r (k + 1 + r.wide.toNat) + 1) + colN r (k + 1) : Nat) : Int)) = 1 + 2 * ((rkN r (k + r.wide.toNat) : Int) + 2 + colN r k) := by
            rw [hrk]; push_cast; omega
          show (neC r S T k * (((ltN r k + (rkN r (k + r.wide.toNat) + 1) + colN r k : Nat) : Int) + ((ltN r (k + 1) + (rkN r (k + 1 + r.wide.toNat) + 1) + colN r (k + 1) : Nat) : Int)) - neC r S T k) % 2 = 0
          rw [odd, Int.mul_add, Int.mul_one, Int.mul_left_comm]
          omega)
  omega
end

/-! ### the determinant -/
theorem Dt_map (g : Nat → Nat) : ∀ (R : List (Nat → Int)) (J : List Nat), Dt R (J.map g) = Dt (R.map fun a x => a (g x)) J
  | [], [] => rfl
  | [], _ :: _ => rfl
  | a :: R, J => by
    rw [List.map_cons, Dt, Dt, selG_map, sm_map]
    exact sm_congr fun t _ => by rw [Dt_map g R]
section
variable {r : Reg}
theorem open_bare (hv : r.valid = true) (k : Nat) : openB r (bareL r) k = r.f k := by
  have : (bareL r).getD k 0 = 0 := by
    rw [bareL_yes hv]
    simp only [List.getD_eq_getElem?_getD, List.getElem?_replicate]; split <;> rfl
  unfold openB
  rw [decide_eq_true this, Bool.and_true]
theorem det_cells (hb : r.bal = true) : detM (signR r) = Dc (entR r) (dkR r) (opS r (bareL r)) := by
  have hv := (bal_iff.1 hb).1
  have hM := signR_mat hb
  obtain ⟨l1, _, _⟩ := lens_bal hb
  rw [← detR_yes hM, detR_lap hM (signR_length r)]
  have hlen : (bareL r).length = r.cells.length := by rw [bareL_yes hv]; simp
  obtain ⟨D, hD⟩ : ∃ D, ((List.range r.cells.length).filter fun k => r.f k && darkB r.wide k) = D := ⟨_, rfl⟩
  obtain ⟨J, hJ⟩ : ∃ J, ((List.range r.cells.length).filter fun k => r.f k && !darkB r.wide k) = J := ⟨_, rfl⟩
  have dl : darkL r = D.map fun k : Nat => (k : Int) := by unfold darkL darkTo'; rw [hD]
  have ll : lightL r = J.map fun k : Nat => (k : Int) := by unfold lightL lightTo'; rw [hJ]
  have d1 : (opS r (bareL r)).filter (dkR r) = D := by
    unfold opS
    rw [List.filter_filter, hlen, ← hD]
    refine List.filter_congr fun k _ => ?_
    rw [open_bare hv, Bool.and_comm]; rfl
  have j1 : (opS r (bareL r)).filter (fun k => !dkR r k) = J := by
    unfold opS
    rw [List.filter_filter, hlen, ← hJ]
    refine List.filter_congr fun k _ => ?_
    rw [open_bare hv, Bool.and_comm]; rfl
  unfold Dc
  rw [d1, j1]
  have hDl : (darkL r).length = D.length := by rw [dl, List.length_map]
  have hJl : J.length = D.length := by rw [← hDl, ← l1, ll, List.length_map]
  have hJr : J = (List.range D.length).map fun j => J.getD j 0 := by
    refine List.ext_getElem (by simp [hJl]) fun i h1 h2 => ?_
    simp [List.getD_eq_getElem?_getD, h1]
  conv => rhs; rw [hJr]
  rw [Dt_map, hDl]
  refine Dt_congr (by simp) fun k h1 h2 x hx => ?_
  rw [List.mem_range] at hx
  have hk : k < D.length := by simpa using h1
  simp only [List.getElem_map, List.getElem_range]
  unfold ent entR
  rw [signR_row (by rw [hDl]; exact hk)]
  have e1 : (darkL r).getD k 0 = ((D[k] : Nat) : Int) := by
    rw [dl]
    simp [List.getD_eq_getElem?_getD, hk]
  rw [e1]
  unfold rowTo
  rw [ll]
  have hxJ : x < J.length := by omega
  simp [List.getD_eq_getElem?_getD, hxJ]
theorem sm_parity {α : Type} (L : List α) (f : α → Nat) : ((L.length : Int) - sm L fun x => sg (f x)) % 2 = 0 := by
  induction L with
  | nil => rfl
  | cons x L ih =>
    rw [sm_cons, List.length_cons]
    rcases sg_two (f x) with h | h <;> rw [h] <;> push_cast <;> omega
theorem sm_one {α : Type} (L : List α) (f : α → Nat) (h : ∀ x ∈ L, ∀ y ∈ L, f x % 2 = f y % 2) : (sm L fun x => sg (f x)) = L.length ∨ (sm L fun x => sg (f x)) = -(L.length : Int) := by
  cases L with
  | nil => left; rfl
  | cons a L =>
    have key : ∀ K : List α, (∀ x ∈ K, x ∈ a :: L) → (sm K fun x => sg (f x)) = sg (f a) * K.length := by
      intro K
      induction K with
      | nil => intro _; simp
      | cons b K ih =>
        intro hK
        rw [sm_cons, ih fun x hx => hK x (by simp [hx]), sg_mod (h b (hK b (by simp)) a (by simp)), List.length_cons]
        push_cast
        rw [Int.mul_add]; omega
    rw [key _ fun x hx => hx]
    rcases sg_two (f a) with e | e <;> rw [e]
    · left; omega
    · right; omega
/-- The law of TilingsDet. -/
theorem td_law (hv : r.valid = true) : 0 ≤ tdR r ∧ tdR r ≤ manyT r ∧ (manyT r - tdR r) % 2 = 0 ∧ (r.holes ≤ 0 → tdR r = manyT r) := by
  rw [manyT_yes hv]
  cases hb : r.bal
  · have hno : tilsR r = [] := by
      cases h : tilsR r with
      | nil => rfl
      | cons T _ =>
        have hT : T ∈ tilsR r := by rw [h]; simp
        have := tiling_bal (mem_tilsR'.1 hT)
        rw [hb] at this; cases this
    rw [tdR_un hv hb, hno]
    simp
  · have hlen : ∀ T ∈ tilsR r, T.length = r.cells.length ∧ tilingOk r T = true := fun T hT => by
      have := mem_tilsR'.1 hT
      exact ⟨tiling_len this, this⟩
    have hz : eS r (bareL r) (bareL r).length = 0 := by
      have : ∀ n, eS r (bareL r) n = 0 := fun n => by
        induction n with
        | zero => rfl
        | succ n ih =>
          have e : (bareL r).getD n 0 = 0 := by
            rw [bareL_yes hv]
            simp only [List.getD_eq_getElem?_getD, List.getElem?_replicate]; split <;> rfl
          rw [eS, ih, e]; simp [eD]
      exact this _
    have hV := V_sum 40 (bareL r) (bare_laid hv) (Low.bare hv) (bare_open hv)
    rw [hz, show sg 0 = 1 from rfl, Int.one_mul, ← tilsR_yes hv] at hV
    have hD := det_cells hb
    have hbd := detR_bd (M := signR r)
    rw [detR_yes (signR_mat hb)] at hbd
    have hVD : Vc (entR r) (dkR r) (opS r (bareL r)) = detM (signR r) ∨ Vc (entR r) (dkR r) (opS r (bareL r)) = -detM (signR r) := by
      unfold Vc
      rw [← hD]
      rcases sg_two (pR (dkR r) (opS r (bareL r))) with e | e <;> rw [e]
      · left; omega
      · right; omega
    have habs := sm_abs (tilsR r) (fun T => sg (eS r T T.length)) 1 fun T _ => by
      rcases sg_two (eS r T T.length) with e | e <;> rw [e] <;> decide
    have hpar := sm_parity (tilsR r) fun T => eS r T T.length
    have hone : r.holes ≤ 0 → (sm (tilsR r) fun T => sg (eS r T T.length)) = (tilsR r).length ∨ (sm (tilsR r) fun T => sg (eS r T T.length)) = -((tilsR r).length : Int) := fun hh =>
      sm_one (tilsR r) (fun T => eS r T T.length) fun S hS T hT' => by
        obtain ⟨a, b⟩ := hlen S hS
        obtain ⟨c, d⟩ := hlen T hT'
        rw [a, c]
        exact sign_same hv hh b d
    rw [tdR_yes hb, wr_in _ (by omega)]
    obtain ⟨d, hd⟩ : ∃ d, detM (signR r) = d := ⟨_, rfl⟩
    rw [hd] at hVD ⊢
    rw [hV] at hVD
    obtain ⟨s, hs⟩ : ∃ s, (sm (tilsR r) fun T => sg (eS r T T.length)) = s := ⟨_, rfl⟩
    rw [hs] at hVD habs hpar hone
    have hmax : maxI d (-d) = d.natAbs := by
      unfold maxI; split <;> omega
    rw [hmax]
    refine ⟨by omega, by omega, by omega, fun hh => ?_⟩
    have := hone hh
    omega
end
end Domi
