/- Cells that hang together: the least one of each part, and how relaxation finds it. Plain. -/
namespace Domi

/-- b is reached from a over neighbours. -/
inductive Conn (E : Nat → Nat → Prop) : Nat → Nat → Prop
  | refl (a : Nat) : Conn E a a
  | step {a b c : Nat} : Conn E a b → E b c → Conn E a c

section
variable {E : Nat → Nat → Prop}
theorem Conn.one {a b : Nat} (h : E a b) : Conn E a b := .step (.refl a) h
theorem Conn.trans {a b c : Nat} (h : Conn E a b) (g : Conn E b c) : Conn E a c := by
  induction g with
  | refl => exact h
  | step _ e ih => exact .step ih e
theorem Conn.symm (hs : ∀ a b, E a b → E b a) {a b : Nat} (h : Conn E a b) : Conn E b a := by
  induction h with
  | refl => exact .refl _
  | step _ e ih => exact (Conn.one (hs _ _ e)).trans ih
theorem Conn.mono {F : Nat → Nat → Prop} (hs : ∀ a b, E a b → F a b) {a b : Nat} (h : Conn E a b) : Conn F a b := by
  induction h with
  | refl => exact .refl _
  | step _ e ih => exact .step ih (hs _ _ e)
/-- A place that is closed under neighbours is not left. -/
theorem Conn.stays {Q : Nat → Prop} (hQ : ∀ a b, E a b → Q a → Q b) {a b : Nat} (h : Conn E a b) (ha : Q a) : Q b := by
  induction h with
  | refl => exact ha
  | step _ e ih => exact hQ _ _ e ih

theorem exists_least (Q : Nat → Prop) (k : Nat) (hk : Q k) : ∃ m, Q m ∧ ∀ j, Q j → m ≤ j := by
  induction k using Nat.strongRecOn with
  | _ k ih =>
    by_cases h : ∃ j, j < k ∧ Q j
    · obtain ⟨j, hj, hQ⟩ := h
      exact ih j hj hQ
    · refine ⟨k, hk, fun j hj => ?_⟩
      rcases Nat.lt_or_ge j k with hl | hl
      · exact absurd ⟨j, hl, hj⟩ h
      · exact hl
variable (E) in
/-- The least cell that is reached from k. -/
noncomputable def least (k : Nat) : Nat := Classical.choose (exists_least (Conn E k) k (.refl k))
variable (E) in
theorem least_conn (k : Nat) : Conn E k (least E k) := (Classical.choose_spec (exists_least (Conn E k) k (.refl k))).1
theorem least_le {k j : Nat} (h : Conn E k j) : least E k ≤ j := (Classical.choose_spec (exists_least (Conn E k) k (.refl k))).2 j h
theorem least_self (k : Nat) : least E k ≤ k := least_le (.refl k)
theorem least_eq (hs : ∀ a b, E a b → E b a) {k j : Nat} (h : Conn E k j) : least E k = least E j :=
  Nat.le_antisymm (least_le (h.trans (least_conn E j))) (least_le ((h.symm hs).trans (least_conn E k)))
theorem least_idem (hs : ∀ a b, E a b → E b a) (k : Nat) : least E (least E k) = least E k := (least_eq hs (least_conn E k)).symm
theorem least_is {k m : Nat} (h : Conn E k m) (hm : ∀ j, Conn E k j → m ≤ j) : least E k = m := Nat.le_antisymm (least_le h) (hm _ (least_conn E k))
theorem conn_iff (hs : ∀ a b, E a b → E b a) {k j : Nat} : Conn E k j ↔ least E k = least E j :=
  ⟨least_eq hs, fun h => (least_conn E k).trans (h ▸ (least_conn E j).symm hs)⟩

/-! ### counting -/
open Classical in
/-- How many numbers less than n have a property. -/
noncomputable def num (n : Nat) (Q : Nat → Prop) : Nat := ((List.range n).filter fun k => decide (Q k)).length
theorem num_zero (Q : Nat → Prop) : num 0 Q = 0 := rfl
theorem num_succ (n : Nat) (Q : Nat → Prop) : num (n + 1) Q = num n Q + (open Classical in if Q n then 1 else 0) := by
  unfold num
  rw [List.range_succ, List.filter_append]
  simp only [List.filter_cons, List.filter_nil, List.length_append]
  by_cases h : Q n <;> simp [h]
theorem num_le (n : Nat) (Q : Nat → Prop) : num n Q ≤ n := by
  induction n with
  | zero => simp [num_zero]
  | succ n ih => rw [num_succ]; split <;> omega
theorem num_mono {n : Nat} {Q R : Nat → Prop} (h : ∀ k, k < n → Q k → R k) : num n Q ≤ num n R := by
  induction n with
  | zero => simp [num_zero]
  | succ n ih =>
    rw [num_succ, num_succ]
    have := ih fun k hk => h k (by omega)
    by_cases hq : Q n
    · rw [if_pos hq, if_pos (h n (by omega) hq)]; omega
    · rw [if_neg hq]; omega
theorem num_lt {n : Nat} {Q R : Nat → Prop} (h : ∀ k, k < n → Q k → R k) {j : Nat} (hj : j < n) (hq : ¬ Q j) (hr : R j) : num n Q < num n R := by
  induction n with
  | zero => omega
  | succ n ih =>
    rw [num_succ, num_succ]
    by_cases e : j = n
    · subst e
      rw [if_neg hq, if_pos hr]
      have := num_mono (n := j) fun k hk => h k (by omega)
      omega
    · have := ih (fun k hk => h k (by omega)) (by omega)
      by_cases hq' : Q n
      · rw [if_pos hq', if_pos (h n (by omega) hq')]; omega
      · rw [if_neg hq']; omega
theorem num_all {n : Nat} {Q : Nat → Prop} (h : n ≤ num n Q) : ∀ k, k < n → Q k := by
  intro k hk
  rcases Classical.em (Q k) with h1 | h1
  · exact h1
  · have := num_lt (n := n) (Q := Q) (R := fun _ => True) (fun _ _ _ => trivial) hk h1 trivial
    have := num_le n fun _ => True
    omega
theorem num_congr {n : Nat} {Q R : Nat → Prop} (h : ∀ k, k < n → (Q k ↔ R k)) : num n Q = num n R :=
  Nat.le_antisymm (num_mono fun k hk => (h k hk).1) (num_mono fun k hk => (h k hk).2)
theorem num_or {n : Nat} {Q R : Nat → Prop} (h : ∀ k, k < n → Q k → R k → False) : num n (fun k => Q k ∨ R k) = num n Q + num n R := by
  induction n with
  | zero => simp [num_zero]
  | succ n ih =>
    rw [num_succ, num_succ, num_succ, ih fun k hk => h k (by omega)]
    by_cases hq : Q n
    · by_cases hr : R n
      · exact (h n (by omega) hq hr).elim
      · rw [if_pos (Or.inl hq), if_pos hq, if_neg hr]; omega
    · by_cases hr : R n
      · rw [if_pos (Or.inr hr), if_neg hq, if_pos hr]; omega
      · rw [if_neg (by simp [hq, hr]), if_neg hq, if_neg hr]; omega
theorem num_one {n j : Nat} (hj : j < n) : num n (fun k => k = j) = 1 := by
  induction n with
  | zero => omega
  | succ n ih =>
    rw [num_succ]
    by_cases e : n = j
    · subst e
      rw [if_pos rfl]
      have : num n (fun k => k = n) = 0 := by
        have h : num n (fun k => k = n) = num n (fun _ => False) := num_congr fun k hk => ⟨fun e => by omega, fun e => e.elim⟩
        rw [h]
        clear h ih hj
        induction n with
        | zero => rfl
        | succ n ih => rw [num_succ, ih]; simp
      omega
    · rw [if_neg e, ih (by omega)]
theorem num_none {n : Nat} {Q : Nat → Prop} (h : ∀ k, k < n → ¬ Q k) : num n Q = 0 := by
  induction n with
  | zero => rfl
  | succ n ih => rw [num_succ, ih fun k hk => h k (by omega), if_neg (h n (by omega))]
/-- A map that keeps what is different apart. -/
theorem num_inj {n m : Nat} {Q R : Nat → Prop} (f : Nat → Nat) (hf : ∀ k, k < n → Q k → f k < m ∧ R (f k)) (hi : ∀ k j, k < n → j < n → Q k → Q j → f k = f j → k = j) : num n Q ≤ num m R := by
  induction n generalizing R with
  | zero => simp [num_zero]
  | succ n ih =>
    rw [num_succ]
    by_cases hq : Q n
    · rw [if_pos hq]
      obtain ⟨h1, h2⟩ := hf n (by omega) hq
      have h3 := ih (R := fun k => R k ∧ k ≠ f n) (fun k hk hqk => ⟨(hf k (by omega) hqk).1, (hf k (by omega) hqk).2, fun e => by have := hi k n (by omega) (by omega) hqk hq e; omega⟩) (fun k j hk hj => hi k j (by omega) (by omega))
      have h4 : num m (fun k => (R k ∧ k ≠ f n) ∨ k = f n) = num m (fun k => R k ∧ k ≠ f n) + num m (fun k => k = f n) := num_or fun k _ h e => h.2 e
      rw [num_one h1] at h4
      have h5 : num m (fun k => (R k ∧ k ≠ f n) ∨ k = f n) ≤ num m R := num_mono fun k _ h => h.elim (·.1) (fun e => e ▸ h2)
      omega
    · rw [if_neg hq]
      exact ih (fun k hk => hf k (by omega)) (fun k j hk hj => hi k j (by omega) (by omega))

/-! ### relaxation -/
/-- One round: more cells know their least one, if not all did. -/
theorem relax_round (hs : ∀ a b, E a b → E b a) {n t : Nat} (hE : ∀ a b, E a b → a < n ∧ b < n) {p q : Nat → Nat} (hp : ∀ k, Conn E k (p k) ∧ p k ≤ k) (hq : ∀ k, Conn E k (q k)) (hm : ∀ k, q k ≤ p k) (he : ∀ k j, E k j → q k ≤ p j)
    (ht : min t n ≤ num n (fun k => p k = least E k)) : min (t + 1) n ≤ num n (fun k => q k = least E k) := by
  have keep : ∀ k, p k = least E k → q k = least E k := fun k h => Nat.le_antisymm (h ▸ hm k) (least_le (hq k))
  by_cases hall : ∀ k, k < n → p k = least E k
  · have h1 : num n (fun k => q k = least E k) = num n (fun _ => True) := num_congr fun k hk => ⟨fun _ => trivial, fun _ => keep k (hall k hk)⟩
    have h2 : n ≤ num n (fun _ => True) := by
      have : ∀ m, num m (fun _ => True) = m := by
        intro m; induction m with
        | zero => rfl
        | succ m ih => rw [num_succ, ih]; simp
      rw [this]; exact Nat.le_refl n
    omega
  · obtain ⟨k, hk⟩ : ∃ k, ¬ (k < n → p k = least E k) := Classical.not_forall.1 hall
    have hkn : k < n := Classical.byContradiction fun h => hk fun h' => absurd h' h
    have hk2 : ¬ p k = least E k := fun h => hk fun _ => h
    -- from the least cell, which knows itself, to k there is an edge at which knowing ends
    have h0 : p (least E k) = least E (least E k) := by
      rw [least_idem hs]
      refine Nat.le_antisymm (hp _).2 ?_
      have := least_le ((least_conn E k).trans (hp (least E k)).1)
      exact this
    obtain ⟨b, hbn, hb, hb2⟩ : ∃ b, b < n ∧ ¬ p b = least E b ∧ q b = least E b := by
      obtain ⟨m, hc, hm0⟩ : ∃ m, Conn E m k ∧ p m = least E m := ⟨_, (least_conn E k).symm hs, h0⟩
      clear hk hall ht h0
      induction hc with
      | refl => exact absurd hm0 hk2
      | @step b c _ e ih =>
        by_cases hb : p b = least E b
        · refine ⟨c, (hE _ _ e).2, hk2, ?_⟩
          have h1 := he c b (hs _ _ e)
          rw [hb, least_eq hs (Conn.one e)] at h1
          exact Nat.le_antisymm h1 (least_le (hq c))
        · exact ih (hE _ _ e).1 hb
    have := num_lt (n := n) (Q := fun k => p k = least E k) (R := fun k => q k = least E k) (fun k _ h => keep k h) hbn hb hb2
    omega
theorem relax_done {n : Nat} {p : Nat → Nat} (h : min n n ≤ num n (fun k => p k = least E k)) : ∀ k, k < n → p k = least E k := num_all (by simpa using h)
end

end Domi
