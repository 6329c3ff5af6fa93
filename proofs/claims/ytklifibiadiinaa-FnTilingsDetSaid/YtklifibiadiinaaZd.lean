/- Plain words and laws on memory, regions and dominoes, of several texts. -/
import Derived.Test.YtklifibiadiinaaZa
import Derived.Test.YtklifibiadiinaaZb
import Derived.Test.YtklifibiadiinaaZc

/- Parts: a further cell joins at most four. Plain. -/
set_option linter.unusedVariables false
namespace Domi
open Go Go.RowKit

theorem stepI_setc (r : Reg) (k : Nat) (b : Bool) (c way : Int) : stepI (r.setc k b) c way = stepI r c way := rfl
theorem f_setc {r : Reg} {k : Nat} {b : Bool} (hk : k < r.cells.length) (j : Nat) : (r.setc k b).f j = if k = j then b else r.f j := by
  unfold Reg.f Reg.setc
  exact getD_set r.cells k j b false hk
theorem setc_same {r : Reg} {k : Nat} {b : Bool} (h : r.cells.getD k false = b) (hk : k < r.cells.length) : r.setc k b = r := by
  unfold Reg.setc
  cases r
  simp only at *
  congr 1
  apply List.ext_getElem
  · simp
  · intro i hi hj
    rw [List.getElem_set]
    split
    · rename_i e; subst e; rw [← h]; exact (Domi.get_at _ _ _ hj).symm
    · rfl

section
variable {r : Reg} {k : Nat}
/-- With the cell k; it was none. -/
theorem e_up (hk : k < r.cells.length) (hf : r.f k = false) {a b : Nat} (e : E4 r a b) : E4 (r.setc k true) a b := by
  obtain ⟨h1, h2, way, w1, w4, hs⟩ := e
  refine ⟨?_, ?_, way, w1, w4, hs⟩
  · rw [f_setc hk]; split <;> first | rfl | exact h1
  · rw [f_setc hk]; split <;> first | rfl | exact h2
theorem e_down (hk : k < r.cells.length) {a b : Nat} (ha : a ≠ k) (hb : b ≠ k) (e : E4 (r.setc k true) a b) : E4 r a b := by
  obtain ⟨h1, h2, way, w1, w4, hs⟩ := e
  rw [f_setc hk, if_neg (Ne.symm ha)] at h1
  rw [f_setc hk, if_neg (Ne.symm hb)] at h2
  exact ⟨h1, h2, way, w1, w4, hs⟩
theorem conn_up (hk : k < r.cells.length) (hf : r.f k = false) {a b : Nat} (h : Conn (E4 r) a b) : Conn (E4 (r.setc k true)) a b := h.mono fun _ _ e => e_up hk hf e
theorem conn_f {a b : Nat} (h : Conn (E4 r) a b) (ha : r.f a = true) : r.f b = true := h.stays (Q := fun j => r.f j = true) (fun _ _ e _ => e.2.1) ha
/-- Away from k nothing has turned. -/
theorem conn_away (hk : k < r.cells.length) {a b : Nat} (h : Conn (E4 (r.setc k true)) a b) (hn : ¬ Conn (E4 (r.setc k true)) a k) : Conn (E4 r) a b := by
  induction h with
  | refl => exact .refl _
  | @step b c h e ih =>
    refine .step ih (e_down hk ?_ ?_ e)
    · rintro rfl; exact hn h
    · rintro rfl; exact hn (.step h e)
theorem least_away (hk : k < r.cells.length) (hf : r.f k = false) {a : Nat} (hn : ¬ Conn (E4 (r.setc k true)) a k) : least (E4 (r.setc k true)) a = least (E4 r) a :=
  least_is (conn_up hk hf (least_conn _ a)) fun _ h => least_le (conn_away hk h hn)
/-- What hangs together with k has a cell beside it. -/
theorem conn_beside (hk : k < r.cells.length) (hf : r.f k = false) {a b : Nat} (ha : r.f a = true) (h : Conn (E4 (r.setc k true)) a b) : Conn (E4 r) a b ∨ ∃ m, Conn (E4 r) a m ∧ E4 (r.setc k true) m k := by
  induction h with
  | refl => exact .inl (.refl _)
  | @step b c h e ih =>
    rcases ih with ih | ih
    · by_cases hc : c = k
      · subst hc; exact .inr ⟨b, ih, e⟩
      · by_cases hb : b = k
        · subst hb
          have := conn_f ih ha
          rw [hf] at this; cases this
        · exact .inl (.step ih (e_down hk hb hc e))
    · exact .inr ih

theorem num_split {n : Nat} (Q C : Nat → Prop) : num n Q = num n (fun j => Q j ∧ ¬ C j) + num n (fun j => Q j ∧ C j) := by
  rw [← num_or fun j _ h1 h2 => h1.2 h2.2]
  exact num_congr fun j _ => ⟨fun h => (Classical.em (C j)).elim (fun c => .inr ⟨h, c⟩) (fun c => .inl ⟨h, c⟩), fun h => h.elim (·.1) (·.1)⟩
theorem num_four : num 5 (fun k => 1 ≤ k) = 4 := by
  simp [num_succ, num_zero]

theorem parts_add (hv : r.valid = true) (hv' : (r.setc k true).valid = true) (hk : k < r.cells.length) : partCount (r.setc k true) ≤ partCount r + 1 ∧ partCount r ≤ partCount (r.setc k true) + 3 := by
  have hn : (r.setc k true).cells.length = r.cells.length := by simp [Reg.setc]
  cases hf : r.f k
  · have hs : ∀ a b, E4 r a b → E4 r b a := fun _ _ e => e.symm hv
    have hs' : ∀ a b, E4 (r.setc k true) a b → E4 (r.setc k true) b a := fun _ _ e => e.symm hv'
    have hfk : (r.setc k true).f k = true := by rw [f_setc hk, if_pos rfl]
    have hfj : ∀ j, j ≠ k → (r.setc k true).f j = r.f j := fun j hj => by rw [f_setc hk, if_neg (Ne.symm hj)]
    have ne : ∀ j, ¬ Conn (E4 (r.setc k true)) j k → j ≠ k := fun j h e => by subst e; exact h (.refl _)
    unfold partCount
    rw [hn, num_split (n := r.cells.length) (fun j => (r.setc k true).f j = true ∧ least (E4 (r.setc k true)) j = j) (fun j => Conn (E4 (r.setc k true)) j k),
      num_split (n := r.cells.length) (fun j => r.f j = true ∧ least (E4 r) j = j) (fun j => Conn (E4 (r.setc k true)) j k)]
    have h1 : num r.cells.length (fun j => ((r.setc k true).f j = true ∧ least (E4 (r.setc k true)) j = j) ∧ ¬ Conn (E4 (r.setc k true)) j k) = num r.cells.length (fun j => (r.f j = true ∧ least (E4 r) j = j) ∧ ¬ Conn (E4 (r.setc k true)) j k) := by
      refine num_congr fun j _ => ?_
      constructor
      · rintro ⟨⟨a, b⟩, c⟩
        rw [hfj j (ne j c)] at a
        rw [least_away hk hf c] at b
        exact ⟨⟨a, b⟩, c⟩
      · rintro ⟨⟨a, b⟩, c⟩
        rw [← hfj j (ne j c)] at a
        rw [← least_away hk hf c] at b
        exact ⟨⟨a, b⟩, c⟩
    have h2 : num r.cells.length (fun j => ((r.setc k true).f j = true ∧ least (E4 (r.setc k true)) j = j) ∧ Conn (E4 (r.setc k true)) j k) = 1 := by
      have hl : least (E4 (r.setc k true)) k < r.cells.length := by have := least_self (E := E4 (r.setc k true)) k; omega
      rw [← num_one hl]
      refine num_congr fun j _ => ?_
      constructor
      · rintro ⟨⟨_, b⟩, c⟩
        rw [← b]; exact least_eq hs' c
      · rintro rfl
        exact ⟨⟨conn_f (least_conn _ k) hfk, least_idem hs' k⟩, (least_conn _ k).symm hs'⟩
    have h3 : num r.cells.length (fun j => (r.f j = true ∧ least (E4 r) j = j) ∧ Conn (E4 (r.setc k true)) j k) ≤ 4 := by
      have key : ∀ j, ((r.f j = true ∧ least (E4 r) j = j) ∧ Conn (E4 (r.setc k true)) j k) → ∃ way : Nat, 1 ≤ way ∧ way < 5 ∧ ∃ m : Nat, stepI r k way = (m : Int) ∧ Conn (E4 r) j m := by
        rintro j ⟨⟨a, _⟩, c⟩
        rcases conn_beside hk hf a c with h | ⟨m, h, e⟩
        · have := conn_f h a
          rw [hf] at this; cases this
        · obtain ⟨_, _, way, w1, w4, hs⟩ := e.symm hv'
          exact ⟨way.toNat, by omega, by omega, m, by rw [Int.toNat_of_nonneg (by omega)]; exact hs, h⟩
      rw [← num_four]
      refine num_inj (fun j => open Classical in if h : ((r.f j = true ∧ least (E4 r) j = j) ∧ Conn (E4 (r.setc k true)) j k) then Classical.choose (key j h) else 0) (fun j _ h => ?_) (fun i j _ _ hi hj e => ?_)
      · have := Classical.choose_spec (key j h)
        simp only [dif_pos h]
        exact ⟨this.2.1, this.1⟩
      · simp only [dif_pos hi, dif_pos hj] at e
        obtain ⟨_, _, m, s1, c1⟩ := Classical.choose_spec (key i hi)
        obtain ⟨_, _, m', s2, c2⟩ := Classical.choose_spec (key j hj)
        rw [e, s2] at s1
        have hm : m' = m := by omega
        subst hm
        rw [← hi.1.2, ← hj.1.2]
        exact (least_eq hs c1).trans (least_eq hs c2).symm
    rw [h1, h2]
    omega
  · rw [setc_same (r := r) (k := k) (b := true) hf hk]; omega
end

/-- The law of PartsMany. -/
theorem pmany_law {r x : Reg} {k : Nat} (hv : r.valid = true) (h : setR r k true = (x, true)) : x.pmany ≤ r.pmany + 1 ∧ r.pmany - 3 ≤ x.pmany := by
  rcases setR_cases r k true with ⟨h1, h2, h3, h4⟩ | h1
  · rw [h1] at h
    have e : x = r.setc k true := by simpa using (congrArg Prod.fst h).symm
    subst e
    have h4 : (r.setc k true).valid = true := h4
    have := parts_add hv h4 (by omega)
    unfold Reg.pmany
    rw [if_pos h4, if_pos hv]
    omega
  · rw [h1] at h; cases h
theorem pmany_cells {r : Reg} (hv : r.valid = true) : r.pmany ≤ r.many := by
  unfold Reg.pmany
  rw [if_pos hv, Reg.many_yes hv, ← num_cnt]
  have := num_mono (n := r.cells.length) (Q := fun k => r.f k = true ∧ least (E4 r) k = k) (R := fun k => r.f k = true) fun _ _ h => h.1
  unfold partCount
  omega
theorem pmany_bd (r : Reg) : -1 ≤ r.pmany ∧ r.pmany ≤ r.cells.length := by
  unfold Reg.pmany
  have := num_le r.cells.length (fun k => r.f k = true ∧ least (E4 r) k = k)
  unfold partCount
  split <;> omega

end Domi

/- How many tilings there are of two halves with given dominoes across: plain. -/
set_option linter.unusedVariables false
namespace Domi
open Go Go.RowKit

theorem len_carry {α β : Type} [DecidableEq β] {a : List α} {b : List β} (ha : a.Nodup) (f : α → β) (g : β → α) (hf : ∀ x ∈ a, f x ∈ b) (hg : ∀ x ∈ a, g (f x) = x) : a.length ≤ b.length := by
  have h1 : (a.map f).Nodup := by
    rw [List.Nodup, List.pairwise_map]
    refine List.Pairwise.imp_of_mem ?_ ha
    intro x y hx hy hne e
    exact hne (by rw [← hg x hx, e, hg y hy])
  have := nodup_len h1 (b := b) fun x hx => by
    obtain ⟨y, hy, rfl⟩ := List.mem_map.1 hx
    exact hf y hy
  simpa using this
theorem len_same {α : Type} [DecidableEq α] {a b : List α} (ha : a.Nodup) (hb : b.Nodup) (h : ∀ x, x ∈ a ↔ x ∈ b) : a.length = b.length :=
  Nat.le_antisymm (nodup_len ha fun x hx => (h x).1 hx) (nodup_len hb fun x hx => (h x).2 hx)
def prodL {α β : Type} (a : List α) (b : List β) : List (α × β) := a.flatMap fun x => b.map fun y => (x, y)
theorem prodL_len {α β : Type} (a : List α) (b : List β) : (prodL a b).length = a.length * b.length := by
  unfold prodL
  induction a with
  | nil => simp
  | cons x a ih => rw [List.flatMap_cons, List.length_append, ih, List.length_map, List.length_cons, Nat.succ_mul]; omega
theorem prodL_mem {α β : Type} {a : List α} {b : List β} {p : α × β} : p ∈ prodL a b ↔ p.1 ∈ a ∧ p.2 ∈ b := by
  unfold prodL
  rw [List.mem_flatMap]
  constructor
  · rintro ⟨x, hx, h⟩
    obtain ⟨y, hy, rfl⟩ := List.mem_map.1 h
    exact ⟨hx, hy⟩
  · rintro ⟨h1, h2⟩
    exact ⟨p.1, h1, List.mem_map.2 ⟨p.2, h2, rfl⟩⟩
theorem prodL_nodup {α β : Type} {a : List α} {b : List β} (ha : a.Nodup) (hb : b.Nodup) : (prodL a b).Nodup := by
  unfold prodL
  induction a with
  | nil => simp
  | cons x a ih =>
    rw [List.flatMap_cons, List.nodup_append]
    refine ⟨?_, ih (List.nodup_cons.1 ha).2, ?_⟩
    · rw [List.Nodup, List.pairwise_map]
      exact hb.imp fun h e => h (Prod.mk.inj e).2
    · intro p hp q hq e
      obtain ⟨y, _, rfl⟩ := List.mem_map.1 hp
      obtain ⟨z, hz, hq⟩ := List.mem_flatMap.1 hq
      obtain ⟨u, _, rfl⟩ := List.mem_map.1 hq
      have := (Prod.mk.inj e).1
      subst this
      exact (List.nodup_cons.1 ha).1 hz

theorem stepI_dims {r s : Reg} (hw : s.wide = r.wide) (ht : s.tall = r.tall) (c way : Int) : stepI s c way = stepI r c way := by unfold stepI; rw [hw, ht]
theorem cells_dims {r s : Reg} (hr : r.valid = true) (hs : s.valid = true) (hw : s.wide = r.wide) (ht : s.tall = r.tall) : s.cells.length = r.cells.length := by
  have h1 := (Reg.valid_iff.1 hr).2.2.1
  have h2 := (Reg.valid_iff.1 hs).2.2.1
  rw [hw, ht] at h2; omega

/-- The list T, on the cells of A alone. -/
def restL (A : Reg) (T : List Int) : List Int := (List.range A.cells.length).map fun k => if A.f k then T.getD k 0 else 0
theorem restL_len (A : Reg) (T : List Int) : (restL A T).length = A.cells.length := by simp [restL]
theorem getD_map_range {n k : Nat} {f : Nat → Int} (h : ∀ j, n ≤ j → f j = 0) : ((List.range n).map f).getD k 0 = f k := by
  by_cases hk : k < n
  · simp [List.getD_eq_getElem?_getD, hk]
  · rw [getD_far (by simpa using hk), h k (by omega)]
theorem f_far {r : Reg} {k : Nat} (h : r.cells.length ≤ k) : r.f k = false := by
  cases e : r.f k
  · rfl
  · have := f_lt e; omega
theorem restL_get (A : Reg) (T : List Int) (k : Nat) : (restL A T).getD k 0 = if A.f k then T.getD k 0 else 0 := by
  unfold restL
  exact getD_map_range fun j hj => by rw [f_far hj]; rfl
/-- A tiling of r, on a part that no domino leaves. -/
theorem rest_ok {r A : Reg} (hA : A.valid = true) (hw : A.wide = r.wide) (ht : A.tall = r.tall) (hsub : ∀ k, A.f k = true → r.f k = true) {T : List Int} (hT : tilingOk r T = true) (hcl : ∀ k, A.f k = true → A.f (other r T k) = true) : tilingOk A (restL A T) = true := by
  obtain ⟨h1, h2⟩ := tilingOk_iff.1 hT
  have hlT := (laidOk_iff.1 h1).2.1
  refine tilingOk_iff.2 ⟨laidOk_iff.2 ⟨hA, restL_len A T, fun k hk => ?_⟩, fun k _ hf => ?_⟩
  · cases hf : A.f k
    · exact okAt_zero (by rw [restL_get, hf]; rfl)
    · have hr := hsub k hf
      have hk' : k < T.length := by rw [hlT]; exact f_lt hr
      obtain ⟨t, F⟩ := lies_at h1 hk' (h2 k (f_lt hr) hr)
      have e : other r T k = t := by unfold other; rw [F.hst, Int.toNat_natCast]
      have hft := hcl k hf
      rw [e] at hft
      refine okAt_good (x := T.getD k 0) (s := (t : Int)) (by rw [restL_get, hf]; rfl) (by rw [stepI_dims hw ht]; exact F.hst) (by omega) hf (by rw [Int.toNat_natCast]; exact hft) ?_
      rw [Int.toNat_natCast, restL_get, hft]; exact F.ot
  · rw [restL_get, hf, if_pos rfl]
    have hr := hsub k hf
    exact h2 k (f_lt hr) hr

/-- Two halves A, B of r, and dominoes C that lie across. -/
structure Halves (r A B : Reg) (C : List Int) : Prop where
  hr : r.valid = true
  hA : A.valid = true
  hB : B.valid = true
  wA : A.wide = r.wide
  tA : A.tall = r.tall
  wB : B.wide = r.wide
  tB : B.tall = r.tall
  hC : laidOk r C = true
  iff : ∀ k, r.f k = true ↔ (A.f k = true ∨ B.f k = true ∨ C.getD k 0 ≠ 0)
  ab : ∀ k, A.f k = true → B.f k = false ∧ C.getD k 0 = 0
  bc : ∀ k, B.f k = true → C.getD k 0 = 0
/-- No domino of T leaves A but those of C. -/
def Keeps (r A : Reg) (C T : List Int) : Prop := Ext C T ∧ ∀ k, A.f k = true → A.f (other r T k) = true
def joinT (r A B : Reg) (C S T : List Int) : List Int := (List.range r.cells.length).map fun k => if A.f k then S.getD k 0 else if B.f k then T.getD k 0 else C.getD k 0
section
variable {r A B : Reg} {C S T : List Int}
theorem Halves.lenC (H : Halves r A B C) : C.length = r.cells.length := (laidOk_iff.1 H.hC).2.1
theorem Halves.lenA (H : Halves r A B C) : A.cells.length = r.cells.length := cells_dims H.hr H.hA H.wA H.tA
theorem Halves.lenB (H : Halves r A B C) : B.cells.length = r.cells.length := cells_dims H.hr H.hB H.wB H.tB
theorem joinT_get (H : Halves r A B C) (k : Nat) : (joinT r A B C S T).getD k 0 = if A.f k then S.getD k 0 else if B.f k then T.getD k 0 else C.getD k 0 := by
  unfold joinT
  refine getD_map_range fun j hj => ?_
  rw [f_far (r := A) (by rw [H.lenA]; exact hj), f_far (r := B) (by rw [H.lenB]; exact hj)]
  exact getD_far (by rw [H.lenC]; exact hj)
theorem joinT_ok (H : Halves r A B C) (hS : tilingOk A S = true) (hT : tilingOk B T = true) : tilingOk r (joinT r A B C S T) = true ∧ Keeps r A C (joinT r A B C S T) := by
  obtain ⟨s1, s2⟩ := tilingOk_iff.1 hS
  obtain ⟨t1, t2⟩ := tilingOk_iff.1 hT
  have lS := (laidOk_iff.1 s1).2.1
  have lT := (laidOk_iff.1 t1).2.1
  have gA : ∀ k, A.f k = true → (joinT r A B C S T).getD k 0 = S.getD k 0 := fun k h => by rw [joinT_get H, if_pos h]
  have nA : ∀ k, B.f k = true → A.f k = false := fun k h => by
    cases e : A.f k
    · rfl
    · rw [(H.ab k e).1] at h; cases h
  have gB : ∀ k, B.f k = true → (joinT r A B C S T).getD k 0 = T.getD k 0 := fun k h => by rw [joinT_get H, nA k h, if_neg (by decide), if_pos h]
  have cA : ∀ k, C.getD k 0 ≠ 0 → A.f k = false := fun k h => by
    cases e : A.f k
    · rfl
    · exact absurd (H.ab k e).2 h
  have cB : ∀ k, C.getD k 0 ≠ 0 → B.f k = false := fun k h => by
    cases e : B.f k
    · rfl
    · exact absurd (H.bc k e) h
  have gC : ∀ k, C.getD k 0 ≠ 0 → (joinT r A B C S T).getD k 0 = C.getD k 0 := fun k h => by rw [joinT_get H, cA k h, cB k h]; rfl
  have AtA : ∀ k, A.f k = true → ∃ t, LiesAt A S k t (S.getD k 0) := fun k h => lies_at s1 (by rw [lS]; exact f_lt h) (s2 k (f_lt h) h)
  have AtB : ∀ k, B.f k = true → ∃ t, LiesAt B T k t (T.getD k 0) := fun k h => lies_at t1 (by rw [lT]; exact f_lt h) (t2 k (f_lt h) h)
  have AtC : ∀ k, C.getD k 0 ≠ 0 → ∃ t, LiesAt r C k t (C.getD k 0) := fun k h => lies_at H.hC (by
    rcases Nat.lt_or_ge k C.length with e | e
    · exact e
    · exact absurd (getD_far e) h) h
  have hok : laidOk r (joinT r A B C S T) = true := by
    refine laidOk_iff.2 ⟨H.hr, by simp [joinT], fun k hk => ?_⟩
    by_cases hfa : A.f k = true
    · obtain ⟨t, F⟩ := AtA k hfa
      refine okAt_good (x := S.getD k 0) (s := (t : Int)) (gA k hfa) (by rw [← stepI_dims H.wA H.tA]; exact F.hst) (by omega) ((H.iff k).2 (.inl hfa)) (by rw [Int.toNat_natCast]; exact (H.iff t).2 (.inl F.ft)) ?_
      rw [Int.toNat_natCast, gA t F.ft]; exact F.ot
    · by_cases hfb : B.f k = true
      · obtain ⟨t, F⟩ := AtB k hfb
        refine okAt_good (x := T.getD k 0) (s := (t : Int)) (gB k hfb) (by rw [← stepI_dims H.wB H.tB]; exact F.hst) (by omega) ((H.iff k).2 (.inr (.inl hfb))) (by rw [Int.toNat_natCast]; exact (H.iff t).2 (.inr (.inl F.ft))) ?_
        rw [Int.toNat_natCast, gB t F.ft]; exact F.ot
      · by_cases hc : C.getD k 0 = 0
        · refine okAt_zero ?_
          rw [joinT_get H, if_neg hfa, if_neg hfb]; exact hc
        · obtain ⟨t, F⟩ := AtC k hc
          have ht0 : C.getD t 0 ≠ 0 := by rw [F.ot]; have := (backI_way F.hway).1; omega
          refine okAt_good (x := C.getD k 0) (s := (t : Int)) (gC k hc) F.hst (by omega) F.fc (by rw [Int.toNat_natCast]; exact F.ft) ?_
          rw [Int.toNat_natCast, gC t ht0]; exact F.ot
  refine ⟨tilingOk_iff.2 ⟨hok, fun k hk hf => ?_⟩, fun k hc => gC k hc, fun k hf => ?_⟩
  · rcases (H.iff k).1 hf with h | h | h
    · rw [gA k h]; exact s2 k (f_lt h) h
    · rw [gB k h]; exact t2 k (f_lt h) h
    · rw [gC k h]; exact h
  · obtain ⟨t, F⟩ := AtA k hf
    have e : other r (joinT r A B C S T) k = t := by unfold other; rw [gA k hf, ← stepI_dims H.wA H.tA, F.hst, Int.toNat_natCast]
    rw [e]; exact F.ft
theorem joinT_rest (H : Halves r A B C) (hS : tilingOk A S = true) (hT : tilingOk B T = true) : restL A (joinT r A B C S T) = S ∧ restL B (joinT r A B C S T) = T := by
  have s1 := (tilingOk_iff.1 hS).1
  have t1 := (tilingOk_iff.1 hT).1
  refine ⟨ext_getD (by rw [restL_len, (laidOk_iff.1 s1).2.1]) fun k _ => ?_, ext_getD (by rw [restL_len, (laidOk_iff.1 t1).2.1]) fun k _ => ?_⟩
  · rw [restL_get, joinT_get H]
    cases h : A.f k
    · rw [if_neg (by decide)]; exact (laid_out s1 h).symm
    · rw [if_pos rfl, if_pos rfl]
  · rw [restL_get, joinT_get H]
    cases h : B.f k
    · rw [if_neg (by decide)]; exact (laid_out t1 h).symm
    · have : A.f k = false := by
        cases e : A.f k
        · rfl
        · rw [(H.ab k e).1] at h; cases h
      rw [if_pos rfl, this, if_neg (by decide), if_pos rfl]
theorem keeps_b (H : Halves r A B C) (hT : tilingOk r T = true) (hk : Keeps r A C T) : ∀ k, B.f k = true → B.f (other r T k) = true := by
  intro k hf
  obtain ⟨h1, h2⟩ := tilingOk_iff.1 hT
  have hlT := (laidOk_iff.1 h1).2.1
  have hr := (H.iff k).2 (.inr (.inl hf))
  obtain ⟨t, F⟩ := lies_at h1 (by rw [hlT]; exact f_lt hr) (h2 k (f_lt hr) hr)
  have e : other r T k = t := by unfold other; rw [F.hst, Int.toNat_natCast]
  have e2 : other r T t = k := by unfold other; rw [F.ot, F.hback, Int.toNat_natCast]
  rw [e]
  rcases (H.iff t).1 F.ft with h | h | h
  · have := hk.2 t h
    rw [e2] at this
    rw [(H.ab k this).1] at hf; cases hf
  · exact h
  · have h3 := hk.1 t h
    obtain ⟨u, G⟩ := lies_at H.hC (c := t) (by
      rcases Nat.lt_or_ge t C.length with e | e
      · exact e
      · exact absurd (getD_far e) h) h
    have hu : u = k := by
      have h4 := G.hst
      rw [← h3, F.ot, F.hback] at h4
      omega
    subst hu
    have := H.bc u hf
    have h5 := (backI_way G.hway).1
    rw [G.ot] at this; omega
theorem join_back (H : Halves r A B C) (hT : tilingOk r T = true) (hk : Keeps r A C T) : joinT r A B C (restL A T) (restL B T) = T := by
  have h1 := (tilingOk_iff.1 hT).1
  refine ext_getD (by simp [joinT, (laidOk_iff.1 h1).2.1]) fun k _ => ?_
  rw [joinT_get H, restL_get, restL_get]
  cases ha : A.f k
  · rw [if_neg (by decide)]
    cases hb : B.f k
    · rw [if_neg (by decide)]
      by_cases hc : C.getD k 0 = 0
      · rw [hc]
        refine (laid_out h1 ?_).symm
        cases e : r.f k
        · rfl
        · rcases (H.iff k).1 e with h | h | h
          · rw [ha] at h; cases h
          · rw [hb] at h; cases h
          · exact absurd hc h
      · exact (hk.1 k hc).symm
    · rw [if_pos rfl, if_pos rfl]
  · rw [if_pos rfl, if_pos rfl]
/-- As many as there are pairs. -/
theorem halves_count (H : Halves r A B C) (P : List Int → Bool) (hP : ∀ T, tilingOk r T = true → (P T = true ↔ Keeps r A C T)) : ((((tilsR r).filter P).length : Nat) : Int) = manyT A * manyT B := by
  rw [manyT_yes H.hA, manyT_yes H.hB, ← Int.natCast_mul, ← prodL_len]
  congr 1
  have subA : ∀ k, A.f k = true → r.f k = true := fun k h => (H.iff k).2 (.inl h)
  have subB : ∀ k, B.f k = true → r.f k = true := fun k h => (H.iff k).2 (.inr (.inl h))
  refine Nat.le_antisymm ?_ ?_
  · refine len_carry ((tilsR_nodup r).filter _) (fun T => (restL A T, restL B T)) (fun p => joinT r A B C p.1 p.2) (fun T hT => ?_) (fun T hT => ?_)
    · obtain ⟨h1, h2⟩ := List.mem_filter.1 hT
      have h1 := mem_tilsR'.1 h1
      have hk := (hP T h1).1 h2
      exact prodL_mem.2 ⟨mem_tilsR'.2 (rest_ok H.hA H.wA H.tA subA h1 hk.2), mem_tilsR'.2 (rest_ok H.hB H.wB H.tB subB h1 (keeps_b H h1 hk))⟩
    · obtain ⟨h1, h2⟩ := List.mem_filter.1 hT
      have h1 := mem_tilsR'.1 h1
      exact join_back H h1 ((hP T h1).1 h2)
  · refine len_carry (prodL_nodup (tilsR_nodup A) (tilsR_nodup B)) (fun p => joinT r A B C p.1 p.2) (fun T => (restL A T, restL B T)) (fun p hp => ?_) (fun p hp => ?_)
    · obtain ⟨h1, h2⟩ := prodL_mem.1 hp
      obtain ⟨a, b⟩ := joinT_ok H (mem_tilsR'.1 h1) (mem_tilsR'.1 h2)
      exact List.mem_filter.2 ⟨mem_tilsR'.2 a, (hP _ a).2 b⟩
    · obtain ⟨h1, h2⟩ := prodL_mem.1 hp
      obtain ⟨a, b⟩ := joinT_rest H (mem_tilsR'.1 h1) (mem_tilsR'.1 h2)
      show (_, _) = p
      rw [a, b]
end

/-! ### the tilings with a domino -/
theorem with_filter {r : Reg} (hv : r.valid = true) {k : Nat} {way : Int} (hw : 1 ≤ way ∧ way ≤ 4) : withT r k way = (((tilsR r).filter fun T => decide (T.getD k 0 = way)).length : Nat) := by
  have hL := bare_laid hv
  have hfr : ∀ T, tilingOk r T = true → T.getD k 0 = way → free r (bareL r) k way = true ∧ Ext (layL r (bareL r) k way) T := fun T hT h => by
    have := ext_free (L := bareL r) hL (tilingOk_iff.1 hT).1 (fun j hj => absurd (bareL_get r j) hj) (k := k) (by omega) (bareL_get r k)
    rw [h] at this; exact this
  cases hf : free r (bareL r) k way
  · rw [withT_zero hv hf]
    rw [List.filter_eq_nil_iff.2 fun T hT => by
      intro h
      have := (hfr T (mem_tilsR'.1 hT) (of_decide_eq_true h)).1
      rw [hf] at this; cases this]
    rfl
  · rw [withT_yes hv hf, withL_is (lay_ok hL hf) (laid_open (lay_ok hL hf))]
    congr 1
    refine len_same ((tils_order r 40 _ (lay_ok hL hf) (laid_open (lay_ok hL hf))).imp fun h => h.ne) ((tilsR_nodup r).filter _) fun T => ?_
    rw [mem_tils r 40 _ T (lay_ok hL hf) (laid_open (lay_ok hL hf)), List.mem_filter, mem_tilsR', decide_eq_true_eq]
    refine and_congr_right fun hT => ⟨fun h => ?_, fun h => (hfr T hT h).2⟩
    have h1 := (ext_lay hL hf).2
    have := h k (by rw [h1]; omega)
    rw [this, h1]
theorem filt_cons {α : Type} (p : α → Bool) (x : α) (l : List α) : ((x :: l).filter p).length = (l.filter p).length + if p x = true then 1 else 0 := by
  rw [List.filter_cons]; cases p x <;> simp
theorem filter_four {l : List (List Int)} {k : Nat} (h : ∀ T ∈ l, 1 ≤ T.getD k 0 ∧ T.getD k 0 ≤ 4) : (l.filter fun T => decide (T.getD k 0 = 1)).length + (l.filter fun T => decide (T.getD k 0 = 2)).length + (l.filter fun T => decide (T.getD k 0 = 3)).length + (l.filter fun T => decide (T.getD k 0 = 4)).length = l.length := by
  induction l with
  | nil => rfl
  | cons T l ih =>
    have h1 := ih fun U hU => h U (by simp [hU])
    have h2 := h T (by simp)
    have h3 : T.getD k 0 = 1 ∨ T.getD k 0 = 2 ∨ T.getD k 0 = 3 ∨ T.getD k 0 = 4 := by omega
    rw [filt_cons, filt_cons, filt_cons, filt_cons, List.length_cons]
    rcases h3 with e | e | e | e <;> (rw [e]; simp only [decide_eq_true_eq, Int.reduceEq, if_true, if_false]; omega)
/-- The sum over all directions. -/
theorem with_sum {r : Reg} (hv : r.valid = true) (k : Nat) : withT r k 1 + withT r k 2 + withT r k 3 + withT r k 4 = if r.f k then manyT r else 0 := by
  cases hf : r.f k
  · have hz : ∀ way, withT r k way = 0 := fun way => withT_zero hv (by
      cases e : free r (bareL r) k way
      · rfl
      · have := (free_iff.1 e).2.2.1
        rw [Int.toNat_natCast, hf] at this; cases this)
    rw [hz, hz, hz, hz]; rfl
  · rw [with_filter hv (by omega), with_filter hv (by omega), with_filter hv (by omega), with_filter hv (by omega), if_pos rfl, manyT_yes hv]
    have := filter_four (l := tilsR r) (k := k) fun T hT => by
      have hT := mem_tilsR'.1 hT
      obtain ⟨h1, h2⟩ := tilingOk_iff.1 hT
      have h0 := h2 k (f_lt hf) hf
      have := laidOk_bd h1 k
      omega
    omega
end Domi

/- Regions of parts, and the product of their counts: plain. -/
set_option linter.unusedVariables false
namespace Domi
open Go Go.RowKit

/-- The region of a part. -/
noncomputable def Reg.partC (r : Reg) (p : Int) : Reg := ⟨r.wide, r.tall, (List.range r.cells.length).map fun k => decide (0 ≤ partN r k) && decide (partN r k = p)⟩
/-- The region of the cells whose part is less than n. -/
noncomputable def Reg.below (r : Reg) (n : Nat) : Reg := ⟨r.wide, r.tall, (List.range r.cells.length).map fun k => decide (0 ≤ partN r k) && decide (partN r k < n)⟩
theorem f_map {w t : Int} {n k : Nat} {g : Nat → Bool} (h : ∀ j, n ≤ j → g j = false) : (Reg.mk w t ((List.range n).map g)).f k = g k := by
  unfold Reg.f
  by_cases hk : k < n
  · simp [List.getD_eq_getElem?_getD, hk]
  · rw [h k (by omega)]
    simp [List.getD_eq_getElem?_getD, List.getElem?_eq_none (l := List.range n) (i := k) (by simpa using hk)]
theorem partN_far {r : Reg} {k : Nat} (h : r.cells.length ≤ k) : partN r k = -1 := partN_no (f_far h)
theorem partN_f {r : Reg} {k : Nat} : 0 ≤ partN r k ↔ r.f k = true := by
  cases h : r.f k
  · rw [partN_no h]; simp
  · rw [partN_yes h]; simp
theorem partN_le {r : Reg} {k : Nat} : partN r k ≤ k := by
  cases h : r.f k
  · rw [partN_no h]; omega
  · rw [partN_yes h]
    have := least_self (E := E4 r) k
    omega
theorem partC_f {r : Reg} {p : Int} {k : Nat} : (r.partC p).f k = true ↔ 0 ≤ partN r k ∧ partN r k = p := by
  unfold Reg.partC
  rw [f_map fun j hj => by rw [partN_far hj]; rfl]
  simp
theorem below_f {r : Reg} {n k : Nat} : (r.below n).f k = true ↔ 0 ≤ partN r k ∧ partN r k < n := by
  unfold Reg.below
  rw [f_map fun j hj => by rw [partN_far hj]; rfl]
  simp
theorem sub_valid {r s : Reg} (h : r.valid = true) (hw : s.wide = r.wide) (ht : s.tall = r.tall) (hl : s.cells.length = r.cells.length) (hs : ∀ k, s.f k = true → r.f k = true) : s.valid = true := by
  obtain ⟨h1, h2, h3, h4⟩ := Reg.valid_iff.1 h
  refine Reg.valid_iff.2 ⟨by rw [hw]; exact h1, by rw [ht]; exact h2, by rw [hl, hw, ht]; exact h3, ?_⟩
  rw [← num_cnt] at h4 ⊢
  have := num_mono (n := s.cells.length) (Q := fun k => s.f k = true) (R := fun k => r.f k = true) fun k _ => hs k
  rw [hl] at this ⊢
  omega
theorem partC_len (r : Reg) (p : Int) : (r.partC p).cells.length = r.cells.length := by simp [Reg.partC]
theorem below_len (r : Reg) (n : Nat) : (r.below n).cells.length = r.cells.length := by simp [Reg.below]
theorem partC_valid {r : Reg} (h : r.valid = true) (p : Int) : (r.partC p).valid = true := sub_valid h rfl rfl (partC_len r p) fun k hk => partN_f.1 (partC_f.1 hk).1
theorem below_valid {r : Reg} (h : r.valid = true) (n : Nat) : (r.below n).valid = true := sub_valid h rfl rfl (below_len r n) fun k hk => partN_f.1 (below_f.1 hk).1
theorem partN_next {r : Reg} (hv : r.valid = true) {a b : Nat} (h : E4 r a b) : partN r a = partN r b := by
  rw [partN_yes h.1, partN_yes h.2.1, least_eq (fun _ _ e => e.symm hv) (Conn.one h)]
theorem partN_idem {r : Reg} (hv : r.valid = true) {k p : Nat} (h : partN r k = p) : partN r p = p := by
  have hf : r.f k = true := partN_f.1 (by omega)
  rw [partN_yes hf] at h
  have hp : p = least (E4 r) k := by omega
  have hfp : r.f p = true := by rw [hp]; exact (least_conn (E4 r) k).stays (Q := fun j => r.f j = true) (fun _ _ e _ => e.2.1) hf
  rw [partN_yes hfp, hp, least_idem fun _ _ e => e.symm hv]
theorem ext_bare {r : Reg} (T : List Int) : Ext (bareL r) T := fun k hk => absurd (bareL_get r k) hk
/-- A further part. -/
theorem below_halves {r : Reg} (hv : r.valid = true) (n : Nat) : Halves (r.below (n + 1)) (r.below n) (r.partC n) (bareL (r.below (n + 1))) := by
  refine ⟨below_valid hv _, below_valid hv _, partC_valid hv _, rfl, rfl, rfl, rfl, bare_laid (below_valid hv _), fun k => ?_, fun k h => ⟨?_, bareL_get _ k⟩, fun k _ => bareL_get _ k⟩
  · rw [below_f, below_f, partC_f, bareL_get]
    omega
  · cases e : (r.partC n).f k
    · rfl
    · have h1 := below_f.1 h
      have h2 := partC_f.1 e
      omega
theorem below_keeps {r : Reg} (hv : r.valid = true) (n : Nat) {T : List Int} (hT : tilingOk (r.below (n + 1)) T = true) : Keeps (r.below (n + 1)) (r.below n) (bareL (r.below (n + 1))) T := by
  refine ⟨ext_bare T, fun k hf => ?_⟩
  obtain ⟨h1, h2⟩ := tilingOk_iff.1 hT
  have hk := below_f.1 hf
  have hf1 : (r.below (n + 1)).f k = true := below_f.2 ⟨hk.1, by omega⟩
  have h0 := h2 k (f_lt hf1) hf1
  have hlt : k < T.length := by rw [(laidOk_iff.1 h1).2.1]; exact f_lt hf1
  obtain ⟨a, b⟩ := other_step h1 hlt h0
  have hE : E4 r k (other (r.below (n + 1)) T k) := ⟨partN_f.1 hk.1, partN_f.1 (below_f.1 b).1, _, (laidOk_at h1 hlt h0).way.1, (laidOk_at h1 hlt h0).way.2, by rw [← a]; exact (stepI_dims (r := r) (s := r.below (n + 1)) rfl rfl _ _).symm⟩
  have := partN_next hv hE
  exact below_f.2 (by rw [← this]; exact hk)
theorem below_step {r : Reg} (hv : r.valid = true) (n : Nat) : manyT (r.below (n + 1)) = manyT (r.below n) * manyT (r.partC n) := by
  rw [← halves_count (below_halves hv n) (fun _ => true) fun T hT => ⟨fun _ => below_keeps hv n hT, fun _ => rfl⟩, manyT_yes (below_valid hv _)]
  congr 2
  exact (List.filter_eq_self.2 fun _ _ => rfl).symm
theorem manyT_none {r : Reg} (hv : r.valid = true) (h : ∀ k, r.f k = false) : manyT r = 1 := by
  rw [manyT_yes hv]
  have : tilsR r = [bareL r] := by
    rw [tilsR_yes hv]
    refine tils_done (firstN_none fun j hj => ?_)
    unfold openB; rw [h j]; rfl
  rw [this]; rfl
theorem f_ext {r s : Reg} (hw : s.wide = r.wide) (ht : s.tall = r.tall) (hl : s.cells.length = r.cells.length) (h : ∀ k, s.f k = r.f k) : s = r := by
  cases r; cases s
  simp only at hw ht hl
  subst hw; subst ht
  congr 1
  apply List.ext_getElem hl
  intro i h1 h2
  have := h i
  unfold Reg.f at this
  simp only at this
  rw [get_at _ false i h1, get_at _ false i h2]; exact this
theorem below_all (r : Reg) : r.below r.cells.length = r := by
  refine f_ext rfl rfl (below_len r _) fun k => ?_
  rw [Bool.eq_iff_iff, below_f]
  constructor
  · exact fun h => partN_f.1 h.1
  · intro h
    refine ⟨partN_f.2 h, ?_⟩
    have h1 := partN_le (r := r) (k := k)
    have h2 := f_lt h
    omega
theorem below_zero {r : Reg} (hv : r.valid = true) : manyT (r.below 0) = 1 := manyT_none (below_valid hv 0) fun k => by
  cases e : (r.below 0).f k
  · rfl
  · have := below_f.1 e; omega
/-- A number that is no part's has no cells. -/
theorem partC_none {r : Reg} (hv : r.valid = true) {n : Nat} (h : partN r n ≠ n) (k : Nat) : (r.partC n).f k = false := by
  cases e : (r.partC n).f k
  · rfl
  · exact absurd (partN_idem hv (partC_f.1 e).2) h
theorem partC_one {r : Reg} (hv : r.valid = true) {n : Nat} (h : partN r n ≠ n) : manyT (r.partC n) = 1 := manyT_none (partC_valid hv n) (partC_none hv h)
/-- The product over the first n numbers. -/
noncomputable def prodTo (r : Reg) : Nat → Int
  | 0 => 1
  | n + 1 => prodTo r n * (if partN r n = n then manyT (r.partC n) else 1)
theorem prodTo_is {r : Reg} (hv : r.valid = true) (n : Nat) : prodTo r n = manyT (r.below n) := by
  induction n with
  | zero => rw [below_zero hv]; rfl
  | succ n ih =>
    rw [prodTo, ih, below_step hv]
    split
    · rfl
    · next h => rw [partC_one hv h]
noncomputable def prodR (r : Reg) : Int := if r.valid then prodTo r r.cells.length else -1
theorem prodR_no {r : Reg} (h : r.valid = false) : prodR r = -1 := by unfold prodR; rw [h]; rfl
theorem prodR_yes {r : Reg} (h : r.valid = true) : prodR r = prodTo r r.cells.length := by unfold prodR; rw [if_pos h]
theorem prodR_is (r : Reg) : prodR r = manyT r := by
  cases h : r.valid
  · rw [prodR_no h, manyT_no h]
  · rw [prodR_yes h, prodTo_is h, below_all]
theorem manyT_bd {r : Reg} (h : r.valid = true) : 0 ≤ manyT r ∧ manyT r ≤ 1099511627776 := by
  rw [← withL_bare h]
  have h1 := tilC_le r (bareL r).length (covB (bareL r)) 0
  have h2 : (bareL r).length ≤ 36 := by
    obtain ⟨v1, v2, v3, _⟩ := Reg.valid_iff.1 h
    have := area_in v1 v2
    rw [bareL_len h]; omega
  have h3 : 2 ^ (bareL r).length ≤ 2 ^ 36 := Nat.pow_le_pow_right (by omega) h2
  have h4 : withL r (bareL r) ≤ 2 ^ 36 := Nat.le_trans h1 h3
  omega

/-- What PartRegion says. -/
noncomputable def hasPart (r : Reg) (p : Int) : Bool := (List.range r.cells.length).any fun k => decide (0 ≤ partN r k) && decide (partN r k = p)
noncomputable def partReg (r : Reg) (p : Int) : Reg × Bool := if r.valid && hasPart r p then (r.partC p, true) else (Reg.zero, false)
theorem partReg_no1 {r : Reg} {p : Int} (h : r.valid = false) : partReg r p = (Reg.zero, false) := by unfold partReg; rw [h]; rfl
theorem partReg_no2 {r : Reg} {p : Int} (h : hasPart r p = false) : partReg r p = (Reg.zero, false) := by unfold partReg; rw [h, Bool.and_false]; rfl
theorem partReg_yes {r : Reg} {p : Int} (h : r.valid = true) (h2 : hasPart r p = true) : partReg r p = (r.partC p, true) := by unfold partReg; rw [h, h2]; rfl
theorem hasPart_iff {r : Reg} {p : Int} : hasPart r p = true ↔ ∃ k, (r.partC p).f k = true := by
  unfold hasPart
  rw [List.any_eq_true]
  constructor
  · rintro ⟨k, _, h⟩
    simp only [Bool.and_eq_true, decide_eq_true_eq] at h
    exact ⟨k, partC_f.2 h⟩
  · rintro ⟨k, h⟩
    have := partC_f.1 h
    exact ⟨k, by simpa using f_lt (partN_f.1 this.1), by simpa using this⟩
theorem hasPart_cell {r : Reg} (hv : r.valid = true) {n : Nat} : hasPart r n = true ↔ partN r n = n := by
  rw [hasPart_iff]
  constructor
  · rintro ⟨k, h⟩
    exact partN_idem hv (partC_f.1 h).2
  · intro h
    exact ⟨n, partC_f.2 ⟨by omega, h⟩⟩
end Domi

/- Dominoes across a line: plain. -/
set_option linter.unusedVariables false
namespace Domi
open Go Go.RowKit

/-- The rows, as a number, in which a domino lies across the line in the west of the column col. -/
def acrossN (w : Nat) (T : List Int) (col : Nat) : Nat → Nat
  | 0 => 0
  | y + 1 => acrossN w T col y + if T.getD (y * w + col - 1) 0 = 1 then 2 ^ y else 0
theorem acrossN_lt (w : Nat) (T : List Int) (col : Nat) (y : Nat) : acrossN w T col y < 2 ^ y := by
  induction y with
  | zero => simp [acrossN]
  | succ y ih => rw [acrossN, Nat.pow_succ]; split <;> omega
theorem acrossN_bit {w : Nat} {T : List Int} {col : Nat} {n y : Nat} (h : y < n) : (acrossN w T col n).testBit y = decide (T.getD (y * w + col - 1) 0 = 1) := by
  induction n with
  | zero => omega
  | succ n ih =>
    rw [acrossN]
    have hl := acrossN_lt w T col n
    by_cases e : y = n
    · subst e
      split
      · next h1 => rw [Nat.add_comm, Nat.testBit_two_pow_add_eq, Nat.testBit_lt_two_pow hl, decide_eq_true h1]; rfl
      · next h1 => rw [Nat.add_zero, Nat.testBit_lt_two_pow hl, decide_eq_false h1]
    · split
      · rw [Nat.add_comm, Nat.testBit_two_pow_add_gt (by omega)]; exact ih (by omega)
      · rw [Nat.add_zero]; exact ih (by omega)
theorem acrossN_eq {w : Nat} {T : List Int} {col t set : Nat} (hs : set < 2 ^ t) : acrossN w T col t = set ↔ ∀ y, y < t → (T.getD (y * w + col - 1) 0 = 1 ↔ set.testBit y = true) := by
  constructor
  · rintro rfl y hy
    rw [acrossN_bit hy, decide_eq_true_eq]
  · intro h
    refine Nat.eq_of_testBit_eq fun y => ?_
    by_cases hy : y < t
    · rw [acrossN_bit hy, Bool.eq_iff_iff, decide_eq_true_eq]; exact h y hy
    · have hp : 2 ^ t ≤ 2 ^ y := Nat.pow_le_pow_right (by omega) (by omega)
      have := acrossN_lt w T col t
      rw [Nat.testBit_lt_two_pow (by omega), Nat.testBit_lt_two_pow (by omega)]
theorem xyN {w x y : Nat} (h : x < w) : (y * w + x) % w = x ∧ (y * w + x) / w = y := by
  rw [Nat.add_comm, Nat.add_mul_mod_self_right, Nat.add_mul_div_right _ _ (by omega), Nat.mod_eq_of_lt h, Nat.div_eq_of_lt h]; omega
theorem xyN_at {w k x : Nat} (h : k % w = x) : k / w * w + x = k := by rw [← h, Nat.mul_comm]; exact Nat.div_add_mod k w

/-- Is row y in the set, and the cell k at the line? -/
def inRow (w set k : Nat) : Bool := set.testBit (k / w)
def westC (r : Reg) (w col set : Nat) : Reg := ⟨r.wide, r.tall, (List.range r.cells.length).map fun k => r.f k && (decide (k % w < col) && !(inRow w set k && decide (k % w + 1 = col)))⟩
def eastC (r : Reg) (w col set : Nat) : Reg := ⟨r.wide, r.tall, (List.range r.cells.length).map fun k => r.f k && (decide (col ≤ k % w) && !(inRow w set k && decide (k % w = col)))⟩
def crossC (r : Reg) (w col set : Nat) : List Int := (List.range r.cells.length).map fun k => if r.f k && inRow w set k then (if k % w + 1 = col then 1 else if k % w = col then 3 else 0) else 0
section
variable {r : Reg} {w t col set : Nat}
theorem westC_f {k : Nat} : (westC r w col set).f k = true ↔ r.f k = true ∧ k % w < col ∧ ¬ (inRow w set k = true ∧ k % w + 1 = col) := by
  unfold westC
  rw [f_map fun j hj => by rw [f_far hj]; rfl]
  simp only [Bool.and_eq_true, Bool.not_eq_true', Bool.and_eq_false_iff, decide_eq_true_eq, decide_eq_false_iff_not]
  cases inRow w set k <;> simp
theorem eastC_f {k : Nat} : (eastC r w col set).f k = true ↔ r.f k = true ∧ col ≤ k % w ∧ ¬ (inRow w set k = true ∧ k % w = col) := by
  unfold eastC
  rw [f_map fun j hj => by rw [f_far hj]; rfl]
  simp only [Bool.and_eq_true, Bool.not_eq_true', Bool.and_eq_false_iff, decide_eq_true_eq, decide_eq_false_iff_not]
  cases inRow w set k <;> simp
theorem crossC_get {k : Nat} : (crossC r w col set).getD k 0 = if r.f k && inRow w set k then (if k % w + 1 = col then 1 else if k % w = col then 3 else 0) else 0 := by
  unfold crossC
  exact getD_map_range fun j hj => by rw [f_far hj]; rfl
theorem crossC_nz {k : Nat} : (crossC r w col set).getD k 0 ≠ 0 ↔ r.f k = true ∧ inRow w set k = true ∧ (k % w + 1 = col ∨ k % w = col) := by
  rw [crossC_get]
  by_cases h1 : (r.f k && inRow w set k) = true
  · rw [if_pos h1]
    simp only [Bool.and_eq_true] at h1
    by_cases h2 : k % w + 1 = col
    · rw [if_pos h2]; simp [h1, h2]
    · rw [if_neg h2]
      by_cases h3 : k % w = col
      · rw [if_pos h3]; simp [h1, h3]
      · rw [if_neg h3]; simp [h2, h3]
  · rw [if_neg h1]
    simp only [Bool.and_eq_true] at h1
    constructor
    · intro h; exact absurd rfl h
    · rintro ⟨a, b, _⟩; exact absurd ⟨a, b⟩ h1
/-- The sides of the field. -/
structure Fld (r : Reg) (w t : Nat) : Prop where
  hv : r.valid = true
  hw : r.wide = w
  ht : r.tall = t
  w0 : 0 < w
  len : r.cells.length = w * t
  w6 : w ≤ 6
  t6 : t ≤ 6
theorem fld_of (h : r.valid = true) : Fld r r.wide.toNat r.tall.toNat := by
  obtain ⟨v1, v2, v3, _⟩ := Reg.valid_iff.1 h
  obtain ⟨a, ha⟩ := Int.eq_ofNat_of_zero_le (show 0 ≤ r.wide by omega)
  obtain ⟨b, hb⟩ := Int.eq_ofNat_of_zero_le (show 0 ≤ r.tall by omega)
  rw [ha, hb] at v3 ⊢
  refine ⟨h, by rw [ha]; rfl, by rw [hb]; rfl, ?_, ?_, ?_, ?_⟩
  · show 0 < a; omega
  · show r.cells.length = a * b
    have : ((a * b : Nat) : Int) = (a : Int) * b := Int.natCast_mul a b
    omega
  · show a ≤ 6; omega
  · show b ≤ 6; omega
theorem Fld.mod (F : Fld r w t) (k : Nat) : ((k : Int) % r.wide) = ((k % w : Nat) : Int) := by rw [F.hw]; rfl
theorem Fld.div (F : Fld r w t) (k : Nat) : ((k : Int) / r.wide) = ((k / w : Nat) : Int) := by rw [F.hw]; rfl
/-- Where a domino leads. -/
theorem Fld.dest (F : Fld r w t) {k u : Nat} {way : Int} (hway : 1 ≤ way ∧ way ≤ 4) (h : stepI r k way = u) : (way = 1 → u = k + 1 ∧ k % w + 1 < w) ∧ (way = 3 → u + 1 = k ∧ 0 < k % w) ∧ (way = 2 ∨ way = 4 → u % w = k % w) := by
  have hc : way = 1 ∨ way = 2 ∨ way = 3 ∨ way = 4 := by omega
  have hm := F.mod k
  have hW := F.hw
  refine ⟨?_, ?_, ?_⟩
  · rintro rfl
    unfold stepI at h; simp only [if_true] at h
    rw [hm, hW] at h
    split at h <;> omega
  · rintro rfl
    have e2 : stepI r k 3 = if 0 < (k : Int) % r.wide then (k : Int) - 1 else -1 := by unfold stepI; simp
    rw [e2, hm] at h
    split at h <;> omega
  · intro h2
    have := step_south (r := r) (c := (k : Int)) (x := way) (d := (u : Int)) h2 (by omega) h
    rw [F.mod, F.mod] at this
    omega
theorem Fld.east (F : Fld r w t) {k : Nat} (h : k % w + 1 < w) : stepI r k 1 = ((k + 1 : Nat) : Int) := by
  unfold stepI; simp only [if_true]
  rw [F.mod, F.hw, if_pos (by omega)]; rfl
theorem Fld.west (F : Fld r w t) {k : Nat} (h : (k + 1) % w ≠ 0) : stepI r ((k + 1 : Nat) : Int) 3 = (k : Int) := by
  have e2 : stepI r ((k + 1 : Nat) : Int) 3 = if 0 < ((k + 1 : Nat) : Int) % r.wide then ((k + 1 : Nat) : Int) - 1 else -1 := by unfold stepI; simp
  rw [e2, F.mod, if_pos (by omega)]; omega
/-- A cell's east. -/
theorem next_xy (hw0 : 0 < w) {k : Nat} (h : k % w + 1 < w) : (k + 1) % w = k % w + 1 ∧ (k + 1) / w = k / w := by
  have e : k + 1 = k / w * w + (k % w + 1) := by have := xyN_at (w := w) (k := k) rfl; omega
  have := xyN (w := w) (x := k % w + 1) (y := k / w) h
  rw [← e] at this; exact this
theorem sub_west (hv : r.valid = true) : (westC r w col set).valid = true := sub_valid hv rfl rfl (by simp [westC]) fun k h => (westC_f.1 h).1
theorem sub_east (hv : r.valid = true) : (eastC r w col set).valid = true := sub_valid hv rfl rfl (by simp [eastC]) fun k h => (eastC_f.1 h).1
/-- All cells at the line in the rows of the set belong to the region. -/
def Good (r : Reg) (w col set : Nat) : Prop := ∀ k, k < r.cells.length → inRow w set k = true → (k % w + 1 = col ∨ k % w = col) → r.f k = true
theorem Fld.lt (F : Fld r w t) {k : Nat} (h : k % w + 1 < w) (hk : k < r.cells.length) : k + 1 < r.cells.length := by
  have h1 := (next_xy F.w0 h).2
  have h2 : k / w < t := Nat.div_lt_of_lt_mul (by rw [← F.len]; exact hk)
  rw [F.len]
  rw [← h1] at h2
  exact (Nat.div_lt_iff_lt_mul F.w0).1 h2 |> fun h => by rw [Nat.mul_comm]; exact h
theorem cross_halves (F : Fld r w t) (hc : 1 ≤ col ∧ col < w) (hg : Good r w col set) : Halves r (westC r w col set) (eastC r w col set) (crossC r w col set) := by
  refine ⟨F.hv, sub_west F.hv, sub_east F.hv, rfl, rfl, rfl, rfl, ?_, fun k => ?_, fun k h => ⟨?_, ?_⟩, fun k h => ?_⟩
  · refine laidOk_iff.2 ⟨F.hv, by simp [crossC], fun k hk => ?_⟩
    by_cases h0 : (crossC r w col set).getD k 0 = 0
    · exact okAt_zero h0
    · obtain ⟨h1, h2, h3⟩ := crossC_nz.1 h0
      have hk := f_lt h1
      by_cases h4 : k % w + 1 = col
      · have hn := next_xy F.w0 (k := k) (by omega)
        have hr : inRow w set (k + 1) = true := by unfold inRow at h2 ⊢; rw [hn.2]; exact h2
        have hf := hg (k + 1) (F.lt (by omega) hk) hr (.inr (by omega))
        refine okAt_good (x := 1) (s := ((k + 1 : Nat) : Int)) (by rw [crossC_get, h1, h2, Bool.and_self, if_pos rfl, if_pos h4]) (F.east (by omega)) (by omega) h1 (by rw [Int.toNat_natCast]; exact hf) ?_
        rw [Int.toNat_natCast, crossC_get, hf, hr, Bool.and_self, if_pos rfl, if_neg (by omega), if_pos (by omega)]; rfl
      · have h5 : k % w = col := by omega
        obtain ⟨j, rfl⟩ : ∃ j, k = j + 1 := ⟨k - 1, by
          have : k ≠ 0 := fun e => by subst e; simp at h5; omega
          omega⟩
        have hj : j % w + 1 = col := by
          rcases Nat.lt_or_ge (j % w + 1) w with h | h
          · have := (next_xy F.w0 h).1; omega
          · have h6 := Nat.mod_lt j F.w0
            have e : j + 1 = (j / w + 1) * w + 0 := by have := xyN_at (w := w) (k := j) rfl; rw [Nat.add_mul]; omega
            have := (xyN (w := w) (x := 0) (y := j / w + 1) F.w0).1
            rw [← e] at this; omega
        have hn := next_xy F.w0 (k := j) (by omega)
        have hr : inRow w set j = true := by unfold inRow at h2 ⊢; rw [← hn.2]; exact h2
        have hf := hg j (by omega) hr (.inl hj)
        refine okAt_good (x := 3) (s := (j : Int)) (by rw [crossC_get, h1, h2, Bool.and_self, if_pos rfl, if_neg h4, if_pos h5]) (F.west (by omega)) (by omega) h1 (by rw [Int.toNat_natCast]; exact hf) ?_
        rw [Int.toNat_natCast, crossC_get, hf, hr, Bool.and_self, if_pos rfl, if_pos hj]; rfl
  · rw [westC_f, eastC_f, crossC_nz]
    constructor
    · intro hf
      by_cases h1 : inRow w set k = true
      · by_cases h2 : k % w + 1 = col
        · exact .inr (.inr ⟨hf, h1, .inl h2⟩)
        · by_cases h3 : k % w = col
          · exact .inr (.inr ⟨hf, h1, .inr h3⟩)
          · rcases Nat.lt_or_ge (k % w) col with h | h
            · exact .inl ⟨hf, h, fun e => h2 e.2⟩
            · exact .inr (.inl ⟨hf, h, fun e => h3 e.2⟩)
      · rcases Nat.lt_or_ge (k % w) col with h | h
        · exact .inl ⟨hf, h, fun e => h1 e.1⟩
        · exact .inr (.inl ⟨hf, h, fun e => h1 e.1⟩)
    · rintro (h | h | h) <;> exact h.1
  · cases e : (eastC r w col set).f k
    · rfl
    · have a := westC_f.1 h
      have b := eastC_f.1 e
      omega
  · by_cases e : (crossC r w col set).getD k 0 = 0
    · exact e
    · have a := westC_f.1 h
      have b := crossC_nz.1 e
      exact absurd ⟨b.2.1, by omega⟩ a.2.2
  · by_cases e : (crossC r w col set).getD k 0 = 0
    · exact e
    · have a := eastC_f.1 h
      have b := crossC_nz.1 e
      exact absurd ⟨b.2.1, by omega⟩ a.2.2
theorem line_cell (hw0 : 0 < w) {y col : Nat} (hc : 1 ≤ col ∧ col < w) : (y * w + col - 1) % w + 1 = col ∧ (y * w + col - 1) / w = y := by
  have e : y * w + col - 1 = y * w + (col - 1) := by omega
  have := xyN (w := w) (x := col - 1) (y := y) (by omega)
  rw [← e] at this; omega
theorem cross_iff (F : Fld r w t) (hc : 1 ≤ col ∧ col < w) (hs : set < 2 ^ t) (hg : Good r w col set) {T : List Int} (hT : tilingOk r T = true) : acrossN w T col t = set ↔ Keeps r (westC r w col set) (crossC r w col set) T := by
  obtain ⟨h1, h2⟩ := tilingOk_iff.1 hT
  have hlen := (laidOk_iff.1 h1).2.1
  rw [acrossN_eq hs]
  have at_ : ∀ k, r.f k = true → ∃ u, LiesAt r T k u (T.getD k 0) := fun k hf => lies_at h1 (by rw [hlen]; exact f_lt hf) (h2 k (f_lt hf) hf)
  have row : ∀ k, k < r.cells.length → k / w < t := fun k hk => Nat.div_lt_of_lt_mul (by rw [← F.len]; exact hk)
  constructor
  · intro hb
    have hb' : ∀ k, k < r.cells.length → k % w + 1 = col → (T.getD k 0 = 1 ↔ inRow w set k = true) := fun k hk hx => by
      have := hb (k / w) (row k hk)
      have e : k / w * w + col - 1 = k := by have := xyN_at (w := w) (k := k) rfl; omega
      rw [e] at this; exact this
    refine ⟨fun k hk => ?_, fun k hf => ?_⟩
    · obtain ⟨a, b, c⟩ := crossC_nz.1 hk
      by_cases h4 : k % w + 1 = col
      · rw [(hb' k (f_lt a) h4).2 b, crossC_get, a, b, Bool.and_self, if_pos rfl, if_pos h4]
      · have h5 : k % w = col := by omega
        obtain ⟨j, rfl⟩ : ∃ j, k = j + 1 := ⟨k - 1, by
          have : k ≠ 0 := fun e => by subst e; simp at h5; omega
          omega⟩
        have hj : j % w + 1 = col := by
          rcases Nat.lt_or_ge (j % w + 1) w with h | h
          · have := (next_xy F.w0 h).1; omega
          · have h6 := Nat.mod_lt j F.w0
            have e : j + 1 = (j / w + 1) * w + 0 := by have := xyN_at (w := w) (k := j) rfl; rw [Nat.add_mul]; omega
            have := (xyN (w := w) (x := 0) (y := j / w + 1) F.w0).1
            rw [← e] at this; omega
        have hn := next_xy F.w0 (k := j) (by omega)
        have hr : inRow w set j = true := by unfold inRow at b ⊢; rw [← hn.2]; exact b
        have hjl : j < r.cells.length := by have := f_lt a; omega
        have hT1 := (hb' j hjl hj).2 hr
        obtain ⟨u, G⟩ := at_ j (hg j hjl hr (.inl hj))
        rw [hT1] at G
        have hu := ((F.dest G.hway G.hst).1 rfl).1
        subst hu
        rw [G.ot, crossC_get, a, b, Bool.and_self, if_pos rfl, if_neg h4, if_pos h5]; rfl
    · obtain ⟨a, b, c⟩ := westC_f.1 hf
      obtain ⟨u, G⟩ := at_ k a
      have e : other r T k = u := by unfold other; rw [G.hst, Int.toNat_natCast]
      rw [e]
      obtain ⟨c1, c2, c3⟩ := F.dest G.hway G.hst
      have hway := G.hway
      have hx : u % w < col := by
        by_cases w1 : T.getD k 0 = 1
        · obtain ⟨rfl, h6⟩ := c1 w1
          rw [(next_xy F.w0 h6).1]
          rcases Nat.lt_or_ge (k % w + 1) col with h | h
          · exact h
          · have h7 : k % w + 1 = col := by omega
            exact absurd ⟨(hb' k (f_lt a) h7).1 w1, h7⟩ c
        · by_cases w3 : T.getD k 0 = 3
          · obtain ⟨h6, h7⟩ := c2 w3
            have h8 : u % w < w := Nat.mod_lt _ F.w0
            rcases Nat.lt_or_ge (u % w + 1) w with h | h
            · have := (next_xy F.w0 h).1
              rw [h6] at this; omega
            · have e : u + 1 = (u / w + 1) * w + 0 := by have := xyN_at (w := w) (k := u) rfl; rw [Nat.add_mul]; omega
              have := (xyN (w := w) (x := 0) (y := u / w + 1) F.w0).1
              rw [← e, h6] at this; omega
          · rw [c3 (by omega)]; exact b
      refine westC_f.2 ⟨G.ft, hx, fun ⟨h6, h7⟩ => ?_⟩
      have h8 := (hb' u (f_lt G.ft) h7).2 h6
      rw [G.ot] at h8
      have h9 : T.getD k 0 = 3 := by unfold backI at h8; omega
      obtain ⟨g1, g2⟩ := c2 h9
      have := (next_xy F.w0 (k := u) (by omega)).1
      rw [g1] at this; omega
  · rintro ⟨he, hcl⟩ y hy
    obtain ⟨l1, l2⟩ := line_cell F.w0 (y := y) hc
    generalize hk : y * w + col - 1 = k at l1 l2 ⊢
    have hkl : k < r.cells.length := by
      rw [F.len, Nat.mul_comm]
      exact (Nat.div_lt_iff_lt_mul F.w0).1 (by rw [l2]; exact hy)
    have hr : inRow w set k = set.testBit y := by unfold inRow; rw [l2]
    constructor
    · intro hT1
      cases hb : set.testBit y
      · exfalso
        have hf : r.f k = true := by
          cases e : r.f k
          · rw [laid_out h1 e] at hT1; omega
          · rfl
        have hw : (westC r w col set).f k = true := westC_f.2 ⟨hf, by omega, fun ⟨a, _⟩ => by rw [hr, hb] at a; cases a⟩
        have := hcl k hw
        obtain ⟨u, G⟩ := at_ k hf
        have e : other r T k = u := by unfold other; rw [G.hst, Int.toNat_natCast]
        rw [e] at this
        obtain ⟨rfl, h6⟩ := (F.dest G.hway G.hst).1 hT1
        have h7 := (westC_f.1 this).2.1
        rw [(next_xy F.w0 h6).1] at h7; omega
      · rfl
    · intro hb
      have hf := hg k hkl (by rw [hr]; exact hb) (.inl l1)
      have hC : (crossC r w col set).getD k 0 = 1 := by rw [crossC_get, hf, hr, hb, Bool.and_self, if_pos rfl, if_pos l1]
      rw [he k (by rw [hC]; decide), hC]
end

/-- In how many tilings dominoes lie across just in the rows of the set. -/
def acCount (r : Reg) (col set : Nat) : Nat := ((tilsR r).filter fun T => decide (acrossN r.wide.toNat T col r.tall.toNat = set)).length
def acMany (r : Reg) (col set : Int) : Int := if r.valid && inB col 1 (r.wide - 1) && inB set 0 ((2 : Int) ^ r.tall.toNat - 1) then (acCount r col.toNat set.toNat : Int) else -1
section
variable {r : Reg} {w t col set : Nat}
theorem acCount_split (F : Fld r w t) (hc : 1 ≤ col ∧ col < w) (hs : set < 2 ^ t) (hg : Good r w col set) : (acCount r col set : Int) = manyT (westC r w col set) * manyT (eastC r w col set) := by
  rw [← halves_count (cross_halves F hc hg) _ fun T hT => (decide_eq_true_iff (p := acrossN w T col t = set)).trans (cross_iff F hc hs hg hT)]
  unfold acCount
  rw [F.hw, F.ht]; rfl
theorem acCount_none (F : Fld r w t) (hc : 1 ≤ col ∧ col < w) (hs : set < 2 ^ t) {k : Nat} (hk : k < r.cells.length) (hr : inRow w set k = true) (hx : k % w + 1 = col ∨ k % w = col) (hf : r.f k = false) : acCount r col set = 0 := by
  unfold acCount
  rw [List.filter_eq_nil_iff.2, List.length_nil]
  intro T hT h
  have hT := mem_tilsR'.1 hT
  have h := of_decide_eq_true h
  rw [F.hw, F.ht] at h
  have h := (acrossN_eq hs).1 h
  obtain ⟨h1, h2⟩ := tilingOk_iff.1 hT
  have hlen := (laidOk_iff.1 h1).2.1
  have hrow : k / w < t := Nat.div_lt_of_lt_mul (by rw [← F.len]; exact hk)
  have hb := (h _ hrow).2 hr
  have hkx := xyN_at (w := w) (k := k) rfl
  rcases hx with hx | hx
  · have e : k / w * w + col - 1 = k := by omega
    rw [Int.toNat_natCast, e, laid_out h1 hf] at hb
    omega
  · obtain ⟨j, hj⟩ : ∃ j, k / w * w + col - 1 = j := ⟨_, rfl⟩
    have e : j + 1 = k := by omega
    rw [Int.toNat_natCast, hj] at hb
    obtain ⟨u, G⟩ := lies_at h1 (c := j) (by omega) (by rw [hb]; decide)
    rw [hb] at G
    have hu := ((F.dest G.hway G.hst).1 rfl).1
    have := G.ft
    rw [hu, e, hf] at this; cases this
/-- The west's colours. -/
def shade (w k : Nat) : Int := 1 - ((k % w + k / w) % 2 : Nat) * 2
theorem shade_sum {A : Reg} (F : Fld A w t) (hb : A.bal = true) : sumI (fun k => if A.f k then shade w k else 0) A.cells.length = 0 := by
  have h1 : sumI (fun k => if A.f k then shade w k else 0) A.cells.length = sumI (fun k => 2 * (if A.cells.getD k false && darkB A.wide k then 1 else 0) + (-1) * (if A.f k then 1 else 0)) A.cells.length := by
    refine sumI_congr fun k _ => ?_
    have hd : darkB A.wide (k : Int) = decide ((k % w + k / w) % 2 = 0) := by
      unfold darkB
      rw [F.mod, F.div]
      rw [Bool.eq_iff_iff]
      simp only [beq_iff_eq, decide_eq_true_eq]
      omega
    rw [hd]
    unfold shade
    show (if A.f k = true then _ else _) = 2 * (if (A.f k && _) = true then (1 : Int) else 0) + _
    cases A.f k
    · rfl
    · rcases Nat.mod_two_eq_zero_or_one (k % w + k / w) with h | h <;> rw [h] <;> rfl
  rw [h1, sumI_add, sumI_mul, sumI_mul, sumI_num, sumI_num, num_cnt]
  have h2 := bal_even hb
  have hv := F.hv
  rw [Reg.many_yes hv] at h2
  have h3 : A.darks = qTo (fun k => darkB A.wide k) A.cells A.cells.length := darkTo_q A _
  rw [qTo_num] at h3
  have h4 : (num A.cells.length fun k => (A.cells.getD k false && darkB A.wide k) = true) = num A.cells.length fun k => A.cells.getD k false = true ∧ darkB A.wide k = true := num_congr fun k _ => by simp
  rw [h4]
  omega
theorem west_shade (F : Fld r w t) (hc : 1 ≤ col ∧ col < w) (hs : set < 2 ^ t) (hn : acCount r col set ≠ 0) :
    sumI (fun j => (if r.f j && decide (j % w < col) then shade w j else 0) - (if inRow w set j && decide (j % w + 1 = col) then shade w j else 0)) r.cells.length = 0 := by
  have hg : Good r w col set := fun k hk hr hx => by
    cases e : r.f k
    · exact absurd (acCount_none F hc hs hk hr hx e) hn
    · rfl
  have h1 := acCount_split F hc hs hg
  have hA := sub_west (w := w) (col := col) (set := set) F.hv
  have hW : ∃ T, tilingOk (westC r w col set) T = true := by
    have h2 : manyT (westC r w col set) ≠ 0 := fun e => by rw [e, Int.zero_mul] at h1; omega
    rw [manyT_yes hA] at h2
    cases hl : tilsR (westC r w col set) with
    | nil => rw [hl] at h2; simp at h2
    | cons T l => exact ⟨T, mem_tilsR'.1 (by rw [hl]; simp)⟩
  obtain ⟨T, hT⟩ := hW
  have FA : Fld (westC r w col set) w t := ⟨hA, F.hw, F.ht, F.w0, by rw [show (westC r w col set).cells.length = r.cells.length by simp [westC]]; exact F.len, F.w6, F.t6⟩
  have h3 := shade_sum FA (tiling_bal hT)
  rw [show (westC r w col set).cells.length = r.cells.length by simp [westC]] at h3
  refine Eq.trans (sumI_congr fun k hk => ?_) h3
  cases hf : (westC r w col set).f k
  · rw [if_neg (show ¬ false = true by decide)]
    cases hr : r.f k
    · have : (inRow w set k && decide (k % w + 1 = col)) = false := by
        cases e : (inRow w set k && decide (k % w + 1 = col))
        · rfl
        · simp only [Bool.and_eq_true, decide_eq_true_eq] at e
          rw [hg k hk e.1 (.inl e.2)] at hr; cases hr
      rw [this]; rfl
    · by_cases hx : k % w < col
      · have : (inRow w set k && decide (k % w + 1 = col)) = true := by
          cases e : (inRow w set k && decide (k % w + 1 = col))
          · rw [westC_f.2 ⟨hr, hx, fun ⟨a, b⟩ => by rw [a, decide_eq_true b] at e; cases e⟩] at hf; cases hf
          · rfl
        rw [this, decide_eq_true hx]
        simp
      · rw [decide_eq_false hx, decide_eq_false (show ¬ k % w + 1 = col by omega)]
        simp
  · obtain ⟨a, b, c⟩ := westC_f.1 hf
    have : (inRow w set k && decide (k % w + 1 = col)) = false := by
      cases e : (inRow w set k && decide (k % w + 1 = col))
      · rfl
      · simp only [Bool.and_eq_true, decide_eq_true_eq] at e
        exact absurd e c
    rw [this, a, decide_eq_true b]
    simp
end
/-- The sum over the first n sets. -/
def acSum (r : Reg) (col : Nat) : Nat → Int
  | 0 => 0
  | n + 1 => acSum r col n + (acCount r col n : Int)
theorem acSum_len (r : Reg) (col n : Nat) : acSum r col n = (((tilsR r).filter fun T => decide (acrossN r.wide.toNat T col r.tall.toNat < n)).length : Nat) := by
  induction n with
  | zero => rw [List.filter_eq_nil_iff.2 fun T _ => by simp]; rfl
  | succ n ih =>
    rw [acSum, ih]
    unfold acCount
    generalize tilsR r = l
    have : ∀ l : List (List Int), (l.filter fun T => decide (acrossN r.wide.toNat T col r.tall.toNat < n + 1)).length = (l.filter fun T => decide (acrossN r.wide.toNat T col r.tall.toNat < n)).length + (l.filter fun T => decide (acrossN r.wide.toNat T col r.tall.toNat = n)).length := by
      intro l
      induction l with
      | nil => rfl
      | cons T l ih =>
        rw [filt_cons, filt_cons, filt_cons, ih]
        simp only [decide_eq_true_eq]
        generalize acrossN r.wide.toNat T col r.tall.toNat = x
        split <;> split <;> split <;> omega
    rw [this l]; omega
theorem acSum_all {r : Reg} (hv : r.valid = true) (col : Nat) : acSum r col (2 ^ r.tall.toNat) = manyT r := by
  rw [acSum_len, manyT_yes hv, List.filter_eq_self.2]
  intro T _
  exact decide_eq_true (acrossN_lt _ _ _ _)
theorem acSum_mono {r : Reg} {col : Nat} (n : Nat) : 0 ≤ acSum r col n ∧ acSum r col n ≤ ((tilsR r).length : Int) := by
  rw [acSum_len]
  have := List.length_filter_le (fun T => decide (acrossN r.wide.toNat T col r.tall.toNat < n)) (tilsR r)
  omega
theorem acCount_le (r : Reg) (col set : Nat) : acCount r col set ≤ (tilsR r).length := List.length_filter_le _ _
end Domi
