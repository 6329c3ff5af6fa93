/- The search over free places that hang together, and the relaxation over pairs: plain. -/
import Derived.Test.YtjdnfmpnfogmpaaPartP
namespace Domi
open Go Go.RowKit

/-! ### the search -/
/-- What a search that begins at the places K does to the marks. -/
structure Dfs (E : Nat → Nat → Prop) (fr : Nat → Bool) (M M' : List Bool) (K : Nat → Prop) : Prop where
  len : M'.length = M.length
  grow : ∀ j, M.getD j false = true → M'.getD j false = true
  reach : ∀ j, M'.getD j false = true → M.getD j false = true ∨ ∃ k, K k ∧ fr k = true ∧ Conn E k j
  clos : ∀ j i, M'.getD j false = true → M.getD j false = false → E j i → M'.getD i false = true
  here : ∀ k, K k → fr k = true → M'.getD k false = true
section
variable {E : Nat → Nat → Prop} {fr : Nat → Bool} {M M1 M' : List Bool} {K K' : Nat → Prop}
theorem Dfs.nothing (h : ∀ k, K k → fr k = true → M.getD k false = true) : Dfs E fr M M K :=
  ⟨rfl, fun _ h => h, fun _ h => .inl h, fun j i h1 h2 _ => (by rw [h1] at h2; cases h2), h⟩
theorem Dfs.congr (h : Dfs E fr M M' K) (e : ∀ k, fr k = true → (K k ↔ K' k)) : Dfs E fr M M' K' :=
  ⟨h.len, h.grow, fun j hj => (h.reach j hj).imp id fun ⟨k, hk, hf, hc⟩ => ⟨k, (e k hf).1 hk, hf, hc⟩, h.clos, fun k hk hf => h.here k ((e k hf).2 hk) hf⟩
theorem Dfs.seq (h : Dfs E fr M M1 K) (g : Dfs E fr M1 M' K') : Dfs E fr M M' (fun k => K k ∨ K' k) := by
  refine ⟨g.len.trans h.len, fun j hj => g.grow j (h.grow j hj), fun j hj => ?_, fun j i hj hn e => ?_, fun k hk hf => ?_⟩
  · rcases g.reach j hj with hj | ⟨k, hk, hf, hc⟩
    · rcases h.reach j hj with hj | ⟨k, hk, hf, hc⟩
      · exact .inl hj
      · exact .inr ⟨k, .inl hk, hf, hc⟩
    · exact .inr ⟨k, .inr hk, hf, hc⟩
  · cases h1 : M1.getD j false
    · exact g.clos j i hj h1 e
    · exact g.grow i (h.clos j i h1 hn e)
  · rcases hk with hk | hk
    · exact g.grow k (h.here k hk hf)
    · exact g.here k hk hf
theorem getB_put (l : List Bool) (i j : Nat) (v : Bool) (hi : i < l.length) : (l.set i v).getD j false = if i = j then v else l.getD j false := by
  simp only [List.getD_eq_getElem?_getD, List.getElem?_set]
  by_cases h : i = j
  · subst h; simp [hi]
  · simp [h]
/-- A place is marked, and then all its neighbours are searched. -/
theorem Dfs.visit {c : Nat} (hc : c < M.length) (hE : ∀ a b, E a b → fr b = true) (g : Dfs E fr (M.set c true) M' (fun j => E c j)) (hf : fr c = true) : Dfs E fr M M' (fun k => k = c) := by
  have hget : ∀ j, (M.set c true).getD j false = if c = j then true else M.getD j false := fun j => getB_put M c j true hc
  refine ⟨by simpa using g.len, fun j hj => g.grow j ?_, fun j hj => ?_, fun j i hj hn e => ?_, fun k hk _ => ?_⟩
  · rw [hget]; split
    · rfl
    · exact hj
  · rcases g.reach j hj with hj | ⟨k, hk, _, hcn⟩
    · rw [hget] at hj
      by_cases e : c = j
      · subst e; exact .inr ⟨c, rfl, hf, .refl _⟩
      · rw [if_neg e] at hj; exact .inl hj
    · exact .inr ⟨c, rfl, hf, (Conn.one hk).trans hcn⟩
  · by_cases e2 : c = j
    · subst e2; exact g.here i e (hE _ _ e)
    · exact g.clos j i hj (by rw [hget, if_neg e2]; exact hn) e
  · subst hk; exact g.grow _ (by rw [hget, if_pos rfl])

/-- How many places bear no mark. -/
noncomputable def unmet (M : List Bool) : Nat := num M.length (fun j => M.getD j false = false)
theorem unmet_mono (hl : M'.length = M.length) (h : ∀ j, M.getD j false = true → M'.getD j false = true) : unmet M' ≤ unmet M := by
  unfold unmet
  rw [hl]
  refine num_mono fun k _ hk => ?_
  cases h2 : M.getD k false
  · rfl
  · rw [h k h2] at hk; cases hk
theorem unmet_put {c : Nat} (hc : c < M.length) (hn : M.getD c false = false) : unmet (M.set c true) < unmet M := by
  have hget : ∀ j, (M.set c true).getD j false = if c = j then true else M.getD j false := fun j => getB_put M c j true hc
  unfold unmet
  rw [List.length_set]
  refine num_lt (fun k _ hk => ?_) hc (by rw [hget, if_pos rfl]; decide) hn
  rw [hget] at hk
  split at hk
  · cases hk
  · exact hk

/-- The marks behind a search from all free places before c. -/
def Marked (E : Nat → Nat → Prop) (fr : Nat → Bool) (n : Nat) (M : List Bool) (c : Nat) : Prop :=
  M.length = n ∧ ∀ j, M.getD j false = true ↔ (fr j = true ∧ least E j < c)
theorem Marked.start {n : Nat} : Marked E fr n (List.replicate n false) 0 :=
  ⟨by simp, fun j => ⟨fun h => by simp [List.getD_eq_getElem?_getD, List.getElem?_replicate] at h; split at h <;> simp at h, fun h => absurd h.2 (Nat.not_lt_zero _)⟩⟩
theorem fr_conn (hE : ∀ a b, E a b → fr b = true) {a b : Nat} (h : Conn E a b) (ha : fr a = true) : fr b = true := h.stays (Q := fun k => fr k = true) (fun a b e _ => hE a b e) ha
theorem Marked.skip {n c : Nat} (hs : ∀ a b, E a b → E b a) (hE : ∀ a b, E a b → fr b = true) (h : Marked E fr n M c) (hc : fr c = false ∨ M.getD c false = true) : Marked E fr n M (c + 1) := by
  refine ⟨h.1, fun j => (h.2 j).trans ⟨fun ⟨a, b⟩ => ⟨a, by omega⟩, fun ⟨a, b⟩ => ⟨a, ?_⟩⟩⟩
  by_cases e : least E j = c
  · exfalso
    have hcj := least_conn E j
    rw [e] at hcj
    have hfc := fr_conn hE hcj a
    rcases hc with hc | hc
    · rw [hc] at hfc; cases hfc
    · have := ((h.2 c).1 hc).2
      have e2 := least_eq hs hcj
      omega
  · omega
theorem Marked.next {n c : Nat} (hs : ∀ a b, E a b → E b a) (hE : ∀ a b, E a b → fr b = true) (h : Marked E fr n M c) (hf : fr c = true) (hm : M.getD c false = false) (g : Dfs E fr M M' (fun k => k = c)) :
    Marked E fr n M' (c + 1) ∧ least E c = c := by
  have hl : least E c = c := by
    have h1 := least_self (E := E) c
    have h2 : ¬ least E c < c := fun hlt => by have := (h.2 c).2 ⟨hf, hlt⟩; rw [hm] at this; cases this
    omega
  have hkc : ∀ a b, Conn E a b → M'.getD a false = true → M.getD a false = false → (∀ j, Conn E a j → M.getD j false = false) → M'.getD b false = true := by
    intro a b hab
    induction hab with
    | refl => exact fun h _ _ => h
    | step hab e ih => exact fun h1 h2 h3 => g.clos _ _ (ih h1 h2 h3) (h3 _ hab) e
  refine ⟨⟨g.len.trans h.1, fun j => ⟨fun hj => ?_, fun ⟨a, b⟩ => ?_⟩⟩, hl⟩
  · rcases g.reach j hj with hj | ⟨k, rfl, hfk, hcn⟩
    · have := (h.2 j).1 hj; exact ⟨this.1, by omega⟩
    · exact ⟨fr_conn hE hcn hfk, by rw [← least_eq hs hcn, hl]; omega⟩
  · by_cases e : least E j = c
    · have hcj := least_conn E j
      rw [e] at hcj
      refine hkc c j (hcj.symm hs) (g.here c rfl hf) hm fun i hi => ?_
      cases hmi : M.getD i false
      · rfl
      · have := ((h.2 i).1 hmi).2
        rw [← least_eq hs hi, hl] at this
        omega
    · exact g.grow j ((h.2 j).2 ⟨a, by omega⟩)
theorem Marked.met {n c : Nat} (h : Marked E fr n M c) (hm : M.getD c false = true) : least E c ≠ c := by
  have := ((h.2 c).1 hm).2; omega

/-- How many parts the free places before c have. -/
noncomputable def rootsN (E : Nat → Nat → Prop) (fr : Nat → Bool) (c : Nat) : Nat := num c (fun k => fr k = true ∧ least E k = k)
theorem rootsN_zero : rootsN E fr 0 = 0 := rfl
theorem rootsN_yes {c : Nat} (h1 : fr c = true) (h2 : least E c = c) : rootsN E fr (c + 1) = rootsN E fr c + 1 := by unfold rootsN; rw [num_succ, if_pos ⟨h1, h2⟩]
theorem rootsN_no {c : Nat} (h : fr c = false ∨ least E c ≠ c) : rootsN E fr (c + 1) = rootsN E fr c := by
  unfold rootsN; rw [num_succ, if_neg (by rintro ⟨a, b⟩; rcases h with h | h; rw [h] at a; cases a; exact h b)]; rfl
end

/-! ### relaxation over all pairs -/
structure HInv (E : Nat → Nat → Prop) (fr : Nat → Bool) (n : Nat) (L : List Int) : Prop where
  len : L.length = n
  no : ∀ k, k < n → fr k = false → L.getD k 0 = -1
  yes : ∀ k, k < n → fr k = true → 0 ≤ L.getD k 0 ∧ L.getD k 0 ≤ k ∧ Conn E k (L.getD k 0).toNat
section
variable {E : Nat → Nat → Prop} {fr : Nat → Bool} {n : Nat} {L : List Int}
theorem HInv.bd (h : HInv E fr n L) {k : Nat} (hk : k < n) : -1 ≤ L.getD k 0 ∧ L.getD k 0 ≤ k := by
  cases hf : fr k
  · rw [h.no k hk hf]; omega
  · have := h.yes k hk hf; omega
theorem HInv.fr_iff (h : HInv E fr n L) {k : Nat} (hk : k < n) : fr k = true ↔ 0 ≤ L.getD k 0 := by
  cases hf : fr k
  · rw [h.no k hk hf]; simp
  · exact ⟨fun _ => (h.yes k hk hf).1, fun _ => rfl⟩
theorem HInv.put (h : HInv E fr n L) {k j : Nat} (hk : k < n) (hj : j < n) (e : E k j) (hlt : L.getD j 0 < L.getD k 0) (h0 : 0 ≤ L.getD j 0) : HInv E fr n (L.set k (L.getD j 0)) := by
  have hget : ∀ i, (L.set k (L.getD j 0)).getD i 0 = if k = i then L.getD j 0 else L.getD i 0 := fun i => getD_put L k i _ (by rw [h.len]; exact hk)
  have hfk := (h.fr_iff hk).2 (by omega)
  have hfj := (h.fr_iff hj).2 h0
  refine ⟨by simpa using h.len, fun i hi hf => ?_, fun i hi hf => ?_⟩
  · rw [hget, if_neg (by rintro rfl; rw [hfk] at hf; cases hf)]; exact h.no i hi hf
  · rw [hget]
    by_cases e2 : k = i
    · subst e2; rw [if_pos rfl]
      have := h.yes k hk hfk
      exact ⟨h0, by omega, (Conn.one e).trans (h.yes j hj hfj).2.2⟩
    · rw [if_neg e2]; exact h.yes i hi hf
/-- What is still to lose. -/
def sumN (n : Nat) (L : List Int) : Nat := match n with | 0 => 0 | m + 1 => sumN m L + (L.getD m 0).toNat
theorem sumN_put {k : Nat} {x : Int} (hk : k < L.length) (h0 : 0 ≤ x) (hx : x < L.getD k 0) : ∀ m, sumN m (L.set k x) + (if k < m then 1 else 0) ≤ sumN m L := by
  intro m
  have hget : ∀ i, (L.set k x).getD i 0 = if k = i then x else L.getD i 0 := fun i => getD_put L k i _ hk
  induction m with
  | zero => simp [sumN]
  | succ m ih =>
    unfold sumN
    rw [hget]
    by_cases e : k = m
    · subst e; rw [if_pos rfl, if_pos (by omega)]; rw [if_neg (by omega)] at ih; omega
    · rw [if_neg e]
      by_cases e2 : k < m
      · rw [if_pos e2] at ih; rw [if_pos (by omega)]; omega
      · rw [if_neg e2] at ih; rw [if_neg (by omega)]; omega
/-- A round that turned nothing: the least numbers stand. -/
theorem HInv.done (h : HInv E fr n L) (hs : ∀ a b, E a b → E b a) (hE : ∀ a b, E a b → a < n ∧ b < n ∧ fr b = true) (hq : ∀ k j, k < n → j < n → E k j → ¬ (L.getD j 0 < L.getD k 0 ∧ 0 ≤ L.getD j 0)) :
    ∀ k, k < n → fr k = true → L.getD k 0 = least E k := by
  have hstep : ∀ a b, E a b → L.getD a 0 = L.getD b 0 := fun a b e => by
    have ha := hE _ _ e
    have hb := hE _ _ (hs _ _ e)
    have h1 := hq a b ha.1 ha.2.1 e
    have h2 := hq b a ha.2.1 ha.1 (hs _ _ e)
    have h3 := (h.fr_iff ha.2.1).1 ha.2.2
    have h4 := (h.fr_iff hb.2.1).1 hb.2.2
    omega
  have hconn : ∀ a b, Conn E a b → L.getD a 0 = L.getD b 0 := fun a b hab => by
    induction hab with
    | refl => rfl
    | step _ e ih => exact ih.trans (hstep _ _ e)
  intro k hk hf
  have hc := least_conn E k
  have hl := least_self (E := E) k
  have hfm : fr (least E k) = true := fr_conn (fun a b e => (hE a b e).2.2) hc hf
  have hy := h.yes (least E k) (by omega) hfm
  have h1 := hconn _ _ hc
  have h2 := least_le (hc.trans hy.2.2)
  omega
end
end Domi
