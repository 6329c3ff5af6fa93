/- Plain words and laws on memory, regions and dominoes, of several texts. -/
import Derived.Test.YtklifibiadiinaaZa

/- All tilings with the dominoes of a list, in order: plain. -/
set_option linter.unusedVariables false
namespace Domi
open Go Go.RowKit

/-- All tilings with the dominoes of a list, by as many steps as are needed. -/
def tils : Nat → Reg → List Int → List (List Int)
  | 0, _, _ => []
  | n + 1, r, L => match firstN r L with
    | none => [L]
    | some k => (if free r L k 1 then tils n r (layL r L k 1) else []) ++ (if free r L k 2 then tils n r (layL r L k 2) else [])
def tilsR (r : Reg) : List (List Int) := if r.valid then tils 40 r (bareL r) else []
theorem tilsR_no {r : Reg} (h : r.valid = false) : tilsR r = [] := by unfold tilsR; rw [h]; rfl
theorem tilsR_yes {r : Reg} (h : r.valid = true) : tilsR r = tils 40 r (bareL r) := by unfold tilsR; rw [if_pos h]
section
variable {n : Nat} {r : Reg} {L : List Int} {k : Nat}
theorem tils_done (h : firstN r L = none) : tils (n + 1) r L = [L] := by rw [tils, h]
theorem tils_some (h : firstN r L = some k) : tils (n + 1) r L = (if free r L k 1 then tils n r (layL r L k 1) else []) ++ (if free r L k 2 then tils n r (layL r L k 2) else []) := by rw [tils, h]
end
/-- The first of a list of lists, and whether there is one. -/
def headQ : List (List Int) → List Int × Bool
  | [] => ([], false)
  | x :: _ => (x, true)
theorem headQ_app (a b : List (List Int)) : headQ (a ++ b) = if (headQ a).2 then headQ a else headQ b := by cases a <;> rfl
theorem compl_head (r : Reg) : ∀ (n : Nat) (L : List Int), compl n r L = headQ (tils n r L) := by
  intro n
  induction n with
  | zero => intro L; rfl
  | succ n ih =>
    intro L
    cases hf : firstN r L with
    | none => rw [compl_done hf, tils_done hf]; rfl
    | some k =>
      rw [tils_some hf, headQ_app, compl, hf]
      simp only [ih]
      generalize tils n r (layL r L k 1) = a
      generalize tils n r (layL r L k 2) = b
      cases free r L k 1 <;> cases free r L k 2 <;> cases a <;> cases b <;> rfl
theorem firstR_head {r : Reg} (h : r.valid = true) : firstR r = headQ (tilsR r) := by
  unfold firstR; rw [completeR_yes (bare_laid h), tilsR_yes h, compl_head]
theorem firstR_no {r : Reg} (h : r.valid = false) : firstR r = ([], false) := by
  unfold firstR; rw [completeR_no (laidOk_no1 h)]

/-- T has all dominoes of L. -/
def Ext (L T : List Int) : Prop := ∀ k, L.getD k 0 ≠ 0 → T.getD k 0 = L.getD k 0
theorem Ext.refl (L : List Int) : Ext L L := fun _ _ => rfl
theorem tilingOk_iff {r : Reg} {T : List Int} : tilingOk r T = true ↔ laidOk r T = true ∧ ∀ k, k < r.cells.length → r.f k = true → T.getD k 0 ≠ 0 := by
  unfold tilingOk fullB
  rw [Bool.and_eq_true, List.all_eq_true]
  refine and_congr Iff.rfl ⟨fun h k hk hf e => ?_, fun h k hk => ?_⟩
  · have := h k (by simpa using hk)
    rw [hf, e] at this; simp at this
  · cases hf : r.f k
    · rfl
    · have := h k (by simpa using hk) hf
      simpa using this
theorem getD_far {L : List Int} {k : Nat} (h : L.length ≤ k) : L.getD k 0 = 0 := by
  rw [List.getD_eq_getElem?_getD, List.getElem?_eq_none h]; rfl
/-- An entry outside of the region is 0. -/
theorem laid_out {r : Reg} {L : List Int} (h : laidOk r L = true) {k : Nat} (hf : r.f k = false) : L.getD k 0 = 0 := by
  by_cases hk : k < L.length
  · by_cases h0 : L.getD k 0 = 0
    · exact h0
    · have := (laidOk_at h hk h0).here
      rw [hf] at this; cases this
  · exact getD_far (by omega)
/-- The two cells of a domino of T, where L has none. -/
theorem ext_free {r : Reg} {L T : List Int} (hL : laidOk r L = true) (hT : laidOk r T = true) (he : Ext L T) {k : Nat} (h0 : T.getD k 0 ≠ 0) (hk0 : L.getD k 0 = 0) : free r L k (T.getD k 0) = true ∧ Ext (layL r L k (T.getD k 0)) T := by
  have hk : k < T.length := by
    rcases Nat.lt_or_ge k T.length with h | h
    · exact h
    · exact absurd (getD_far h) h0
  obtain ⟨t, F⟩ := lies_at hT hk h0
  have hlT := (laidOk_iff.1 hT).2.1
  have hlL := (laidOk_iff.1 hL).2.1
  have ht0 : L.getD t 0 = 0 := by
    by_cases e : L.getD t 0 = 0
    · exact e
    · have h1 := he t e
      obtain ⟨m, G⟩ := lies_at hL (c := t) (by have := F.ht; omega) e
      have h2 : stepI r t (L.getD t 0) = (k : Int) := by rw [← h1, F.ot]; exact F.hback
      have h3 : m = k := by have := G.hst; rw [h2] at this; omega
      subst h3
      have := (backI_way G.hway).1
      rw [← G.ot, hk0] at this
      omega
  have hf : free r L k (T.getD k 0) = true := by
    refine free_iff.2 ⟨by omega, by rw [F.hst]; omega, by rw [Int.toNat_natCast]; exact F.fc, by rw [F.hst, Int.toNat_natCast]; exact F.ft, by rw [Int.toNat_natCast]; exact hk0, by rw [F.hst, Int.toNat_natCast]; exact ht0⟩
  refine ⟨hf, fun j hj => ?_⟩
  obtain ⟨t', G⟩ := free_at hL hf
  have e : t' = t := by have h1 := G.hst; rw [F.hst] at h1; omega
  subst e
  rw [layL_get G] at hj ⊢
  split
  · next e => subst e; exact F.ot
  · next e =>
    rw [if_neg e] at hj
    split
    · next e2 => subst e2; rfl
    · next e2 => rw [if_neg e2] at hj; exact he j hj
theorem ext_lay {r : Reg} {L : List Int} (hL : laidOk r L = true) {k : Nat} {way : Int} (hf : free r L k way = true) : Ext L (layL r L k way) ∧ (layL r L k way).getD k 0 = way := by
  obtain ⟨t, G⟩ := free_at hL hf
  refine ⟨fun j hj => ?_, ?_⟩
  · rw [layL_get G]
    have n1 : t ≠ j := fun e => hj (by rw [← e]; exact G.ot)
    have n2 : k ≠ j := fun e => hj (by rw [← e]; exact G.oc)
    rw [if_neg n1, if_neg n2]
  · rw [layL_get G, if_neg (fun e => G.hne e.symm), if_pos rfl]
theorem Ext.trans {L M T : List Int} (h : Ext L M) (g : Ext M T) : Ext L T := fun k hk => by
  have h1 := h k hk
  rw [← h1]
  exact g k (by rw [h1]; exact hk)
/-- In the first cell without one a domino goes to the east or to the north. -/
theorem first_way {r : Reg} {L T : List Int} (hL : laidOk r L = true) (hT : tilingOk r T = true) (he : Ext L T) {k : Nat} (hf : firstN r L = some k) : T.getD k 0 = 1 ∨ T.getD k 0 = 2 := by
  obtain ⟨hkL, ho, hno⟩ := firstN_is hf
  obtain ⟨hfk, hk0⟩ := openB_iff.1 ho
  obtain ⟨hT1, hT2⟩ := tilingOk_iff.1 hT
  have hlT := (laidOk_iff.1 hT1).2.1
  have hlL := (laidOk_iff.1 hL).2.1
  have hTk : T.getD k 0 ≠ 0 := hT2 k (by omega) hfk
  obtain ⟨t, F⟩ := lies_at hT1 (c := k) (by omega) hTk
  obtain ⟨hfr, _⟩ := ext_free hL hT1 he hTk hk0
  obtain ⟨t', G⟩ := free_at hL hfr
  have e : t' = t := by have h1 := G.hst; rw [F.hst] at h1; omega
  subst e
  have hot : openB r L t' = true := openB_iff.2 ⟨G.ft, G.ot⟩
  have htk : ¬ t' < k := fun h => by rw [hno t' h] at hot; cases hot
  obtain ⟨v1, v2, v3, _⟩ := Reg.valid_iff.1 (laidOk_iff.1 hL).1
  have hst := F.hst
  have hw := F.hway
  by_cases h3 : T.getD k 0 = 3
  · rw [h3] at hst; unfold stepI at hst; simp at hst; split at hst <;> omega
  by_cases h4 : T.getD k 0 = 4
  · rw [h4] at hst; unfold stepI at hst; simp at hst; split at hst <;> omega
  omega
theorem mem_tils (r : Reg) : ∀ (n : Nat) (L T : List Int), laidOk r L = true → openN r L < n → (T ∈ tils n r L ↔ tilingOk r T = true ∧ Ext L T) := by
  intro n
  induction n with
  | zero => intro L T _ h; omega
  | succ n ih =>
    intro L T hL hn
    have hlL := (laidOk_iff.1 hL).2.1
    cases hf : firstN r L with
    | none =>
      rw [tils_done hf, List.mem_singleton]
      have hno := firstN_no hf
      constructor
      · rintro rfl
        refine ⟨tilingOk_iff.2 ⟨hL, fun k hk hfk e => ?_⟩, Ext.refl _⟩
        have := hno k (by omega)
        rw [openB_iff.2 ⟨hfk, e⟩] at this; cases this
      · rintro ⟨hT, he⟩
        have hlT := (laidOk_iff.1 (tilingOk_iff.1 hT).1).2.1
        refine ext_getD (by omega) fun k hk => ?_
        by_cases h0 : L.getD k 0 = 0
        · rw [h0]
          have hfk : r.f k = false := by
            cases e : r.f k
            · rfl
            · have := hno k (by omega)
              rw [openB_iff.2 ⟨e, h0⟩] at this; cases this
          exact laid_out (tilingOk_iff.1 hT).1 hfk
        · exact he k h0
    | some k =>
      rw [tils_some hf, List.mem_append]
      obtain ⟨hkL, ho, hno⟩ := firstN_is hf
      obtain ⟨hfk, hk0⟩ := openB_iff.1 ho
      have step : ∀ way, free r L k way = true → (T ∈ tils n r (layL r L k way) ↔ tilingOk r T = true ∧ Ext (layL r L k way) T) := fun way hw =>
        ih _ T (lay_ok hL hw) (by have := openN_lay hL hw; omega)
      constructor
      · rintro (h | h)
        · cases h1 : free r L k 1
          · rw [h1] at h; simp at h
          · rw [h1, if_pos rfl] at h
            obtain ⟨a, b⟩ := (step 1 h1).1 h
            exact ⟨a, (ext_lay hL h1).1.trans b⟩
        · cases h1 : free r L k 2
          · rw [h1] at h; simp at h
          · rw [h1, if_pos rfl] at h
            obtain ⟨a, b⟩ := (step 2 h1).1 h
            exact ⟨a, (ext_lay hL h1).1.trans b⟩
      · rintro ⟨hT, he⟩
        have hTk : T.getD k 0 ≠ 0 := (tilingOk_iff.1 hT).2 k (by omega) hfk
        obtain ⟨a, b⟩ := ext_free hL (tilingOk_iff.1 hT).1 he hTk hk0
        rcases first_way hL hT he hf with e | e
        · rw [e] at a b
          left; rw [if_pos a]; exact (step 1 a).2 ⟨hT, b⟩
        · rw [e] at a b
          right; rw [if_pos a]; exact (step 2 a).2 ⟨hT, b⟩
/-- The list a has the lesser number at the first difference. -/
def Bef (a b : List Int) : Prop := ∃ k, (∀ j, j < k → a.getD j 0 = b.getD j 0) ∧ a.getD k 0 < b.getD k 0
theorem Bef.ne {a b : List Int} (h : Bef a b) : a ≠ b := by
  rintro rfl; obtain ⟨k, _, h⟩ := h; omega
theorem Bef.trans {a b c : List Int} (h : Bef a b) (g : Bef b c) : Bef a c := by
  obtain ⟨k, h1, h2⟩ := h
  obtain ⟨m, g1, g2⟩ := g
  rcases Nat.lt_trichotomy k m with hlt | rfl | hlt
  · exact ⟨k, fun j hj => (h1 j hj).trans (g1 j (by omega)), by rw [← g1 k hlt]; exact h2⟩
  · exact ⟨k, fun j hj => (h1 j hj).trans (g1 j hj), by omega⟩
  · exact ⟨m, fun j hj => (h1 j (by omega)).trans (g1 j hj), by rw [h1 m hlt]; exact g2⟩
theorem Bef.asymm {a b : List Int} (h : Bef a b) : ¬ Bef b a := fun g => (h.trans g).ne rfl
theorem tils_order (r : Reg) : ∀ (n : Nat) (L : List Int), laidOk r L = true → openN r L < n → (tils n r L).Pairwise Bef := by
  intro n
  induction n with
  | zero => intro L _ h; omega
  | succ n ih =>
    intro L hL hn
    cases hf : firstN r L with
    | none => rw [tils_done hf]; simp
    | some k =>
      rw [tils_some hf]
      obtain ⟨hkL, ho, hno⟩ := firstN_is hf
      have step : ∀ way, free r L k way = true → (tils n r (layL r L k way)).Pairwise Bef := fun way hw => ih _ (lay_ok hL hw) (by have := openN_lay hL hw; omega)
      have mem : ∀ way T, free r L k way = true → T ∈ tils n r (layL r L k way) → T.getD k 0 = way ∧ ∀ j, j < k → T.getD j 0 = L.getD j 0 := fun way T hw hT => by
        have hn' : openN r (layL r L k way) < n := by have := openN_lay hL hw; omega
        obtain ⟨a, b⟩ := (mem_tils r n _ T (lay_ok hL hw) hn').1 hT
        obtain ⟨e1, e2⟩ := ext_lay hL hw
        have hwy := (free_at hL hw).choose_spec.hway
        refine ⟨by rw [b k (by rw [e2]; omega), e2], fun j hj => ?_⟩
        by_cases h0 : L.getD j 0 = 0
        · rw [h0]
          have := hno j hj
          cases hfj : r.f j
          · exact laid_out (tilingOk_iff.1 a).1 hfj
          · rw [openB_iff.2 ⟨hfj, h0⟩] at this; cases this
        · exact e1.trans b j h0
      rw [List.pairwise_append]
      refine ⟨?_, ?_, ?_⟩
      · cases h1 : free r L k 1
        · simp
        · rw [if_pos rfl]; exact step 1 h1
      · cases h1 : free r L k 2
        · simp
        · rw [if_pos rfl]; exact step 2 h1
      · intro a ha b hb
        cases h1 : free r L k 1
        · rw [h1] at ha; simp at ha
        · cases h2 : free r L k 2
          · rw [h2] at hb; simp at hb
          · rw [h1, if_pos rfl] at ha
            rw [h2, if_pos rfl] at hb
            obtain ⟨a1, a2⟩ := mem 1 a h1 ha
            obtain ⟨b1, b2⟩ := mem 2 b h2 hb
            exact ⟨k, fun j hj => (a2 j hj).trans (b2 j hj).symm, by rw [a1, b1]; decide⟩
theorem bare_open {r : Reg} (h : r.valid = true) : openN r (bareL r) < 40 := by
  have h1 := openN_lt (r := r) (bareL r)
  obtain ⟨v1, v2, v3, _⟩ := Reg.valid_iff.1 h
  have hA := area_in v1 v2
  have hl : (bareL r).length = r.cells.length := by rw [bareL_yes h]; simp
  omega
theorem mem_tilsR {r : Reg} (h : r.valid = true) {T : List Int} : T ∈ tilsR r ↔ tilingOk r T = true := by
  rw [tilsR_yes h, mem_tils r 40 _ T (bare_laid h) (bare_open h)]
  refine ⟨fun g => g.1, fun g => ⟨g, fun k hk => ?_⟩⟩
  rw [bareL_yes h] at hk
  exact absurd (getD_zero _ _) hk
theorem mem_tilsR' {r : Reg} {T : List Int} : T ∈ tilsR r ↔ tilingOk r T = true := by
  cases h : r.valid
  · rw [tilsR_no h]
    refine ⟨fun g => by simp at g, fun g => ?_⟩
    have := (laidOk_iff.1 (tilingOk_iff.1 g).1).1
    rw [h] at this; cases this
  · exact mem_tilsR h
theorem tilsR_order (r : Reg) : (tilsR r).Pairwise Bef := by
  cases h : r.valid
  · rw [tilsR_no h]; simp
  · rw [tilsR_yes h]; exact tils_order r 40 _ (bare_laid h) (bare_open h)
theorem tilsR_nodup (r : Reg) : (tilsR r).Nodup := (tilsR_order r).imp fun h => h.ne

/-- A list without repetitions is at most as long as one that has all its entries. -/
theorem nodup_len {α : Type} [DecidableEq α] : ∀ {a b : List α}, a.Nodup → (∀ x ∈ a, x ∈ b) → a.length ≤ b.length := by
  intro a
  induction a with
  | nil => intro b _ _; simp
  | cons x a ih =>
    intro b hn hs
    have hx := hs x (by simp)
    have h1 := ih (b := b.erase x) (List.nodup_cons.1 hn).2 fun y hy => by
      have hne : y ≠ x := fun e => (List.nodup_cons.1 hn).1 (e ▸ hy)
      exact (List.mem_erase_of_ne hne).2 (hs y (by simp [hy]))
    have h2 := List.length_erase_of_mem hx
    have h3 := List.length_pos_of_mem hx
    simp only [List.length_cons]; omega
/-- As many, if each is carried to one of the others, and back. -/
theorem len_carried {a b : List (List Int)} (ha : a.Nodup) (f g : List Int → List Int) (hf : ∀ x ∈ a, f x ∈ b) (hg : ∀ x ∈ a, g (f x) = x) : a.length ≤ b.length := by
  have h1 : (a.map f).Nodup := by
    rw [List.Nodup, List.pairwise_map]
    refine List.Pairwise.imp_of_mem ?_ ha
    intro x y hx hy hne e
    exact hne (by rw [← hg x hx, e, hg y hy])
  have := nodup_len h1 (b := b) fun x hx => by
    obtain ⟨y, hy, rfl⟩ := List.mem_map.1 hx
    exact hf y hy
  simpa using this
/-- The first completion: no tiling with the dominoes of the list comes before it. -/
theorem completeR_head {r : Reg} {L : List Int} (h : laidOk r L = true) : completeR r L = headQ (tils 40 r L) := by rw [completeR_yes h, compl_head]
theorem laid_open {r : Reg} {L : List Int} (h : laidOk r L = true) : openN r L < 40 := by
  have h1 := openN_lt (r := r) L
  obtain ⟨v1, v2, v3, _⟩ := Reg.valid_iff.1 (laidOk_iff.1 h).1
  have hA := area_in v1 v2
  have := (laidOk_iff.1 h).2.1
  omega
theorem complete_first {r : Reg} {L : List Int} (h : laidOk r L = true) (h2 : (completeR r L).2 = true) : (tilingOk r (completeR r L).1 = true ∧ Ext L (completeR r L).1) ∧ ∀ T, tilingOk r T = true → Ext L T → ¬ Bef T (completeR r L).1 := by
  have e := completeR_head h
  have ho := tils_order r 40 L h (laid_open h)
  have hm := fun T => mem_tils r 40 L T h (laid_open h)
  cases ht : tils 40 r L with
  | nil => rw [e, ht] at h2; simp [headQ] at h2
  | cons x l =>
    rw [ht] at ho hm
    have e1 : (completeR r L).1 = x := by rw [e, ht]; rfl
    rw [e1]
    refine ⟨(hm x).1 (by simp), fun T hT he hb => ?_⟩
    rcases List.mem_cons.1 ((hm T).2 ⟨hT, he⟩) with rfl | hl
    · exact hb.ne rfl
    · exact hb.asymm ((List.pairwise_cons.1 ho).1 T hl)
theorem complete_none {r : Reg} {L : List Int} (h : laidOk r L = true) (h2 : (completeR r L).2 = false) : (completeR r L).1 = [] ∧ ∀ T, tilingOk r T = true → ¬ Ext L T := by
  have e := completeR_head h
  cases ht : tils 40 r L with
  | nil =>
    rw [e, ht]
    refine ⟨rfl, fun T hT he => ?_⟩
    have := (mem_tils r 40 L T h (laid_open h)).2 ⟨hT, he⟩
    rw [ht] at this; simp at this
  | cons x l => rw [e, ht] at h2; simp [headQ] at h2
end Domi

/- How far a callback that says yes, or no, gets: plain. -/
set_option linter.unusedVariables false
namespace Domi
def vis (b : Bool) (l : List (List Int)) : List (List Int) := if b then l else l.take 1
def goes (b : Bool) (l : List (List Int)) : Bool := b || l.isEmpty
theorem vis_app {b : Bool} {x y : List (List Int)} (h : goes b x = true) : vis b (x ++ y) = vis b x ++ vis b y ∧ goes b (x ++ y) = goes b y := by
  cases b
  · unfold goes at h; simp at h; subst h; exact ⟨rfl, rfl⟩
  · exact ⟨rfl, rfl⟩
theorem vis_stop {b : Bool} {x y : List (List Int)} (h : goes b x = false) : vis b (x ++ y) = vis b x ∧ goes b (x ++ y) = false := by
  cases b
  · cases x with
    | nil => cases h
    | cons a l => exact ⟨rfl, rfl⟩
  · cases h
theorem vis_len (b : Bool) (l : List (List Int)) : (vis b l).length ≤ l.length := by cases b <;> simp [vis]; omega
theorem vis_one (b : Bool) (x : List Int) : vis b [x] = [x] ∧ goes b [x] = b := by cases b <;> exact ⟨rfl, rfl⟩
theorem goes_nil (b : Bool) : goes b [] = true := by cases b <;> rfl
theorem vis_nil (b : Bool) : vis b [] = [] := by cases b <;> rfl
/-- What the first m directions yield. -/
def partT (n : Nat) (r : Reg) (L : List Int) (k m : Nat) : List (List Int) :=
  (if 0 < m ∧ free r L k 1 = true then tils n r (layL r L k 1) else []) ++ (if 1 < m ∧ free r L k 2 = true then tils n r (layL r L k 2) else [])
theorem partT_zero (n : Nat) (r : Reg) (L : List Int) (k : Nat) : partT n r L k 0 = [] := by unfold partT; simp
theorem partT_two {n : Nat} {r : Reg} {L : List Int} {k : Nat} (h : firstN r L = some k) : tils (n + 1) r L = partT n r L k 2 := by
  rw [tils_some h]; unfold partT; simp
theorem partT_skip {n : Nat} {r : Reg} {L : List Int} {k m : Nat} (hm : m < 2) (h : free r L k ((m : Int) + 1) = false) : partT n r L k (m + 1) = partT n r L k m := by
  have hc : m = 0 ∨ m = 1 := by omega
  rcases hc with rfl | rfl
  · have h' : free r L k 1 = false := h
    unfold partT; simp [h']
  · have h' : free r L k 2 = false := h
    unfold partT; simp [h']
theorem partT_take {n : Nat} {r : Reg} {L : List Int} {k m : Nat} (hm : m < 2) (h : free r L k ((m : Int) + 1) = true) : partT n r L k (m + 1) = partT n r L k m ++ tils n r (layL r L k ((m : Int) + 1)) := by
  have hc : m = 0 ∨ m = 1 := by omega
  rcases hc with rfl | rfl
  · have h' : free r L k 1 = true := h
    unfold partT; simp [h']
  · have h' : free r L k 2 = true := h
    unfold partT; simp [h']
theorem part_pre {n : Nat} {r : Reg} {L : List Int} {k m : Nat} (hm : m ≤ 2) (h : firstN r L = some k) : ∃ y, tils (n + 1) r L = partT n r L k m ++ y := by
  rw [partT_two h]
  have hc : m = 0 ∨ m = 1 ∨ m = 2 := by omega
  rcases hc with rfl | rfl | rfl
  · exact ⟨_, by rw [partT_zero]; rfl⟩
  · refine ⟨if free r L k 2 = true then tils n r (layL r L k 2) else [], ?_⟩
    unfold partT; simp
  · exact ⟨[], by simp⟩
theorem tils_len (r : Reg) : ∀ (n : Nat) (L : List Int), (tils n r L).length ≤ 2 ^ n := by
  intro n
  induction n with
  | zero => intro L; simp [tils]
  | succ n ih =>
    intro L
    have hp : 2 ^ (n + 1) = 2 ^ n + 2 ^ n := by rw [Nat.pow_succ]; omega
    have h0 := Nat.one_le_two_pow (n := n)
    cases hf : firstN r L with
    | none => rw [tils_done hf]; simp; omega
    | some k =>
      rw [tils_some hf, List.length_append]
      have h1 : (if free r L k 1 = true then tils n r (layL r L k 1) else []).length ≤ 2 ^ n := by split; exact ih _; simp
      have h2 : (if free r L k 2 = true then tils n r (layL r L k 2) else []).length ≤ 2 ^ n := by split; exact ih _; simp
      omega
theorem tilsR_len (r : Reg) : (tilsR r).length ≤ 2 ^ 40 := by
  cases h : r.valid
  · rw [tilsR_no h]; simp
  · rw [tilsR_yes h]; exact tils_len r 40 _
end Domi

/- Blocks of all types but two stand: what a callback keeps. No program is named here. -/
set_option linter.unusedVariables false
namespace Domi
open Go Go.RowKit

/-- Every block of another type than T and U stands as it was. -/
structure KB (T U : TypeId) (w w' : World) : Prop where
  os : w'.os = w.os
  tape : w'.tape = w.tape
  output : w'.output = w.output
  size : w.heap.size ≤ w'.heap.size
  blk : ∀ (b : Nat) (cs : Array Value) (t : TypeId) (fr : Nat × Nat), w.heap[b]? = some (Obj.cells cs t fr) → t ≠ T → t ≠ U → w'.heap[b]? = w.heap[b]?
section
variable {T U : TypeId}
theorem KB.refl (w : World) : KB T U w w := ⟨rfl, rfl, rfl, Nat.le_refl _, fun _ _ _ _ _ _ _ => rfl⟩
theorem KB.trans {a b c : World} (h : KB T U a b) (g : KB T U b c) : KB T U a c :=
  ⟨g.os.trans h.os, g.tape.trans h.tape, g.output.trans h.output, Nat.le_trans h.size g.size, fun k cs t fr hc h1 h2 => by
    have e := h.blk k cs t fr hc h1 h2
    exact (g.blk k cs t fr (e.trans hc) h1 h2).trans e⟩
theorem KB.of_below {w w' : World} (h : Below w.heap.size w w') : KB T U w w' :=
  ⟨h.os, h.tape, h.output, h.size, fun k cs t fr hc _ _ => h.block k (lt_of_heap hc)⟩
theorem KB.drew {w w' : World} (h : KB T U w w') : KB T U w w'.drew := h.trans (KB.of_below (Below.refl _ _).drew)
theorem KB.of_grown {w w' : World} {row : Option Nat} (h : w.grownBy w' row) (hr : ∀ (k : Nat) (cs : Array Value) (t : TypeId) (fr : Nat × Nat), row = some k → w.heap[k]? = some (Obj.cells cs t fr) → t = T ∨ t = U) : KB T U w w' :=
  ⟨h.os, h.tape, h.output, h.size, fun k cs t fr hc h1 h2 => h.block k (lt_of_heap hc) fun e => by
    rcases hr k cs t fr e.symm hc with e | e
    · exact h1 e
    · exact h2 e⟩
theorem Ow.kb {w w' : World} {B : Nat} {e : TypeId} {v : Value} {xs : List Value} (h : Ow w B e v xs) (hk : KB T U w w') (h1 : e ≠ T) (h2 : e ≠ U) : Ow w' B e v xs := by
  rcases h with h | ⟨g, cap, cur, rfl, hB, hg, r⟩
  · exact .inl h
  · exact .inr ⟨g, cap, cur, rfl, hB, by rw [hk.blk g cur e _ hg h1 h2]; exact hg, r⟩
end
theorem Ow.il {w : World} {B : Nat} {e : TypeId} {v : Value} {l : List Int} (h : Ow w B e v (l.map (Value.int .i64))) : Il w v l := h.sl
/-- The type of a row's block. -/
theorem Own.btype {w : World} {B : Nat} {e : TypeId} {v : Value} {xs : List Value} (h : Own w B e v xs) {k : Nat} {cs : Array Value} {t : TypeId} {fr : Nat × Nat} (hv : v.ownBlock = some k) (hk : w.heap[k]? = some (.cells cs t fr)) : t = e := by
  rcases h.2 with ⟨rfl, _⟩ | ⟨g, cap, cur, rfl, _, hg, _⟩
  · cases hv
  · have e1 : g = k := by simpa [Value.ownBlock] using hv
    subst e1
    rw [hg] at hk
    cases hk; rfl

/-! ### lists of lists -/
/-- The slice value v reads, in the world w, as the lists xs. -/
def Ll (w : World) (v : Value) (xs : List (List Int)) : Prop := ∃ vs : List Value, Sl w v vs ∧ vs.length = xs.length ∧ ∀ i, i < xs.length → Il w (vs.getD i (.bool false)) (xs.getD i [])
theorem Ll.below {w w' : World} {v : Value} {xs : List (List Int)} (h : Ll w v xs) (hb : Below w.heap.size w w') : Ll w' v xs := by
  obtain ⟨vs, h1, h2, h3⟩ := h; exact ⟨vs, Sl.below h1 hb, h2, fun i hi => (h3 i hi).below hb⟩
theorem Ll.nil (w : World) : Ll w (.slice none 0 0) [] := ⟨[], Sl.nil w, rfl, fun i hi => by simp at hi⟩
theorem Ll.opened {w : World} {v : Value} {xs : List (List Int)} (h : Ll w v xs) :
    ∃ a cap, v = .slice a xs.length cap ∧ xs.length ≤ cap ∧ cap ≤ 9223372036854775807 ∧
      (xs = [] ∨ ∃ b off, a = some ⟨b, off, none⟩ ∧ b < w.heap.size ∧ ∀ i, i < xs.length → ∃ u, w.cell? ⟨b, off + i, none⟩ = some u ∧ Il w u (xs.getD i [])) := by
  obtain ⟨vs, ⟨a, cap, rfl, h1, h2, h3⟩, hl, hc⟩ := h
  rw [hl] at h1 ⊢
  refine ⟨a, cap, rfl, h1, h2, ?_⟩
  rcases h3 with h3 | ⟨b, off, rfl, hb, hcell⟩
  · left; exact List.eq_nil_of_length_eq_zero (by rw [← hl, h3]; rfl)
  · refine .inr ⟨b, off, rfl, hb, fun i hi => ⟨vs.getD i (.bool false), ?_, hc i hi⟩⟩
    rw [hcell i (by omega), get_at vs (.bool false) i (by omega)]
def RetLl (l : List (List Int)) (w : World) (e : Ending) (w' : World) : Prop := ∃ v, e = .returned v ∧ Ll w' v l ∧ Below w.heap.size w w'
end Domi

/- Twice the dominoes are the cells that have one: plain. -/
set_option linter.unusedVariables false
namespace Domi
open Go Go.RowKit

def isSome (x : Int) : Bool := x != 0
def isHigh (x : Int) : Bool := decide (x = 3) || decide (x = 4)
theorem wayN_num (p : Int → Bool) (hp : p 0 = false) (L : List Int) : wayN p L = (num L.length (fun k => p (L.getD k 0) = true) : Nat) := by
  have key : ∀ n, n ≤ L.length → wayN p (L.take n) = (num n (fun k => p (L.getD k 0) = true) : Nat) := by
    intro n
    induction n with
    | zero => intro _; simp [wayN, num_zero]
    | succ n ih =>
      intro hn
      rw [wayN_take (by omega), ih (by omega), num_succ]
      by_cases h : p (L.getD n 0) = true
      · rw [if_pos h, if_pos h]; push_cast; rfl
      · rw [if_neg h, if_neg h]; push_cast; rfl
  have := key L.length (Nat.le_refl _)
  rwa [List.take_length] at this
/-- Where the other end of a domino is. -/
def other (r : Reg) (L : List Int) (k : Nat) : Nat := (stepI r k (L.getD k 0)).toNat
theorem other_at {r : Reg} {L : List Int} (h : laidOk r L = true) {k : Nat} (hk : k < L.length) (h0 : L.getD k 0 ≠ 0) : other r L k < L.length ∧ L.getD (other r L k) 0 = backI (L.getD k 0) ∧ other r L (other r L k) = k := by
  obtain ⟨t, F⟩ := lies_at h hk h0
  have e : other r L k = t := by unfold other; rw [F.hst, Int.toNat_natCast]
  rw [e]
  refine ⟨F.ht, F.ot, ?_⟩
  unfold other; rw [F.ot, F.hback, Int.toNat_natCast]
theorem high_low {r : Reg} {L : List Int} (h : laidOk r L = true) : num L.length (fun k => isHigh (L.getD k 0) = true) = num L.length (fun k => isLow (L.getD k 0) = true) := by
  have hb : ∀ x, isLow x = true → x ≠ 0 ∧ isHigh (backI x) = true := fun x hx => by
    unfold isLow at hx; simp at hx
    rcases hx with rfl | rfl <;> decide
  have hb2 : ∀ x, isHigh x = true → x ≠ 0 ∧ isLow (backI x) = true := fun x hx => by
    unfold isHigh at hx; simp at hx
    rcases hx with rfl | rfl <;> decide
  refine Nat.le_antisymm ?_ ?_
  · refine num_inj (other r L) (fun k hk hq => ?_) (fun k j hk hj hq hq' e => ?_)
    · obtain ⟨h0, h1⟩ := hb2 _ hq
      obtain ⟨a, b, c⟩ := other_at h hk h0
      exact ⟨a, by rw [b]; exact h1⟩
    · rw [← (other_at h hk (hb2 _ hq).1).2.2, ← (other_at h hj (hb2 _ hq').1).2.2, e]
  · refine num_inj (other r L) (fun k hk hq => ?_) (fun k j hk hj hq hq' e => ?_)
    · obtain ⟨h0, h1⟩ := hb _ hq
      obtain ⟨a, b, c⟩ := other_at h hk h0
      exact ⟨a, by rw [b]; exact h1⟩
    · rw [← (other_at h hk (hb _ hq).1).2.2, ← (other_at h hj (hb _ hq').1).2.2, e]
theorem laid_twice {r : Reg} {L : List Int} (h : laidOk r L = true) : wayN isSome L = 2 * wayN isLow L := by
  rw [wayN_num _ rfl, wayN_num _ rfl]
  have h1 := high_low h
  have h2 : num L.length (fun k => isSome (L.getD k 0) = true) = num L.length (fun k => isLow (L.getD k 0) = true ∨ isHigh (L.getD k 0) = true) := num_congr fun k _ => by
    have := laidOk_bd h k
    have hc : L.getD k 0 = 0 ∨ L.getD k 0 = 1 ∨ L.getD k 0 = 2 ∨ L.getD k 0 = 3 ∨ L.getD k 0 = 4 := by omega
    rcases hc with e | e | e | e | e <;> rw [e] <;> decide
  rw [h2, num_or (fun k _ a b => by
    unfold isLow at a; unfold isHigh at b
    simp at a b; omega)]
  omega
theorem laid_flat {r : Reg} {L : List Int} (h : laidOk r L = true) : wayN isEast L ≤ wayN isLow L := by
  rw [wayN_num _ rfl, wayN_num _ rfl]
  have := num_mono (n := L.length) (Q := fun k => isEast (L.getD k 0) = true) (R := fun k => isLow (L.getD k 0) = true) fun k _ e => by
    unfold isEast at e; unfold isLow; simp at e ⊢; exact .inl e
  omega
end Domi

/- Dominoes carried to other places: turned, mirrored. Plain. -/
set_option linter.unusedVariables false
namespace Domi
open Go Go.RowKit

/-- The list l with its first k entries put at the places 'tt', each turned by f. -/
def putI (tt : Nat → Nat) (f : Int → Int) (l : List Int) : Nat → List Int
  | 0 => List.replicate l.length 0
  | k + 1 => (putI tt f l k).set (tt k) (f (l.getD k 0))
theorem putI_length (tt : Nat → Nat) (f : Int → Int) (l : List Int) (k : Nat) : (putI tt f l k).length = l.length := by
  induction k with
  | zero => simp [putI]
  | succ k ih => simp [putI, ih]
theorem putI_get {tt : Nat → Nat} {f : Int → Int} {l : List Int} (h : OneToOne tt l.length) (k : Nat) (hk : k ≤ l.length) :
    (∀ j, j < k → (putI tt f l k).getD (tt j) 0 = f (l.getD j 0)) ∧ (∀ i, (∀ j, j < k → tt j ≠ i) → (putI tt f l k).getD i 0 = 0) := by
  induction k with
  | zero =>
    refine ⟨fun j hj => by omega, fun i _ => ?_⟩
    simp only [putI, List.getD_eq_getElem?_getD, List.getElem?_replicate]; split <;> rfl
  | succ k ih =>
    obtain ⟨i1, i2⟩ := ih (by omega)
    have hl : tt k < (putI tt f l k).length := by rw [putI_length]; exact h.lt k (by omega)
    refine ⟨fun j hj => ?_, fun i hi => ?_⟩
    · unfold putI
      rw [getD_put _ _ _ _ hl]
      by_cases e : j = k
      · subst e; rw [if_pos rfl]
      · rw [if_neg (fun e2 => e (h.inj _ _ (by omega) (by omega) e2.symm))]; exact i1 j (by omega)
    · unfold putI
      rw [getD_put _ _ _ _ hl, if_neg (hi k (by omega))]
      exact i2 i fun j hj => hi j (by omega)
def carL (tt : Nat → Nat) (f : Int → Int) (L : List Int) : List Int := putI tt f L L.length
theorem carL_len {tt : Nat → Nat} {f : Int → Int} {L : List Int} : (carL tt f L).length = L.length := putI_length _ _ _ _
theorem carL_get {tt : Nat → Nat} {f : Int → Int} {L : List Int} (h : OneToOne tt L.length) {k : Nat} (hk : k < L.length) : (carL tt f L).getD (tt k) 0 = f (L.getD k 0) := (putI_get h L.length (Nat.le_refl _)).1 k hk
/-- Where nothing lies, nothing need be put. -/
theorem putI_skip {tt : Nat → Nat} {f : Int → Int} {l : List Int} (h : OneToOne tt l.length) {k : Nat} (hk : k < l.length) (h0 : f (l.getD k 0) = 0) : putI tt f l (k + 1) = putI tt f l k := by
  have hz := (putI_get (f := f) h k (by omega)).2 (tt k) fun j hj e => by have := h.inj j k (by omega) hk e; omega
  have hl : tt k < (putI tt f l k).length := by rw [putI_length]; exact h.lt k hk
  show (putI tt f l k).set (tt k) (f (l.getD k 0)) = putI tt f l k
  rw [h0]
  apply List.ext_getElem (by simp)
  intro i h1 h2
  rw [List.getElem_set]
  split
  · rename_i e; subst e; rw [get_at _ 0 _ h2]; exact hz.symm
  · rfl

/-- A way to carry the cells of a region to those of another, and directions with them. -/
structure Carry (r q : Reg) (tt : Nat → Nat) (f : Int → Int) : Prop where
  one : OneToOne tt r.cells.length
  onto : ∀ k, k < r.cells.length → ∃ j, j < r.cells.length ∧ tt j = k
  valid : q.valid = true
  len : q.cells.length = r.cells.length
  cell : ∀ k, k < r.cells.length → q.f (tt k) = r.f k
  f0 : f 0 = 0
  fway : ∀ x, 1 ≤ x → x ≤ 4 → 1 ≤ f x ∧ f x ≤ 4
  fback : ∀ x, 1 ≤ x → x ≤ 4 → f (backI x) = backI (f x)
  step : ∀ (k t : Nat) (x : Int), k < r.cells.length → t < r.cells.length → 1 ≤ x → x ≤ 4 → stepI r k x = t → stepI q (tt k) (f x) = (tt t : Nat)
section
variable {r q : Reg} {tt : Nat → Nat} {f : Int → Int} {L : List Int}
theorem Carry.ok (C : Carry r q tt f) (h : laidOk r L = true) : laidOk q (carL tt f L) = true := by
  obtain ⟨hv, hlen, hall⟩ := laidOk_iff.1 h
  have hone : OneToOne tt L.length := by rw [hlen]; exact C.one
  refine laidOk_iff.2 ⟨C.valid, by rw [carL_len, hlen, C.len], fun k' hk' => ?_⟩
  rw [carL_len] at hk'
  obtain ⟨k, hk, rfl⟩ := C.onto k' (by omega)
  have hkL : k < L.length := by omega
  by_cases h0 : L.getD k 0 = 0
  · exact okAt_zero (by rw [carL_get hone hkL, h0, C.f0])
  · obtain ⟨t, F⟩ := lies_at h hkL h0
    have hs := C.step k t _ hk (by have := F.ht; omega) F.hway.1 F.hway.2 F.hst
    refine okAt_good (x := f (L.getD k 0)) (s := ((tt t : Nat) : Int)) (carL_get hone hkL) hs (by omega) (by rw [C.cell k hk]; exact F.fc) (by rw [Int.toNat_natCast, C.cell t (by have := F.ht; omega)]; exact F.ft) ?_
    rw [Int.toNat_natCast, carL_get hone F.ht, F.ot, C.fback _ F.hway.1 F.hway.2]
theorem Carry.ways (C : Carry r q tt f) (hlen : L.length = r.cells.length) (p : Int → Bool) (hp : p 0 = false) : wayN p (carL tt f L) = wayN (fun x => p (f x)) L := by
  have hone : OneToOne tt L.length := by rw [hlen]; exact C.one
  rw [wayN_num p hp, wayN_num (fun x => p (f x)) (by rw [C.f0]; exact hp), carL_len]
  congr 1
  refine Nat.le_antisymm ?_ ?_
  · have hg : ∀ k', ∃ k, k' < L.length → k < L.length ∧ tt k = k' := fun k' => by
      by_cases hk : k' < L.length
      · obtain ⟨j, h1, h2⟩ := C.onto k' (by omega)
        exact ⟨j, fun _ => ⟨by omega, h2⟩⟩
      · exact ⟨0, fun h => absurd h hk⟩
    refine num_inj (fun k' => Classical.choose (hg k')) (fun k' hk' hq => ?_) (fun k j hk hj _ _ e => ?_)
    · obtain ⟨h1, h2⟩ := Classical.choose_spec (hg k') hk'
      refine ⟨h1, ?_⟩
      rw [← h2, carL_get hone h1] at hq
      exact hq
    · rw [← (Classical.choose_spec (hg k) hk).2, ← (Classical.choose_spec (hg j) hj).2]
      exact congrArg tt e
  · refine num_inj tt (fun k hk hq => ⟨hone.lt k hk, by rw [carL_get hone hk]; exact hq⟩) (fun k j hk hj _ _ e => hone.inj k j hk hj e)
end

def turnWay (x : Int) : Int := if x = 0 then 0 else x % 4 + 1
def flipWay (x : Int) : Int := if x = 1 then 3 else if x = 3 then 1 else x
def turnN (r : Reg) (k : Nat) : Nat := (turnI r k).toNat
def mirN (r : Reg) (k : Nat) : Nat := (mirI r k).toNat
section
variable {r : Reg}
theorem turnN_at (hv : r.valid = true) {k : Nat} (hk : k < r.cells.length) : (turnN r k : Int) = (k : Int) % r.wide * r.tall + (r.tall - 1 - (k : Int) / r.wide) ∧ (turnN r k : Int) % r.tall = r.tall - 1 - (k : Int) / r.wide ∧ (turnN r k : Int) / r.tall = (k : Int) % r.wide := by
  obtain ⟨v1, v2, v3, _⟩ := Reg.valid_iff.1 hv
  obtain ⟨a1, a2, a3, a4, a5⟩ := cell_xy (r := r) (c := (k : Int)) (by omega) (by omega) (by omega)
  have hb := xy_lt (w := r.tall) (t := r.wide) (x := r.tall - 1 - (k : Int) / r.wide) (y := (k : Int) % r.wide) (by omega) (by omega) a1 a2
  have hm := xy_of (w := r.tall) (x := r.tall - 1 - (k : Int) / r.wide) (y := (k : Int) % r.wide) (by omega) (by omega)
  have e : (turnN r k : Int) = (k : Int) % r.wide * r.tall + (r.tall - 1 - (k : Int) / r.wide) := by unfold turnN turnI; omega
  rw [e]; exact ⟨rfl, hm⟩
theorem mirN_at (hv : r.valid = true) {k : Nat} (hk : k < r.cells.length) : (mirN r k : Int) = (k : Int) / r.wide * r.wide + (r.wide - 1 - (k : Int) % r.wide) ∧ (mirN r k : Int) % r.wide = r.wide - 1 - (k : Int) % r.wide ∧ (mirN r k : Int) / r.wide = (k : Int) / r.wide := by
  obtain ⟨v1, v2, v3, _⟩ := Reg.valid_iff.1 hv
  obtain ⟨a1, a2, a3, a4, a5⟩ := cell_xy (r := r) (c := (k : Int)) (by omega) (by omega) (by omega)
  have hb := xy_lt (w := r.wide) (t := r.tall) (x := r.wide - 1 - (k : Int) % r.wide) (y := (k : Int) / r.wide) (by omega) (by omega) a3 a4
  have hm := xy_of (w := r.wide) (x := r.wide - 1 - (k : Int) % r.wide) (y := (k : Int) / r.wide) (by omega) (by omega)
  have e : (mirN r k : Int) = (k : Int) / r.wide * r.wide + (r.wide - 1 - (k : Int) % r.wide) := by unfold mirN mirI; omega
  rw [e]; exact ⟨rfl, hm⟩
/-- The cell in column x and row y. -/
theorem at_xy (hv : r.valid = true) {x y : Int} (hx : 0 ≤ x ∧ x < r.wide) (hy : 0 ≤ y ∧ y < r.tall) : ∃ k : Nat, k < r.cells.length ∧ (k : Int) % r.wide = x ∧ (k : Int) / r.wide = y := by
  obtain ⟨v1, v2, v3, _⟩ := Reg.valid_iff.1 hv
  have h1 := xy_lt (w := r.wide) (t := r.tall) hx.1 hx.2 hy.1 hy.2
  have h2 := xy_of (w := r.wide) (y := y) hx.1 hx.2
  refine ⟨(y * r.wide + x).toNat, by omega, ?_, ?_⟩
  · rw [Int.toNat_of_nonneg h1.1]; exact h2.1
  · rw [Int.toNat_of_nonneg h1.1]; exact h2.2
theorem same_xy (hw : 1 ≤ r.wide) {j k : Nat} (h1 : (j : Int) % r.wide = (k : Int) % r.wide) (h2 : (j : Int) / r.wide = (k : Int) / r.wide) : j = k := by
  have a := of_xy (c := (j : Int)) (w := r.wide) (by omega)
  have b := of_xy (c := (k : Int)) (w := r.wide) (by omega)
  rw [h1, h2] at a
  omega
theorem turn_carry (hv : r.valid = true) : Carry r r.turn (turnN r) turnWay := by
  obtain ⟨v1, v2, v3, _⟩ := Reg.valid_iff.1 hv
  have hlen : r.turn.cells.length = r.cells.length := putL_length _ _ _
  refine ⟨turn_one (by omega) (by omega) v3, fun k' hk' => ?_, turn_valid hv, hlen, fun k hk => ?_, rfl, fun x h1 h4 => ?_, fun x h1 h4 => ?_, fun k t x hk ht h1 h4 hs => ?_⟩
  · obtain ⟨a1, a2, a3, a4, a5⟩ := cell_xy (r := r.turn) (c := (k' : Int)) (show 1 ≤ r.tall by omega) (by omega) (by show (k' : Int) < r.tall * r.wide; rw [Int.mul_comm]; omega)
    obtain ⟨k, hk, e1, e2⟩ := at_xy hv (x := (k' : Int) / r.tall) (y := r.tall - 1 - (k' : Int) % r.tall) ⟨a3, a4⟩ ⟨by have : (k' : Int) % r.tall < r.tall := a2; omega, by have : 0 ≤ (k' : Int) % r.tall := a1; omega⟩
    refine ⟨k, hk, ?_⟩
    obtain ⟨b1, b2, b3⟩ := turnN_at hv hk
    exact same_xy (r := r.turn) (show 1 ≤ r.tall by omega) (show (turnN r k : Int) % r.tall = (k' : Int) % r.tall by rw [b2, e2]; omega) (show (turnN r k : Int) / r.tall = (k' : Int) / r.tall by rw [b3, e1])
  · show r.turn.cells.getD (turnN r k) false = _
    exact (putL_get (turn_one (by omega) (by omega) v3) r.cells.length (Nat.le_refl _)).1 k hk
  · unfold turnWay; rw [if_neg (by omega)]; omega
  · have hc : x = 1 ∨ x = 2 ∨ x = 3 ∨ x = 4 := by omega
    rcases hc with rfl | rfl | rfl | rfl <;> rfl
  · obtain ⟨a1, a2, a3, a4, a5⟩ := cell_xy (r := r) (c := (k : Int)) (by omega) (by omega) (by omega)
    obtain ⟨b1, b2, b3⟩ := turnN_at hv hk
    obtain ⟨c1, c2, c3⟩ := turnN_at hv ht
    rw [stepI_xy (r := r) (by omega) (by omega) (by omega) h1 h4] at hs
    split at hs
    · rename_i hin
      simp only [Bool.and_eq_true, inB_iff] at hin
      have hxy := xy_of (w := r.wide) (x := (k : Int) % r.wide + dX x) (y := (k : Int) / r.wide + dY x) (by omega) (by omega)
      rw [hs] at hxy
      have hk2 : (turnN r k : Int) < r.tall * r.wide := by rw [Int.mul_comm]; have := (turn_one (r := r) (by omega) (by omega) v3).lt k hk; show ((turnI r k).toNat : Int) < _; omega
      have hw : 1 ≤ turnWay x ∧ turnWay x ≤ 4 := by unfold turnWay; rw [if_neg (by omega)]; omega
      have hd : dX (turnWay x) = - dY x ∧ dY (turnWay x) = dX x := by
        have hc : x = 1 ∨ x = 2 ∨ x = 3 ∨ x = 4 := by omega
        rcases hc with rfl | rfl | rfl | rfl <;> exact ⟨rfl, rfl⟩
      rw [stepI_xy (r := r.turn) (c := ((turnN r k : Nat) : Int)) (way := turnWay x) (show 1 ≤ r.tall by omega) (by omega) hk2 hw.1 hw.2]
      show (if inB ((turnN r k : Int) % r.tall + dX (turnWay x)) 0 (r.tall - 1) && inB ((turnN r k : Int) / r.tall + dY (turnWay x)) 0 (r.wide - 1) then ((turnN r k : Int) / r.tall + dY (turnWay x)) * r.tall + ((turnN r k : Int) % r.tall + dX (turnWay x)) else -1) = _
      rw [b2, b3, hd.1, hd.2, if_pos (by simp only [Bool.and_eq_true, inB_iff]; omega), c1, hxy.1, hxy.2]
      omega
    · omega
theorem mir_carry (hv : r.valid = true) : Carry r r.mir (mirN r) flipWay := by
  obtain ⟨v1, v2, v3, _⟩ := Reg.valid_iff.1 hv
  have hlen : r.mir.cells.length = r.cells.length := putL_length _ _ _
  refine ⟨mir_one (by omega) v3, fun k' hk' => ?_, mir_valid hv, hlen, fun k hk => ?_, rfl, fun x h1 h4 => ?_, fun x h1 h4 => ?_, fun k t x hk ht h1 h4 hs => ?_⟩
  · obtain ⟨a1, a2, a3, a4, a5⟩ := cell_xy (r := r) (c := (k' : Int)) (by omega) (by omega) (by omega)
    obtain ⟨k, hk, e1, e2⟩ := at_xy hv (x := r.wide - 1 - (k' : Int) % r.wide) (y := (k' : Int) / r.wide) ⟨by omega, by omega⟩ ⟨a3, a4⟩
    refine ⟨k, hk, ?_⟩
    obtain ⟨b1, b2, b3⟩ := mirN_at hv hk
    exact same_xy (r := r) (by omega) (by rw [b2, e1]; omega) (by rw [b3, e2])
  · show r.mir.cells.getD (mirN r k) false = _
    exact (putL_get (mir_one (by omega) v3) r.cells.length (Nat.le_refl _)).1 k hk
  · unfold flipWay; split
    · omega
    · split <;> omega
  · have hc : x = 1 ∨ x = 2 ∨ x = 3 ∨ x = 4 := by omega
    rcases hc with rfl | rfl | rfl | rfl <;> rfl
  · obtain ⟨a1, a2, a3, a4, a5⟩ := cell_xy (r := r) (c := (k : Int)) (by omega) (by omega) (by omega)
    obtain ⟨b1, b2, b3⟩ := mirN_at hv hk
    obtain ⟨c1, c2, c3⟩ := mirN_at hv ht
    rw [stepI_xy (r := r) (by omega) (by omega) (by omega) h1 h4] at hs
    split at hs
    · rename_i hin
      simp only [Bool.and_eq_true, inB_iff] at hin
      have hxy := xy_of (w := r.wide) (x := (k : Int) % r.wide + dX x) (y := (k : Int) / r.wide + dY x) (by omega) (by omega)
      rw [hs] at hxy
      have hk2 : (mirN r k : Int) < r.wide * r.tall := by have := (mir_one (r := r) (by omega) v3).lt k hk; show ((mirI r k).toNat : Int) < _; omega
      have hw : 1 ≤ flipWay x ∧ flipWay x ≤ 4 := by
        unfold flipWay; split
        · omega
        · split <;> omega
      have hd : dX (flipWay x) = - dX x ∧ dY (flipWay x) = dY x := by
        have hc : x = 1 ∨ x = 2 ∨ x = 3 ∨ x = 4 := by omega
        rcases hc with rfl | rfl | rfl | rfl <;> exact ⟨rfl, rfl⟩
      rw [stepI_xy (r := r.mir) (c := ((mirN r k : Nat) : Int)) (way := flipWay x) (show 1 ≤ r.wide by omega) (by omega) hk2 hw.1 hw.2]
      show (if inB ((mirN r k : Int) % r.wide + dX (flipWay x)) 0 (r.wide - 1) && inB ((mirN r k : Int) / r.wide + dY (flipWay x)) 0 (r.tall - 1) then ((mirN r k : Int) / r.wide + dY (flipWay x)) * r.wide + ((mirN r k : Int) % r.wide + dX (flipWay x)) else -1) = _
      rw [b2, b3, hd.1, hd.2, if_pos (by simp only [Bool.and_eq_true, inB_iff]; omega), c1, hxy.1, hxy.2]
      omega
    · omega
end

/-! ### what carrying twice, or four times, leaves -/
theorem carL_ext {L M : List Int} {tt : Nat → Nat} {f : Int → Int} (h : OneToOne tt L.length) (ho : ∀ k, k < L.length → ∃ j, j < L.length ∧ tt j = k) (hl : M.length = L.length) (hm : ∀ k, k < L.length → M.getD (tt k) 0 = f (L.getD k 0)) : carL tt f L = M := by
  refine ext_getD (by rw [carL_len, hl]) fun i hi => ?_
  rw [carL_len] at hi
  obtain ⟨j, hj, rfl⟩ := ho i hi
  rw [carL_get h hj, hm j hj]
theorem mirN_two {r : Reg} (hv : r.valid = true) {k : Nat} (hk : k < r.cells.length) : mirN r.mir (mirN r k) = k := by
  obtain ⟨v1, v2, v3, _⟩ := Reg.valid_iff.1 hv
  have hlen : r.mir.cells.length = r.cells.length := putL_length _ _ _
  obtain ⟨b1, b2, b3⟩ := mirN_at hv hk
  have hk2 : mirN r k < r.mir.cells.length := by rw [hlen]; exact (mir_one (r := r) (by omega) v3).lt k hk
  obtain ⟨c1, c2, c3⟩ := mirN_at (mir_valid hv) hk2
  have c2' : (mirN r.mir (mirN r k) : Int) % r.wide = r.wide - 1 - (mirN r k : Int) % r.wide := c2
  have c3' : (mirN r.mir (mirN r k) : Int) / r.wide = (mirN r k : Int) / r.wide := c3
  exact same_xy (r := r) (by omega) (by rw [c2', b2]; omega) (by rw [c3', b3])
theorem flip_two {x : Int} (h : 0 ≤ x ∧ x ≤ 4) : flipWay (flipWay x) = x := by
  have hc : x = 0 ∨ x = 1 ∨ x = 2 ∨ x = 3 ∨ x = 4 := by omega
  rcases hc with rfl | rfl | rfl | rfl | rfl <;> rfl
theorem turn_four_way {x : Int} (h : 0 ≤ x ∧ x ≤ 4) : turnWay (turnWay (turnWay (turnWay x))) = x := by
  have hc : x = 0 ∨ x = 1 ∨ x = 2 ∨ x = 3 ∨ x = 4 := by omega
  rcases hc with rfl | rfl | rfl | rfl | rfl <;> rfl
def mirL (r : Reg) (L : List Int) : List Int := carL (mirN r) flipWay L
def turnL (r : Reg) (L : List Int) : List Int := carL (turnN r) turnWay L
theorem mirL_ok {r : Reg} {L : List Int} (h : laidOk r L = true) : laidOk r.mir (mirL r L) = true := (mir_carry (laidOk_iff.1 h).1).ok h
theorem turnL_ok {r : Reg} {L : List Int} (h : laidOk r L = true) : laidOk r.turn (turnL r L) = true := (turn_carry (laidOk_iff.1 h).1).ok h
theorem mirL_two {r : Reg} {L : List Int} (h : laidOk r L = true) : mirL r.mir (mirL r L) = L := by
  obtain ⟨hv, hlen, _⟩ := laidOk_iff.1 h
  obtain ⟨hv2, hlen2, _⟩ := laidOk_iff.1 (mirL_ok h)
  have C := mir_carry hv
  have C2 := mir_carry hv2
  have l1 : (mirL r L).length = L.length := carL_len
  refine carL_ext (by rw [hlen2]; exact C2.one) (fun k hk => by rw [hlen2] at hk ⊢; exact C2.onto k hk) l1.symm fun k' hk' => ?_
  obtain ⟨k, hk, rfl⟩ := C.onto k' (by omega)
  rw [mirN_two hv hk, show (mirL r L).getD (mirN r k) 0 = flipWay (L.getD k 0) from carL_get (by rw [hlen]; exact C.one) (by omega), flip_two (laidOk_bd h k)]
theorem turnN_four {r : Reg} (hv : r.valid = true) {k : Nat} (hk : k < r.cells.length) : turnN r.turn.turn.turn (turnN r.turn.turn (turnN r.turn (turnN r k))) = k := by
  obtain ⟨v1, v2, v3, _⟩ := Reg.valid_iff.1 hv
  have hlen : ∀ q : Reg, q.turn.cells.length = q.cells.length := fun q => putL_length _ _ _
  have w1 := turn_valid hv
  have w2 := turn_valid w1
  have w3 := turn_valid w2
  have k1 : turnN r k < r.turn.cells.length := by rw [hlen]; exact (turn_carry hv).one.lt k hk
  have k2 : turnN r.turn (turnN r k) < r.turn.turn.cells.length := by rw [hlen]; exact (turn_carry w1).one.lt _ k1
  have k3 : turnN r.turn.turn (turnN r.turn (turnN r k)) < r.turn.turn.turn.cells.length := by rw [hlen]; exact (turn_carry w2).one.lt _ k2
  obtain ⟨_, a2, a3⟩ := turnN_at hv hk
  obtain ⟨_, b2, b3⟩ := turnN_at w1 k1
  obtain ⟨_, c2, c3⟩ := turnN_at w2 k2
  obtain ⟨_, d2, d3⟩ := turnN_at w3 k3
  have b2' : (turnN r.turn (turnN r k) : Int) % r.wide = r.wide - 1 - (turnN r k : Int) / r.tall := b2
  have b3' : (turnN r.turn (turnN r k) : Int) / r.wide = (turnN r k : Int) % r.tall := b3
  have c2' : (turnN r.turn.turn (turnN r.turn (turnN r k)) : Int) % r.tall = r.tall - 1 - (turnN r.turn (turnN r k) : Int) / r.wide := c2
  have c3' : (turnN r.turn.turn (turnN r.turn (turnN r k)) : Int) / r.tall = (turnN r.turn (turnN r k) : Int) % r.wide := c3
  have d2' : (turnN r.turn.turn.turn (turnN r.turn.turn (turnN r.turn (turnN r k))) : Int) % r.wide = r.wide - 1 - (turnN r.turn.turn (turnN r.turn (turnN r k)) : Int) / r.tall := d2
  have d3' : (turnN r.turn.turn.turn (turnN r.turn.turn (turnN r.turn (turnN r k))) : Int) / r.wide = (turnN r.turn.turn (turnN r.turn (turnN r k)) : Int) % r.tall := d3
  exact same_xy (r := r) (by omega) (by rw [d2', c3', b2', a3]; omega) (by rw [d3', c2', b3', a2]; omega)
theorem turnL_four {r : Reg} {L : List Int} (h : laidOk r L = true) : turnL r.turn.turn.turn (turnL r.turn.turn (turnL r.turn (turnL r L))) = L := by
  have h1 := turnL_ok h
  have h2 := turnL_ok h1
  have h3 := turnL_ok h2
  have C := turn_carry (laidOk_iff.1 h).1
  have C1 := turn_carry (laidOk_iff.1 h1).1
  have C2 := turn_carry (laidOk_iff.1 h2).1
  have C3 := turn_carry (laidOk_iff.1 h3).1
  have n0 := (laidOk_iff.1 h).2.1
  have n1 := (laidOk_iff.1 h1).2.1
  have n2 := (laidOk_iff.1 h2).2.1
  have n3 := (laidOk_iff.1 h3).2.1
  have l1 : (turnL r L).length = L.length := carL_len
  have l2 : (turnL r.turn (turnL r L)).length = (turnL r L).length := carL_len
  have l3 : (turnL r.turn.turn (turnL r.turn (turnL r L))).length = (turnL r.turn (turnL r L)).length := carL_len
  refine carL_ext (by rw [n3]; exact C3.one) (fun k hk => by rw [n3] at hk ⊢; exact C3.onto k hk) (by omega) fun k3 hk3 => ?_
  obtain ⟨k2, hk2, rfl⟩ := C2.onto k3 (by omega)
  obtain ⟨k1, hk1, rfl⟩ := C1.onto k2 (by omega)
  obtain ⟨k, hk, rfl⟩ := C.onto k1 (by omega)
  rw [turnN_four (laidOk_iff.1 h).1 hk,
    show (turnL r.turn.turn (turnL r.turn (turnL r L))).getD (turnN r.turn.turn (turnN r.turn (turnN r k))) 0 = turnWay ((turnL r.turn (turnL r L)).getD (turnN r.turn (turnN r k)) 0) from carL_get (by rw [n2]; exact C2.one) (by omega),
    show (turnL r.turn (turnL r L)).getD (turnN r.turn (turnN r k)) 0 = turnWay ((turnL r L).getD (turnN r k) 0) from carL_get (by rw [n1]; exact C1.one) (by omega),
    show (turnL r L).getD (turnN r k) 0 = turnWay (L.getD k 0) from carL_get (by rw [n0]; exact C.one) (by omega), turn_four_way (laidOk_bd h k)]
theorem mirL_flat {r : Reg} {L : List Int} (h : laidOk r L = true) : flatMany r.mir (mirL r L) = flatMany r L := by
  have hh := high_low h
  unfold flatMany
  rw [if_pos h, if_pos (mirL_ok h)]
  have := (mir_carry (laidOk_iff.1 h).1).ways (laidOk_iff.1 h).2.1 isEast rfl
  refine this.trans ?_
  have e : ∀ x : Int, isEast (flipWay x) = decide (x = 3) := fun x => by
    unfold isEast flipWay
    by_cases h1 : x = 1
    · subst h1; rfl
    · by_cases h3 : x = 3
      · subst h3; rfl
      · rw [if_neg h1, if_neg h3, decide_eq_false h1, decide_eq_false h3]
  rw [show (fun x => isEast (flipWay x)) = fun x => decide (x = 3) from funext e]
  rw [wayN_num _ rfl, wayN_num _ rfl]
  congr 1
  refine Nat.le_antisymm ?_ ?_
  · refine num_inj (other r L) (fun k hk hq => ?_) (fun k j hk hj hq hq' e => ?_)
    · have hq' : L.getD k 0 = 3 := by simpa using hq
      obtain ⟨a, b, _⟩ := other_at h hk (by rw [hq']; decide)
      exact ⟨a, by rw [b, hq']; rfl⟩
    · rw [← (other_at h hk (by rw [show L.getD k 0 = 3 by simpa using hq]; decide)).2.2, ← (other_at h hj (by rw [show L.getD j 0 = 3 by simpa using hq']; decide)).2.2, e]
  · refine num_inj (other r L) (fun k hk hq => ?_) (fun k j hk hj hq hq' e => ?_)
    · have hq' : L.getD k 0 = 1 := by simpa [isEast] using hq
      obtain ⟨a, b, _⟩ := other_at h hk (by rw [hq']; decide)
      exact ⟨a, by rw [b, hq']; rfl⟩
    · rw [← (other_at h hk (by rw [show L.getD k 0 = 1 by simpa [isEast] using hq]; decide)).2.2, ← (other_at h hj (by rw [show L.getD j 0 = 1 by simpa [isEast] using hq']; decide)).2.2, e]
def turnLR (r : Reg) (L : List Int) : List Int := if laidOk r L then turnL r L else []
def mirLR (r : Reg) (L : List Int) : List Int := if laidOk r L then mirL r L else []
end Domi

/- Plain law: the balance of colours is the same when a region is turned or mirrored. -/
set_option linter.unusedVariables false
namespace Domi

/-- How many of the first n entries are set and lie where q says yes. -/
def qTo (q : Nat → Bool) (l : List Bool) : Nat → Int
  | 0 => 0
  | k + 1 => qTo q l k + if l.getD k false && q k then 1 else 0
theorem darkTo_q (r : Reg) (n : Nat) : r.darkTo n = qTo (fun k => darkB r.wide k) r.cells n := by
  induction n with
  | zero => rfl
  | succ n ih => simp only [Reg.darkTo, qTo, ih]
theorem qTo_congr {q p : Nat → Bool} {l : List Bool} (n : Nat) (h : ∀ k, k < n → q k = p k) : qTo q l n = qTo p l n := by
  induction n with
  | zero => rfl
  | succ n ih => simp only [qTo]; rw [ih fun k hk => h k (by omega), h n (by omega)]
theorem qTo_empty (q : Nat → Bool) (m n : Nat) : qTo q (List.replicate m false) n = 0 := by
  induction n with
  | zero => rfl
  | succ n ih =>
    have e : (List.replicate m false).getD n false = false := by simp only [List.getD_eq_getElem?_getD, List.getElem?_replicate]; split <;> rfl
    simp only [qTo, ih, e, Bool.false_and, Bool.false_eq_true, if_false, Int.add_zero]
theorem qTo_set (q : Nat → Bool) (l : List Bool) (i : Nat) (v : Bool) (hi : i < l.length) (h : l.getD i false = false) (n : Nat) :
    qTo q (l.set i v) n = qTo q l n + if i < n then (if v && q i then 1 else 0) else 0 := by
  induction n with
  | zero => rfl
  | succ n ih =>
    simp only [qTo]
    rw [ih]
    by_cases e : i = n
    · subst e
      have e1 : (l.set i v).getD i false = v := by simp [List.getD_eq_getElem?_getD, hi]
      rw [e1, h]
      simp
    · have e1 : (l.set i v).getD n false = l.getD n false := by simp [List.getD_eq_getElem?_getD, List.getElem?_set_ne e]
      rw [e1]
      by_cases hn : i < n
      · rw [if_pos hn, if_pos (show i < n + 1 by omega)]; exact Int.add_right_comm _ _ _
      · rw [if_neg hn, if_neg (show ¬ i < n + 1 by omega), Int.add_zero, Int.add_zero]
theorem putL_q {tt : Nat → Nat} {l : List Bool} (h : OneToOne tt l.length) (q : Nat → Bool) (k : Nat) (hk : k ≤ l.length) : qTo q (putL tt l k) l.length = qTo (fun j => q (tt j)) l k := by
  induction k with
  | zero => exact qTo_empty _ _ _
  | succ k ih =>
    have hl : tt k < (putL tt l k).length := by rw [putL_length]; exact h.lt k (by omega)
    have h0 : (putL tt l k).getD (tt k) false = false := (putL_get h k (by omega)).2 _ (fun j hj e => by have := h.inj j k (by omega) (by omega) e; omega)
    rw [putL, qTo_set _ _ _ _ hl h0, ih (by omega), if_pos (h.lt k (by omega))]
    rfl
theorem qTo_not (q : Nat → Bool) (l : List Bool) (n : Nat) (hn : n ≤ l.length) : qTo q l n + qTo (fun k => !q k) l n = cnt (l.take n) := by
  induction n with
  | zero => simp [qTo, cnt]
  | succ n ih =>
    rw [take_snoc l false n (by omega), cnt_snoc, ← ih (by omega)]
    simp only [qTo]
    rcases Bool.eq_false_or_eq_true (q n) with hq | hq <;> rcases Bool.eq_false_or_eq_true (l.getD n false) with hl | hl <;> simp only [hq, hl] <;> simp <;> omega

theorem mir_dark {r : Reg} (hp : 0 < r.wide) (hr : (r.cells.length : Int) = r.wide * r.tall) (k : Nat) (hk : k < r.cells.length) :
    darkB r.wide ((mirI r k).toNat : Int) = if r.wide % 2 = 1 then darkB r.wide k else !darkB r.wide k := by
  have i1 := mirI_in (r := r) (c := k) (by omega) (by omega) (by omega)
  have a1 := Int.emod_nonneg (k : Int) (b := r.wide) (by omega)
  have a2 := Int.emod_lt_of_pos (k : Int) (b := r.wide) (by omega)
  have c1 := xy_of (w := r.wide) (x := r.wide - 1 - (k : Int) % r.wide) (y := (k : Int) / r.wide) (by omega) (by omega)
  rw [Int.toNat_of_nonneg i1.1]
  have e : mirI r k = (k : Int) / r.wide * r.wide + (r.wide - 1 - (k : Int) % r.wide) := by unfold mirI; omega
  unfold darkB
  rw [e, c1.1, c1.2]
  generalize (k : Int) % r.wide = x at *
  generalize (k : Int) / r.wide = y at *
  generalize r.wide = w at *
  split <;> (rw [Bool.eq_iff_iff]; simp; omega)
theorem turn_dark {r : Reg} (hp : 0 < r.wide) (hpt : 0 < r.tall) (hr : (r.cells.length : Int) = r.wide * r.tall) (k : Nat) (hk : k < r.cells.length) :
    darkB r.tall ((turnI r k).toNat : Int) = if r.tall % 2 = 1 then darkB r.wide k else !darkB r.wide k := by
  have i1 := turnI_in (r := r) (c := k) (by omega) (by omega) (by omega) (by omega)
  have a1 := Int.ediv_nonneg (a := (k : Int)) (b := r.wide) (by omega) (by omega)
  have a2 := div_lt_of (c := (k : Int)) (w := r.wide) (t := r.tall) (by omega) (by omega)
  have c1 := xy_of (w := r.tall) (x := r.tall - 1 - (k : Int) / r.wide) (y := (k : Int) % r.wide) (by omega) (by omega)
  rw [Int.toNat_of_nonneg i1.1]
  have e : turnI r k = (k : Int) % r.wide * r.tall + (r.tall - 1 - (k : Int) / r.wide) := by unfold turnI; omega
  unfold darkB
  rw [e, c1.1, c1.2]
  generalize (k : Int) % r.wide = x at *
  generalize (k : Int) / r.wide = y at *
  generalize r.tall = w at *
  split <;> (rw [Bool.eq_iff_iff]; simp; omega)

theorem half {q p : Nat → Bool} {l : List Bool} {c : Prop} [Decidable c] (h : ∀ k, k < l.length → p k = if c then q k else !q k) :
    decide (2 * qTo p l l.length = cnt l) = decide (2 * qTo q l l.length = cnt l) := by
  by_cases hc : c
  · rw [qTo_congr l.length fun k hk => (h k hk).trans (if_pos hc)]
  · rw [qTo_congr l.length fun k hk => (h k hk).trans (if_neg hc)]
    have := qTo_not q l l.length (Nat.le_refl _)
    rw [List.take_length] at this
    rw [Bool.eq_iff_iff]; simp; omega

theorem mir_bal {r : Reg} (h : r.valid = true) : r.mir.bal = r.bal := by
  obtain ⟨h1, h2, h3, h4⟩ := Reg.valid_iff.1 h
  unfold Reg.bal Reg.darks
  rw [mir_valid h, mir_cnt h, h, darkTo_q, darkTo_q]
  have hl : r.mir.cells.length = r.cells.length := putL_length ..
  have e : qTo (fun k => darkB r.mir.wide k) r.mir.cells r.mir.cells.length = qTo (fun j => darkB r.wide ((mirI r j).toNat : Int)) r.cells r.cells.length := by
    rw [hl]; exact putL_q (mir_one (by omega) h3) (fun k => darkB r.wide k) _ (Nat.le_refl _)
  rw [e, half fun k hk => mir_dark (by omega) h3 k hk]
theorem turn_bal {r : Reg} (h : r.valid = true) : r.turn.bal = r.bal := by
  obtain ⟨h1, h2, h3, h4⟩ := Reg.valid_iff.1 h
  unfold Reg.bal Reg.darks
  rw [turn_valid h, turn_cnt h, h, darkTo_q, darkTo_q]
  have hl : r.turn.cells.length = r.cells.length := putL_length ..
  have e : qTo (fun k => darkB r.turn.wide k) r.turn.cells r.turn.cells.length = qTo (fun j => darkB r.tall ((turnI r j).toNat : Int)) r.cells r.cells.length := by
    rw [hl]; exact putL_q (turn_one (by omega) (by omega) h3) (fun k => darkB r.tall k) _ (Nat.le_refl _)
  rw [e, half fun k hk => turn_dark (by omega) (by omega) h3 k hk]
theorem zero_bal : Reg.zero.bal = false := rfl
theorem bal_no {r : Reg} (h : r.valid = false) : r.bal = false := by rw [Reg.bal, h]; rfl
theorem flipR_bal (r : Reg) : r.flipR.bal = r.bal := by
  cases h : r.valid
  · rw [flipR_no h, bal_no h]; rfl
  · rw [flipR_yes h, mir_bal h]
theorem turnR_bal (r : Reg) : r.turnR.bal = r.bal := by
  cases h : r.valid
  · rw [turnR_no h, bal_no h]; rfl
  · rw [turnR_yes h, turn_bal h]
theorem bal_even {r : Reg} (h : r.bal = true) : r.many = 2 * r.darks := by
  simp only [Reg.bal, Bool.and_eq_true, decide_eq_true_eq] at h
  rw [Reg.many_yes h.1, h.2]

end Domi

/- Plain laws on tilings: how many dominoes, their colours, the flat ones, faults. -/
set_option linter.unusedVariables false
namespace Domi
open Go Go.RowKit

theorem num_other {r : Reg} {L : List Int} (h : laidOk r L = true) {Q R : Nat → Prop} (hQ : ∀ k, k < L.length → Q k → L.getD k 0 ≠ 0 ∧ R (other r L k)) (hR : ∀ k, k < L.length → R k → L.getD k 0 ≠ 0 ∧ Q (other r L k)) : num L.length Q = num L.length R := by
  refine Nat.le_antisymm ?_ ?_
  · refine num_inj (other r L) (fun k hk hq => ?_) (fun k j hk hj hq hq' e => ?_)
    · obtain ⟨h0, h1⟩ := hQ k hk hq
      exact ⟨(other_at h hk h0).1, h1⟩
    · rw [← (other_at h hk (hQ k hk hq).1).2.2, ← (other_at h hj (hQ j hj hq').1).2.2, e]
  · refine num_inj (other r L) (fun k hk hq => ?_) (fun k j hk hj hq hq' e => ?_)
    · obtain ⟨h0, h1⟩ := hR k hk hq
      exact ⟨(other_at h hk h0).1, h1⟩
    · rw [← (other_at h hk (hR k hk hq).1).2.2, ← (other_at h hj (hR j hj hq').1).2.2, e]
theorem tiling_nz {r : Reg} {T : List Int} (h : tilingOk r T = true) {k : Nat} (hk : k < T.length) : T.getD k 0 ≠ 0 ↔ r.f k = true := by
  obtain ⟨h1, h2⟩ := tilingOk_iff.1 h
  exact ⟨fun h0 => (laidOk_at h1 hk h0).here, fun hf => h2 k (f_lt hf) hf⟩
theorem tiling_len {r : Reg} {T : List Int} (h : tilingOk r T = true) : T.length = r.cells.length := (laidOk_iff.1 (tilingOk_iff.1 h).1).2.1
theorem tiling_many {r : Reg} {T : List Int} (h : tilingOk r T = true) : 2 * laidMany r T = cnt r.cells := by
  have h1 := (tilingOk_iff.1 h).1
  rw [laidMany, if_pos h1, ← laid_twice h1, wayN_num _ rfl, ← num_cnt, tiling_len h]
  congr 1
  refine num_congr fun k hk => ?_
  rw [← tiling_nz h (by rw [tiling_len h]; exact hk)]
  unfold isSome; simp
theorem qTo_num (q : Nat → Bool) (l : List Bool) (n : Nat) : qTo q l n = (num n (fun k => l.getD k false = true ∧ q k = true) : Nat) := by
  induction n with
  | zero => rfl
  | succ n ih =>
    rw [qTo, ih, num_succ]
    cases h1 : l.getD n false <;> cases h2 : q n <;> simp
/-- A step leads to a cell of the other colour. -/
theorem dark_step {r : Reg} (hw : 1 ≤ r.wide) {c way : Int} (h : 0 ≤ stepI r c way) : darkB r.wide (stepI r c way) = !darkB r.wide c := by
  have hwy := stepI_way h
  have hc : way = 1 ∨ way = 2 ∨ way = 3 ∨ way = 4 := by omega
  have key : ∀ d : Int, (d % r.wide + d / r.wide - (c % r.wide + c / r.wide) = 1 ∨ d % r.wide + d / r.wide - (c % r.wide + c / r.wide) = -1) → darkB r.wide d = !darkB r.wide c := fun d hd => by
    unfold darkB
    rcases Int.emod_two_eq (c % r.wide + c / r.wide) with h0 | h0
    · have : (d % r.wide + d / r.wide) % 2 = 1 := by omega
      rw [this, h0]; rfl
    · have : (d % r.wide + d / r.wide) % 2 = 0 := by omega
      rw [this, h0]; rfl
  have hm := Int.mul_ediv_add_emod c r.wide
  have h1 := Int.emod_nonneg c (b := r.wide) (by omega)
  have h2 := Int.emod_lt_of_pos c (b := r.wide) (by omega)
  have e : c = c / r.wide * r.wide + c % r.wide := by rw [Int.mul_comm]; omega
  rcases hc with rfl | rfl | rfl | rfl
  · unfold stepI at h ⊢; simp only [if_true] at h ⊢
    split at h
    · next hl =>
      rw [if_pos hl]
      have := xy_of (w := r.wide) (x := c % r.wide + 1) (y := c / r.wide) (by omega) (by omega)
      have e2 : c + 1 = c / r.wide * r.wide + (c % r.wide + 1) := by omega
      rw [e2]; exact key _ (by rw [this.1, this.2]; omega)
    · omega
  · have e2 : stepI r c 2 = if c / r.wide < r.tall - 1 then c + r.wide else -1 := by unfold stepI; simp
    rw [e2] at h ⊢
    split at h
    · next hl =>
      rw [if_pos hl]
      refine key _ (.inl ?_)
      rw [Int.add_emod_right, Int.add_ediv_of_dvd_right (Int.dvd_refl _), Int.ediv_self (by omega)]; omega
    · omega
  · have e2 : stepI r c 3 = if 0 < c % r.wide then c - 1 else -1 := by unfold stepI; simp
    rw [e2] at h ⊢
    split at h
    · next hl =>
      rw [if_pos hl]
      have := xy_of (w := r.wide) (x := c % r.wide - 1) (y := c / r.wide) (by omega) (by omega)
      have e3 : c - 1 = c / r.wide * r.wide + (c % r.wide - 1) := by omega
      rw [e3]; exact key _ (by rw [this.1, this.2]; omega)
    · omega
  · have e2 : stepI r c 4 = if 0 < c / r.wide then c - r.wide else -1 := by unfold stepI; simp
    rw [e2] at h ⊢
    split at h
    · next hl =>
      rw [if_pos hl]
      refine key _ (.inr ?_)
      have e3 : c - r.wide = (c / r.wide - 1) * r.wide + c % r.wide := by rw [Int.sub_mul]; omega
      have := xy_of (w := r.wide) (x := c % r.wide) (y := c / r.wide - 1) h1 h2
      rw [e3, this.1, this.2]; omega
    · omega
theorem other_step {r : Reg} {L : List Int} (h : laidOk r L = true) {k : Nat} (hk : k < L.length) (h0 : L.getD k 0 ≠ 0) : stepI r k (L.getD k 0) = (other r L k : Nat) ∧ r.f (other r L k) = true := by
  obtain ⟨t, F⟩ := lies_at h hk h0
  have e : other r L k = t := by unfold other; rw [F.hst, Int.toNat_natCast]
  rw [e]; exact ⟨F.hst, F.ft⟩
theorem tiling_bal {r : Reg} {T : List Int} (h : tilingOk r T = true) : r.bal = true := by
  obtain ⟨h1, h2⟩ := tilingOk_iff.1 h
  obtain ⟨hv, hlen, _⟩ := laidOk_iff.1 h1
  have hw := (Reg.valid_iff.1 hv).1.1
  have hq := qTo_not (fun k => darkB r.wide k) r.cells r.cells.length (Nat.le_refl _)
  rw [List.take_length] at hq
  have hd : r.darks = qTo (fun k => darkB r.wide k) r.cells r.cells.length := darkTo_q r _
  have he : qTo (fun k => darkB r.wide k) r.cells r.cells.length = qTo (fun k => !darkB r.wide k) r.cells r.cells.length := by
    rw [qTo_num, qTo_num, ← hlen]
    congr 1
    refine num_other h1 (fun k hk hq => ?_) (fun k hk hq => ?_)
    · have h0 := (tiling_nz h hk).2 hq.1
      obtain ⟨a, b⟩ := other_step h1 hk h0
      have hdk := dark_step hw (c := (k : Int)) (way := T.getD k 0) (by omega)
      rw [a] at hdk
      exact ⟨h0, b, by rw [hdk, hq.2]; rfl⟩
    · have h0 := (tiling_nz h hk).2 hq.1
      obtain ⟨a, b⟩ := other_step h1 hk h0
      have hdk := dark_step hw (c := (k : Int)) (way := T.getD k 0) (by omega)
      rw [a] at hdk
      have := hq.2
      refine ⟨h0, b, by rw [hdk]; exact this⟩
  unfold Reg.bal
  rw [hv, Bool.true_and]
  exact decide_eq_true (by rw [hd]; omega)

theorem step_west {r : Reg} (hw : 1 ≤ r.wide) {c x d : Int} (hx : x = 1 ∨ x = 3) (hd : 0 ≤ d) (h : stepI r c x = d) : d % r.wide = c % r.wide + (if x = 1 then 1 else -1) := by
  have h1 := Int.emod_nonneg c (b := r.wide) (by omega)
  have h2 := Int.emod_lt_of_pos c (b := r.wide) (by omega)
  have hm := Int.mul_ediv_add_emod c r.wide
  have e : c = c / r.wide * r.wide + c % r.wide := by rw [Int.mul_comm]; omega
  rcases hx with rfl | rfl
  · unfold stepI at h; simp only [if_true] at h
    split at h
    · next hl =>
      have := xy_of (w := r.wide) (x := c % r.wide + 1) (y := c / r.wide) (by omega) (by omega)
      have e2 : d = c / r.wide * r.wide + (c % r.wide + 1) := by omega
      rw [e2, this.1]; rfl
    · omega
  · have e2 : stepI r c 3 = if 0 < c % r.wide then c - 1 else -1 := by unfold stepI; simp
    rw [e2] at h
    split at h
    · next hl =>
      have := xy_of (w := r.wide) (x := c % r.wide - 1) (y := c / r.wide) (by omega) (by omega)
      have e3 : d = c / r.wide * r.wide + (c % r.wide - 1) := by omega
      rw [e3, this.1]; rfl
    · omega
theorem step_south {r : Reg} {c x d : Int} (hx : x = 2 ∨ x = 4) (hd : 0 ≤ d) (h : stepI r c x = d) : d % r.wide = c % r.wide := by
  rcases hx with rfl | rfl
  · have e2 : stepI r c 2 = if c / r.wide < r.tall - 1 then c + r.wide else -1 := by unfold stepI; simp
    rw [e2] at h
    split at h
    · rw [← h, Int.add_emod_right]
    · omega
  · have e2 : stepI r c 4 = if 0 < c / r.wide then c - r.wide else -1 := by unfold stepI; simp
    rw [e2] at h
    split at h
    · rw [← h, Int.sub_emod_right]
    · omega
def evenB (r : Reg) (k : Nat) : Bool := decide ((k : Int) % r.wide % 2 = 0)
theorem flat_parity {r : Reg} {T : List Int} (h : tilingOk r T = true) : ∃ m : Nat, (num r.cells.length (fun k => r.f k = true ∧ evenB r k = true) : Int) = flatMany r T + 2 * m := by
  obtain ⟨h1, h2⟩ := tilingOk_iff.1 h
  obtain ⟨hv, hlen, _⟩ := laidOk_iff.1 h1
  have hw := (Reg.valid_iff.1 hv).1.1
  refine ⟨num T.length (fun k => T.getD k 0 = 2 ∧ evenB r k = true), ?_⟩
  have e0 : num r.cells.length (fun k => r.f k = true ∧ evenB r k = true) = num T.length (fun k => ((T.getD k 0 = 1 ∧ evenB r k = true) ∨ (T.getD k 0 = 3 ∧ evenB r k = true)) ∨ ((T.getD k 0 = 2 ∧ evenB r k = true) ∨ (T.getD k 0 = 4 ∧ evenB r k = true))) := by
    rw [← hlen]
    refine num_congr fun k hk => ?_
    rw [← tiling_nz h hk]
    have := laidOk_bd h1 k
    constructor
    · rintro ⟨a, b⟩
      have hc : T.getD k 0 = 1 ∨ T.getD k 0 = 2 ∨ T.getD k 0 = 3 ∨ T.getD k 0 = 4 := by omega
      rcases hc with e | e | e | e
      · exact .inl (.inl ⟨e, b⟩)
      · exact .inr (.inl ⟨e, b⟩)
      · exact .inl (.inr ⟨e, b⟩)
      · exact .inr (.inr ⟨e, b⟩)
    · rintro ((⟨a, b⟩ | ⟨a, b⟩) | (⟨a, b⟩ | ⟨a, b⟩)) <;> exact ⟨by omega, b⟩
  rw [e0, num_or (fun k _ a b => by rcases a with ⟨a, _⟩ | ⟨a, _⟩ <;> rcases b with ⟨b, _⟩ | ⟨b, _⟩ <;> omega), num_or (fun k _ a b => by omega), num_or (fun k _ a b => by omega)]
  have e1 : num T.length (fun k => T.getD k 0 = 3 ∧ evenB r k = true) = num T.length (fun k => T.getD k 0 = 1 ∧ evenB r k = false) := by
    refine num_other h1 (fun k hk hq => ?_) (fun k hk hq => ?_)
    · have h0 : T.getD k 0 ≠ 0 := by omega
      obtain ⟨a, b⟩ := other_step h1 hk h0
      have hb := (other_at h1 hk h0).2.1
      have hx := step_west hw (c := (k : Int)) (.inr hq.1) (by omega) a
      refine ⟨h0, by rw [hb, hq.1]; rfl, ?_⟩
      have := hq.2
      unfold evenB at this ⊢
      rw [decide_eq_true_eq] at this
      refine decide_eq_false ?_
      rw [hx, if_neg (by omega)]; omega
    · have h0 : T.getD k 0 ≠ 0 := by omega
      obtain ⟨a, b⟩ := other_step h1 hk h0
      have hb := (other_at h1 hk h0).2.1
      have hx := step_west hw (c := (k : Int)) (.inl hq.1) (by omega) a
      refine ⟨h0, by rw [hb, hq.1]; rfl, ?_⟩
      have := hq.2
      unfold evenB at this ⊢
      rw [decide_eq_false_iff_not] at this
      refine decide_eq_true ?_
      rw [hx, if_pos (by omega)]; omega
  have e2 : num T.length (fun k => T.getD k 0 = 4 ∧ evenB r k = true) = num T.length (fun k => T.getD k 0 = 2 ∧ evenB r k = true) := by
    refine num_other h1 (fun k hk hq => ?_) (fun k hk hq => ?_)
    · have h0 : T.getD k 0 ≠ 0 := by omega
      obtain ⟨a, b⟩ := other_step h1 hk h0
      have hb := (other_at h1 hk h0).2.1
      have hx := step_south (c := (k : Int)) (.inr hq.1) (by omega) a
      refine ⟨h0, by rw [hb, hq.1]; rfl, ?_⟩
      have := hq.2
      unfold evenB at this ⊢
      rw [hx]; exact this
    · have h0 : T.getD k 0 ≠ 0 := by omega
      obtain ⟨a, b⟩ := other_step h1 hk h0
      have hb := (other_at h1 hk h0).2.1
      have hx := step_south (c := (k : Int)) (.inl hq.1) (by omega) a
      refine ⟨h0, by rw [hb, hq.1]; rfl, ?_⟩
      have := hq.2
      unfold evenB at this ⊢
      rw [hx]; exact this
  have e3 : flatMany r T = (num T.length (fun k => (T.getD k 0 = 1 ∧ evenB r k = true) ∨ (T.getD k 0 = 1 ∧ evenB r k = false)) : Nat) := by
    unfold flatMany
    rw [if_pos h1, wayN_num _ rfl]
    congr 1
    refine num_congr fun k hk => ?_
    unfold isEast
    rw [decide_eq_true_eq]
    constructor
    · intro a
      cases evenB r k
      · exact .inr ⟨a, rfl⟩
      · exact .inl ⟨a, rfl⟩
    · rintro (⟨a, _⟩ | ⟨a, _⟩) <;> exact a
  rw [e3, num_or (fun k _ a b => by have := a.2; rw [b.2] at this; cases this), e1, e2]
  omega
theorem flat_even {r : Reg} {S T : List Int} (h : tilingOk r S = true) (g : tilingOk r T = true) : (flatMany r S - flatMany r T) % 2 = 0 := by
  obtain ⟨m, hm⟩ := flat_parity h
  obtain ⟨n, hn⟩ := flat_parity g
  omega
theorem flat_turned {r : Reg} {L : List Int} (h : laidOk r L = true) : flatMany r.turn (turnL r L) + flatMany r L = laidMany r L := by
  have hC := (turn_carry (laidOk_iff.1 h).1).ways (laidOk_iff.1 h).2.1 isEast rfl
  unfold flatMany laidMany
  rw [if_pos h, if_pos h, if_pos (turnL_ok h)]
  have e : (fun x => isEast (turnWay x)) = fun x => decide (x % 4 + 1 = 1 ∧ x ≠ 0) := by
    funext x
    unfold isEast turnWay
    by_cases h0 : x = 0
    · subst h0; rfl
    · rw [if_neg h0]; simp [h0]
  rw [show wayN isEast (turnL r L) = wayN isEast (carL (turnN r) turnWay L) from rfl, hC, e, wayN_num _ (by simp), wayN_num _ rfl, wayN_num _ rfl]
  have e2 : num L.length (fun k => decide (L.getD k 0 % 4 + 1 = 1 ∧ L.getD k 0 ≠ 0) = true) = num L.length (fun k => L.getD k 0 = 2) := by
    rw [show num L.length (fun k => decide (L.getD k 0 % 4 + 1 = 1 ∧ L.getD k 0 ≠ 0) = true) = num L.length (fun k => L.getD k 0 = 4) from num_congr fun k _ => by
      have := laidOk_bd h k
      rw [decide_eq_true_eq]; omega]
    refine num_other h (fun k hk hq => ?_) (fun k hk hq => ?_)
    · have h0 : L.getD k 0 ≠ 0 := by omega
      exact ⟨h0, by rw [(other_at h hk h0).2.1, hq]; rfl⟩
    · have h0 : L.getD k 0 ≠ 0 := by omega
      exact ⟨h0, by rw [(other_at h hk h0).2.1, hq]; rfl⟩
  rw [e2, show num L.length (fun k => isLow (L.getD k 0) = true) = num L.length (fun k => L.getD k 0 = 2 ∨ isEast (L.getD k 0) = true) from num_congr fun k _ => by unfold isLow isEast; simp; exact or_comm,
    num_or (fun k _ a b => by have b' : L.getD k 0 = 1 := of_decide_eq_true b; omega)]
  omega
/-- At a fault the cells in its west are balanced. -/
theorem fault_bal {r : Reg} {T : List Int} (h : tilingOk r T = true) {c : Int} (hno : ∀ k, k < T.length → (k : Int) % r.wide = c - 1 → T.getD k 0 ≠ 1) :
    num r.cells.length (fun k => (r.f k = true ∧ (k : Int) % r.wide < c) ∧ darkB r.wide k = true) = num r.cells.length (fun k => (r.f k = true ∧ (k : Int) % r.wide < c) ∧ darkB r.wide k = false) := by
  obtain ⟨h1, h2⟩ := tilingOk_iff.1 h
  obtain ⟨hv, hlen, _⟩ := laidOk_iff.1 h1
  have hw := (Reg.valid_iff.1 hv).1.1
  have key : ∀ k, k < T.length → r.f k = true → (k : Int) % r.wide < c → T.getD k 0 ≠ 0 ∧ r.f (other r T k) = true ∧ ((other r T k : Nat) : Int) % r.wide < c ∧ darkB r.wide (other r T k : Nat) = !darkB r.wide k := fun k hk hf hc => by
    have h0 := (tiling_nz h hk).2 hf
    obtain ⟨a, b⟩ := other_step h1 hk h0
    have hdk := dark_step hw (c := (k : Int)) (way := T.getD k 0) (by omega)
    rw [a] at hdk
    refine ⟨h0, b, ?_, hdk⟩
    have := laidOk_bd h1 k
    by_cases hx : T.getD k 0 = 1 ∨ T.getD k 0 = 3
    · have := step_west hw (c := (k : Int)) hx (by omega) a
      by_cases hx1 : T.getD k 0 = 1
      · rw [if_pos hx1] at this
        have hne : (k : Int) % r.wide ≠ c - 1 := fun e => hno k hk e hx1
        omega
      · rw [if_neg hx1] at this; omega
    · have := step_south (c := (k : Int)) (by omega) (by omega) a
      omega
  rw [← hlen]
  refine num_other h1 (fun k hk hq => ?_) (fun k hk hq => ?_)
  · obtain ⟨a, b, c', d⟩ := key k hk hq.1.1 hq.1.2
    exact ⟨a, ⟨b, c'⟩, by rw [d, hq.2]; rfl⟩
  · obtain ⟨a, b, c', d⟩ := key k hk hq.1.1 hq.1.2
    exact ⟨a, ⟨b, c'⟩, by rw [d, hq.2]; rfl⟩

/-! ### tilings carried -/
theorem carry_tiling {r q : Reg} {tt : Nat → Nat} {f : Int → Int} (C : Carry r q tt f) {T : List Int} (h : tilingOk r T = true) : tilingOk q (carL tt f T) = true := by
  obtain ⟨h1, h2⟩ := tilingOk_iff.1 h
  have hlen := tiling_len h
  have hone : OneToOne tt T.length := by rw [hlen]; exact C.one
  refine tilingOk_iff.2 ⟨C.ok h1, fun k' hk' hf => ?_⟩
  rw [C.len] at hk'
  obtain ⟨k, hk, rfl⟩ := C.onto k' hk'
  rw [carL_get hone (by omega)]
  rw [C.cell k hk] at hf
  have h0 := h2 k hk hf
  have hb := laidOk_bd h1 k
  have := C.fway (T.getD k 0) (by omega) (by omega)
  omega
theorem tils_mir {r : Reg} (hv : r.valid = true) : (tilsR r.mir).length = (tilsR r).length := by
  have hok : ∀ q : Reg, q.valid = true → (tilsR q).length ≤ (tilsR q.mir).length := fun q hq =>
    len_carried (tilsR_nodup q) (mirL q) (mirL q.mir) (fun T hT => mem_tilsR'.2 (carry_tiling (mir_carry hq) (mem_tilsR'.1 hT))) (fun T hT => mirL_two (tilingOk_iff.1 (mem_tilsR'.1 hT)).1)
  have h1 := hok r hv
  have h2 := hok r.mir (mir_valid hv)
  have e : r.mir.mir = r := by have := flip_flip hv; rwa [flipR_yes hv, flipR_yes (mir_valid hv)] at this
  rw [e] at h2
  omega
theorem tils_turn {r : Reg} (hv : r.valid = true) : (tilsR r.turn).length = (tilsR r).length := by
  have hok : ∀ q : Reg, q.valid = true → (tilsR q).length ≤ (tilsR q.turn).length := fun q hq =>
    len_carried (tilsR_nodup q) (turnL q) (fun T => turnL q.turn.turn.turn (turnL q.turn.turn (turnL q.turn T))) (fun T hT => mem_tilsR'.2 (carry_tiling (turn_carry hq) (mem_tilsR'.1 hT))) (fun T hT => turnL_four (tilingOk_iff.1 (mem_tilsR'.1 hT)).1)
  have v1 := turn_valid hv
  have v2 := turn_valid v1
  have v3 := turn_valid v2
  have h1 := hok r hv
  have h2 := hok _ v1
  have h3 := hok _ v2
  have h4 := hok _ v3
  have e : r.turn.turn.turn.turn = r := by have := turn_four hv; rwa [turnR_yes hv, turnR_yes v1, turnR_yes v2, turnR_yes v3] at this
  rw [e] at h4
  omega
end Domi
