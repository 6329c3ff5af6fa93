/- Plain words and laws on memory, regions and dominoes, of several texts. -/
import Derived.Test.YtklifibiadiinaaZa
import Derived.Test.YtklifibiadiinaaZb
import Derived.Maps.OwnSet
import Derived.Maps.OwnOps
import Derived.Maps.Views
import Derived.StringKeys
import Derived.Laws.BytesArg

/- Counting tilings cell by cell: plain. -/
set_option linter.unusedVariables false
namespace Domi
open Go Go.RowKit

/-- May a domino go from the cell c in this direction, the cells of C being covered? -/
def canB (r : Reg) (C : List Bool) (c : Nat) (way : Int) : Bool := decide (0 ≤ stepI r c way) && r.f (stepI r c way).toNat && !C.getD (stepI r c way).toNat false
def cov (r : Reg) (C : List Bool) (c : Nat) (way : Int) : List Bool := (C.set c true).set (stepI r c way).toNat true
theorem cov_len (r : Reg) (C : List Bool) (c : Nat) (way : Int) : (cov r C c way).length = C.length := by simp [cov]
/-- Is there nothing to do at the cell c? -/
def skipB (r : Reg) (C : List Bool) (c : Nat) : Bool := !r.f c || C.getD c false
/-- In how many ways the n cells from c on, that are not covered, are covered. -/
def tilC : Nat → Reg → List Bool → Nat → Nat
  | 0, _, _, _ => 1
  | n + 1, r, C, c => if skipB r C c then tilC n r C (c + 1) else (if canB r C c 1 then tilC n r (cov r C c 1) (c + 1) else 0) + (if canB r C c 2 then tilC n r (cov r C c 2) (c + 1) else 0)
theorem tilC_le (r : Reg) : ∀ (n : Nat) (C : List Bool) (c : Nat), tilC n r C c ≤ 2 ^ n := by
  intro n
  induction n with
  | zero => intro C c; simp [tilC]
  | succ n ih =>
    intro C c
    have hp : 2 ^ (n + 1) = 2 ^ n + 2 ^ n := by rw [Nat.pow_succ]; omega
    unfold tilC
    split
    · have := ih C (c + 1); omega
    · have h1 : (if canB r C c 1 = true then tilC n r (cov r C c 1) (c + 1) else 0) ≤ 2 ^ n := by
        split
        · exact ih _ _
        · exact Nat.zero_le _
      have h2 : (if canB r C c 2 = true then tilC n r (cov r C c 2) (c + 1) else 0) ≤ 2 ^ n := by
        split
        · exact ih _ _
        · exact Nat.zero_le _
      omega
theorem getD_setB (l : List Bool) (i j : Nat) (v : Bool) (hi : i < l.length) : (l.set i v).getD j false = if i = j then v else l.getD j false := by
  simp only [List.getD_eq_getElem?_getD, List.getElem?_set]
  by_cases h : i = j
  · subst h; simp [hi]
  · simp [h]
theorem getD_setB' (l : List Bool) (i j : Nat) (v : Bool) (hi : i ≠ j) : (l.set i v).getD j false = l.getD j false := by
  simp only [List.getD_eq_getElem?_getD, List.getElem?_set_ne hi]
/-- What lies before c does not matter. -/
theorem tilC_congr (r : Reg) : ∀ (n : Nat) (C C' : List Bool) (c : Nat), C.length = C'.length → (∀ k, c ≤ k → C.getD k false = C'.getD k false) → (∀ way : Int, way = 1 ∨ way = 2 → ∀ d : Nat, 0 ≤ stepI r d way → (d : Int) < stepI r d way) → tilC n r C c = tilC n r C' c := by
  intro n
  induction n with
  | zero => intro C C' c _ _ _; rfl
  | succ n ih =>
    intro C C' c hl h hs
    have hcan : ∀ way : Int, way = 1 ∨ way = 2 → canB r C c way = canB r C' c way := fun way hw => by
      unfold canB
      by_cases h0 : 0 ≤ stepI r c way
      · have := hs way hw c h0
        rw [h (stepI r c way).toNat (by omega)]
      · rw [decide_eq_false h0]; rfl
    have hcov : ∀ way : Int, (∀ k, c + 1 ≤ k → (cov r C c way).getD k false = (cov r C' c way).getD k false) := fun way k hk => by
      unfold cov
      by_cases e : (stepI r c way).toNat = k
      · by_cases hl' : k < C.length
        · have h1 : (stepI r c way).toNat < (C.set c true).length := by rw [List.length_set]; omega
          have h2 : (stepI r c way).toNat < (C'.set c true).length := by rw [List.length_set]; omega
          rw [getD_setB _ _ _ _ h1, getD_setB _ _ _ _ h2, if_pos e, if_pos e]
        · simp only [List.getD_eq_getElem?_getD]
          rw [List.getElem?_eq_none (by simp; omega), List.getElem?_eq_none (by simp; omega)]
      · rw [getD_setB' _ _ _ _ e, getD_setB' _ _ _ _ e, getD_setB' _ _ _ _ (by omega), getD_setB' _ _ _ _ (by omega)]
        exact h k (by omega)
    have hrec : ∀ way : Int, tilC n r (cov r C c way) (c + 1) = tilC n r (cov r C' c way) (c + 1) := fun way =>
      ih _ _ _ (by rw [cov_len, cov_len, hl]) (hcov way) hs
    unfold tilC
    have hsk : skipB r C c = skipB r C' c := by unfold skipB; rw [h c (Nat.le_refl _)]
    rw [hsk, hcan 1 (.inl rfl), hcan 2 (.inr rfl), hrec 1, hrec 2, ih C C' (c + 1) hl (fun k hk => h k (by omega)) hs]
theorem step_up {r : Reg} (hw : 1 ≤ r.wide) (way : Int) (h : way = 1 ∨ way = 2) (d : Nat) (h0 : 0 ≤ stepI r d way) : (d : Int) < stepI r d way := by
  rcases h with rfl | rfl
  · unfold stepI at h0 ⊢; simp only [if_true] at h0 ⊢
    split at h0
    · next hl => rw [if_pos hl]; omega
    · omega
  · have e2 : stepI r d 2 = if (d : Int) / r.wide < r.tall - 1 then d + r.wide else -1 := by unfold stepI; simp
    rw [e2] at h0 ⊢
    split at h0
    · next hl => rw [if_pos hl]; omega
    · omega
theorem tilC_same {r : Reg} (hw : 1 ≤ r.wide) {n : Nat} {C C' : List Bool} {c : Nat} (hl : C.length = C'.length) (h : ∀ k, c ≤ k → C.getD k false = C'.getD k false) : tilC n r C c = tilC n r C' c :=
  tilC_congr r n C C' c hl h (step_up hw)
/-- Cells at which there is nothing to do are passed. -/
theorem tilC_pass (r : Reg) (C : List Bool) (len : Nat) : ∀ (m c : Nat), c + m ≤ len → (∀ j, c ≤ j → j < c + m → skipB r C j = true) → tilC (len - c) r C c = tilC (len - (c + m)) r C (c + m) := by
  intro m
  induction m with
  | zero => intro c _ _; rfl
  | succ m ih =>
    intro c hl h
    have e : len - c = (len - (c + 1)) + 1 := by omega
    rw [e]
    conv => lhs; unfold tilC
    rw [h c (Nat.le_refl _) (by omega), if_pos rfl, ih (c + 1) (by omega) (fun j h1 h2 => h j (by omega) (by omega)), show c + 1 + m = c + (m + 1) by omega]
/-- What a direction yields. -/
def wayC (n : Nat) (r : Reg) (C : List Bool) (c : Nat) (way : Int) : Nat := if canB r C c way then tilC n r (cov r C c way) (c + 1) else 0
theorem tilC_open {r : Reg} {C : List Bool} {n c : Nat} (h : skipB r C c = false) : tilC (n + 1) r C c = wayC n r C c 1 + wayC n r C c 2 := by
  conv => lhs; unfold tilC
  rw [h]; rfl

/-! ### the count is the number of tilings -/
def covB (L : List Int) : List Bool := L.map fun x => decide (x ≠ 0)
theorem covB_get (L : List Int) (k : Nat) : (covB L).getD k false = decide (L.getD k 0 ≠ 0) := by
  unfold covB
  simp only [List.getD_eq_getElem?_getD, List.getElem?_map]
  cases L[k]? <;> simp
theorem skip_open {r : Reg} {L : List Int} {k : Nat} : skipB r (covB L) k = !openB r L k := by
  unfold skipB openB
  rw [covB_get]
  cases r.f k <;> by_cases h : L.getD k 0 = 0 <;> simp
theorem can_free {r : Reg} {L : List Int} {k : Nat} {way : Int} (hk : openB r L k = true) : canB r (covB L) k way = free r L k way := by
  obtain ⟨hf, h0⟩ := openB_iff.1 hk
  rw [Bool.eq_iff_iff, free_iff]
  unfold canB
  rw [covB_get]
  have := f_lt hf
  constructor
  · intro h
    simp only [Bool.and_eq_true, decide_eq_true_eq, Bool.not_eq_true', decide_eq_false_iff_not, Classical.not_not] at h
    exact ⟨by omega, h.1.1, by rw [Int.toNat_natCast]; exact hf, h.1.2, by rw [Int.toNat_natCast]; exact h0, h.2⟩
  · rintro ⟨_, h2, _, h4, _, h6⟩
    simp only [Bool.and_eq_true, decide_eq_true_eq, Bool.not_eq_true', decide_eq_false_iff_not, Classical.not_not]
    exact ⟨⟨h2, h4⟩, h6⟩
theorem cov_lay {r : Reg} {L : List Int} (h : laidOk r L = true) {k : Nat} {way : Int} (hf : free r L k way = true) : cov r (covB L) k way = covB (layL r L k way) := by
  obtain ⟨t, F⟩ := free_at h hf
  have hw := F.hway
  have hb := (backI_way F.hway).1
  rw [layL_is F]
  unfold cov covB
  rw [F.hst, Int.toNat_natCast, List.map_set, List.map_set]
  rw [show decide (way ≠ 0) = true from decide_eq_true (by omega), show decide (backI way ≠ 0) = true from decide_eq_true (by omega)]
theorem tilC_tils (r : Reg) : ∀ (n : Nat) (L : List Int) (c m : Nat), laidOk r L = true → c + n = L.length → (∀ j, j < c → openB r L j = false) → openN r L < m → tilC n r (covB L) c = (tils m r L).length := by
  intro n
  induction n with
  | zero =>
    intro L c m hL hc hno hm
    cases m with
    | zero => omega
    | succ m =>
      rw [tils_done (firstN_none fun j hj => hno j (by omega))]; rfl
  | succ n ih =>
    intro L c m hL hc hno hm
    cases m with
    | zero => omega
    | succ m =>
      cases ho : openB r L c
      · have := ih L (c + 1) (m + 1) hL (by omega) (fun j hj => by
          by_cases e : j = c
          · subst e; exact ho
          · exact hno j (by omega)) hm
        rw [← this]
        conv => lhs; unfold tilC
        rw [skip_open, ho]; rfl
      · have hf : firstN r L = some c := firstN_some (by omega) ho hno
        rw [tilC_open (by rw [skip_open, ho]; rfl), tils_some hf, List.length_append]
        have key : ∀ way : Int, wayC n r (covB L) c way = (if free r L c way = true then tils m r (layL r L c way) else []).length := fun way => by
          unfold wayC
          rw [can_free ho]
          cases hfr : free r L c way
          · rfl
          · rw [if_pos rfl, if_pos rfl, cov_lay hL hfr]
            have hon := openN_lay hL hfr
            obtain ⟨t, F⟩ := free_at hL hfr
            refine ih _ (c + 1) m (lay_ok hL hfr) (by rw [layL_len]; omega) (fun j hj => ?_) (by omega)
            have hw := F.hway
            cases hj2 : openB r (layL r L c way) j
            · rfl
            · obtain ⟨a, b⟩ := openB_iff.1 hj2
              rw [layL_get F] at b
              have hb := (backI_way F.hway).1
              split at b
              · omega
              · split at b
                · omega
                · next hne =>
                  have := hno j (by omega)
                  rw [openB_iff.2 ⟨a, b⟩] at this; cases this
        rw [key 1, key 2]
/-- How many tilings have all dominoes of a list. -/
def withL (r : Reg) (L : List Int) : Nat := tilC L.length r (covB L) 0
theorem withL_is {r : Reg} {L : List Int} (h : laidOk r L = true) {m : Nat} (hm : openN r L < m) : withL r L = (tils m r L).length := tilC_tils r _ L 0 m h (by omega) (fun j hj => by omega) hm
def manyT (r : Reg) : Int := if r.valid then ((tilsR r).length : Int) else -1
theorem manyT_no {r : Reg} (h : r.valid = false) : manyT r = -1 := by unfold manyT; rw [h]; rfl
theorem manyT_yes {r : Reg} (h : r.valid = true) : manyT r = ((tilsR r).length : Nat) := by unfold manyT; rw [if_pos h]
theorem withL_bare {r : Reg} (h : r.valid = true) : (withL r (bareL r) : Int) = manyT r := by
  rw [manyT_yes h, withL_is (bare_laid h) (bare_open h), tilsR_yes h]

/-! ### keys -/
def keyL (C : List Bool) (c : Nat) : List UInt8 := UInt8.ofNat c :: (C.drop c).map fun b => if b then 49 else 48
theorem keyL_inj {C C' : List Bool} {c c' : Nat} (hc : c < 256) (hc' : c' < 256) (h : keyL C c = keyL C' c') : c = c' ∧ ∀ k, c ≤ k → C.getD k false = C'.getD k false := by
  unfold keyL at h
  obtain ⟨h1, h2⟩ := List.cons.inj h
  have e : c = c' := by
    have := congrArg UInt8.toNat h1
    simp at this
    omega
  subst e
  refine ⟨rfl, fun k hk => ?_⟩
  have h3 : C.drop c = C'.drop c := by
    have := List.map_inj_right (f := fun b : Bool => (if b then 49 else 48 : UInt8)) (by intro a b h; cases a <;> cases b <;> first | rfl | (revert h; decide)) |>.1 h2
    exact this
  have h4 := congrArg (fun l => l.getD (k - c) false) h3
  simp only [List.getD_eq_getElem?_getD, List.getElem?_drop] at h4 ⊢
  rwa [show c + (k - c) = k by omega] at h4
end Domi

/- What a map remembers of counts, and what stands beside it. No program is named here. -/
set_option linter.unusedVariables false
namespace Domi
open Go Go.RowKit

/-- What the map says of the counts is right. -/
structure Memo (r : Reg) (D : DataW Unit) : Prop where
  isMap : Go.Maps.IsMap D
  says : ∀ (C : List Bool) (c : Nat), C.length = r.cells.length → c < r.cells.length → Go.Maps.has D (.string (keyL C c)) = true → ∀ z, D.atKey (.string (keyL C c)) z = .lit (.int .i64 (tilC (r.cells.length - c) r C c : Nat))
theorem Memo.start (r : Reg) : Memo r (.map []) := ⟨Go.Maps.isMap_empty, fun C c _ _ h => by cases h⟩
theorem atKey_all {D : DataW Unit} {k : Lit} {y z : DataW Unit} (h : Go.Maps.has D k = true) (hz : D.atKey k z = y) : ∀ z', D.atKey k z' = y := by
  intro z'
  cases D <;> try (cases h; done)
  rename_i es
  obtain ⟨p, hp, hpk⟩ := List.any_eq_true.1 h
  have hs : (es.find? (fun p => p.1.sameKey k)).isSome = true := List.find?_isSome.2 ⟨p, hp, hpk⟩
  obtain ⟨x, hx⟩ := Option.isSome_iff_exists.1 hs
  have e1 : x.2 = y := by simpa [DataW.atKey, hx] using hz
  simp [DataW.atKey, hx, e1]
theorem Memo.put {r : Reg} (hw : 1 ≤ r.wide) (hl : r.cells.length ≤ 36) {D : DataW Unit} (h : Memo r D) {C : List Bool} {c : Nat} (hC : C.length = r.cells.length) (hc : c < r.cells.length) :
    Memo r (D.put (.string (keyL C c)) (.lit (.int .i64 (tilC (r.cells.length - c) r C c : Nat)))) := by
  refine ⟨h.isMap.put _ _, fun C' c' hC' hc' hh z => ?_⟩
  by_cases e : keyL C' c' = keyL C c
  · obtain ⟨ec, hg⟩ := keyL_inj (by omega) (by omega) e
    rw [e, Go.Maps.atKey_put_same h.isMap (show WideAt.IsKeyLit (.string (keyL C c)) from trivial), ec]
    rw [tilC_same hw (C := C) (C' := C') (c := c) (by rw [hC, hC']) (fun k hk => (hg k (by omega)).symm)]
  · have hne : (Lit.string (keyL C' c')) ≠ .string (keyL C c) := fun e2 => e (Lit.string.inj e2)
    rw [Go.Maps.has_put_other hne] at hh
    rw [Go.Maps.atKey_put_other hne]
    exact h.says C' c' hC' hc' hh z

/-- The bytes of a key. -/
def keyN (C : List Bool) (c : Nat) : List Int := (c : Int) :: (C.drop c).map fun b => if b then 49 else 48
theorem keyN_len (C : List Bool) (c : Nat) : (keyN C c).length = C.length - c + 1 := by simp [keyN]
theorem keyN_str (C : List Bool) (c : Nat) : (strOfNums (keyN C c)).data.toList = keyL C c := by
  rw [strOfNums_data]
  unfold keyN keyL
  rw [List.map_cons, List.map_map]
  congr 1
  refine List.map_congr_left fun b _ => ?_
  cases b <;> rfl
/-- The key with its first j signs behind the number. -/
def keyJ (C : List Bool) (c j : Nat) : List Int := (c : Int) :: ((C.drop c).take j).map fun b => if b then 49 else 48
theorem keyJ_len {C : List Bool} {c j : Nat} (h : j ≤ C.length - c) : (keyJ C c j).length = j + 1 := by simp [keyJ]; omega
theorem keyJ_succ {C : List Bool} {c j : Nat} (h : j < C.length - c) : keyJ C c (j + 1) = keyJ C c j ++ [if C.getD (c + j) false then 49 else 48] := by
  unfold keyJ
  have hl : j < (C.drop c).length := by rw [List.length_drop]; exact h
  rw [take_snoc (C.drop c) false j hl, List.map_append, List.cons_append]
  congr 3
  simp only [List.map_cons, List.map_nil, List.getD_eq_getElem?_getD, List.getElem?_drop]
theorem keyJ_all {C : List Bool} {c : Nat} : keyJ C c (C.length - c) = keyN C c := by
  unfold keyJ keyN
  rw [List.take_of_length_le (by rw [List.length_drop]; omega)]

/-- What the first j directions yield together. -/
def sumJ (m : Nat) (r : Reg) (C : List Bool) (k j : Nat) : Nat := (if 0 < j then wayC m r C k 1 else 0) + (if 1 < j then wayC m r C k 2 else 0)
theorem sumJ_zero (m : Nat) (r : Reg) (C : List Bool) (k : Nat) : sumJ m r C k 0 = 0 := by unfold sumJ; simp
theorem sumJ_two (m : Nat) (r : Reg) (C : List Bool) (k : Nat) : sumJ m r C k 2 = wayC m r C k 1 + wayC m r C k 2 := by unfold sumJ; simp
theorem sumJ_succ {m : Nat} {r : Reg} {C : List Bool} {k j : Nat} (hj : j < 2) : sumJ m r C k (j + 1) = sumJ m r C k j + wayC m r C k ((j : Int) + 1) := by
  have hc : j = 0 ∨ j = 1 := by omega
  rcases hc with rfl | rfl <;> simp [sumJ]
theorem wayC_le (m : Nat) (r : Reg) (C : List Bool) (k : Nat) (way : Int) : wayC m r C k way ≤ 2 ^ m := by
  unfold wayC; split
  · exact tilC_le _ _ _ _
  · exact Nat.zero_le _
theorem sumJ_le (m : Nat) (r : Reg) (C : List Bool) (k j : Nat) : sumJ m r C k j ≤ 2 ^ m + 2 ^ m := by
  have h1 := wayC_le m r C k 1
  have h2 := wayC_le m r C k 2
  unfold sumJ; split <;> split <;> omega
theorem wayC_no {m : Nat} {r : Reg} {C : List Bool} {k : Nat} {way : Int} (h : canB r C k way = false) : wayC m r C k way = 0 := by unfold wayC; rw [h]; rfl
theorem wayC_yes {m : Nat} {r : Reg} {C : List Bool} {k : Nat} {way : Int} (h : canB r C k way = true) : wayC m r C k way = tilC m r (cov r C k way) (k + 1) := by unfold wayC; rw [if_pos h]

/-! ### what stands when the map turns -/
section
variable {w w' : World} {gm : Nat}
theorem map_cells {es : Array MapEntry} {ck : Nat} (hm : w.heap[gm]? = some (.map es ck)) {b o : Nat} {v : Value} (hc : w.cell? ⟨b, o, none⟩ = some v) : b ≠ gm := by
  rintro rfl
  simp [World.cell?, hm] at hc
theorem map_block {es : Array MapEntry} {ck : Nat} (hm : w.heap[gm]? = some (.map es ck)) {b : Nat} {cs : Array Value} {t : TypeId} {fr : Nat × Nat} (hc : w.heap[b]? = some (.cells cs t fr)) : b ≠ gm := by
  rintro rfl; rw [hm] at hc; cases hc
theorem grown_block {es : Array MapEntry} {ck : Nat} (hm : w.heap[gm]? = some (.map es ck)) (hg : w.grownBy w' (some gm)) {b : Nat} {cs : Array Value} {t : TypeId} {fr : Nat × Nat} (hc : w.heap[b]? = some (.cells cs t fr)) : w'.heap[b]? = some (.cells cs t fr) := by
  rw [hg.block b (lt_of_heap hc) (fun e => map_block hm hc (Option.some.inj e))]; exact hc
theorem Sl.grownM {es : Array MapEntry} {ck : Nat} (hm : w.heap[gm]? = some (.map es ck)) (hg : w.grownBy w' (some gm)) {v : Value} {xs : List Value} (h : Sl w v xs) : Sl w' v xs := by
  obtain ⟨a, cap, rfl, h1, h2, h3⟩ := h
  refine ⟨a, cap, rfl, h1, h2, ?_⟩
  rcases h3 with h3 | ⟨b, off, rfl, hl, hc⟩
  · exact .inl h3
  · exact .inr ⟨b, off, rfl, Nat.lt_of_lt_of_le hl hg.size, fun i hi => hg.cell (hc i hi) (fun e => map_cells hm (hc i hi) (Option.some.inj e))⟩
end
end Domi

/- Fields of two and of three rows: plain. -/
set_option linter.unusedVariables false
namespace Domi
/-- Fields of two rows. -/
def fib2 : Nat → Nat
  | 0 => 1
  | 1 => 1
  | n + 2 => fib2 n + fib2 (n + 1)
theorem fib2_pos (n : Nat) : 1 ≤ fib2 n ∧ 1 ≤ fib2 (n + 1) := by
  induction n with
  | zero => exact ⟨Nat.le_refl _, Nat.le_refl _⟩
  | succ n ih => refine ⟨ih.2, ?_⟩; rw [fib2]; omega
theorem fib2_le (n : Nat) : fib2 n ≤ 2 ^ n ∧ fib2 (n + 1) ≤ 2 ^ (n + 1) := by
  induction n with
  | zero => exact ⟨Nat.le_refl _, by decide⟩
  | succ n ih =>
    refine ⟨ih.2, ?_⟩
    have h1 : 2 ^ (n + 1) = 2 * 2 ^ n := by rw [Nat.pow_succ]; omega
    have h2 : 2 ^ (n + 1 + 1) = 2 * 2 ^ (n + 1) := by rw [Nat.pow_succ]; omega
    rw [fib2]; omega
theorem fib2_cut : ∀ m n : Nat, fib2 (m + n + 2) = fib2 (m + 1) * fib2 (n + 1) + fib2 m * fib2 n := by
  intro m
  induction m with
  | zero => intro n; simp [fib2]; omega
  | succ m ih =>
    intro n
    have h := ih (n + 1)
    rw [show m + 1 + n + 2 = m + (n + 1) + 2 by omega, h]
    have e1 : fib2 (n + 1 + 1) = fib2 n + fib2 (n + 1) := by rw [fib2]
    have e2 : fib2 (m + 1 + 1) = fib2 m + fib2 (m + 1) := by rw [fib2]
    rw [e1, e2, Nat.mul_add, Nat.add_mul]
    omega
theorem fib2_two {c k : Nat} (h1 : 1 ≤ k) (h2 : k < c) : fib2 k * fib2 (c - k) + fib2 (k - 1) * fib2 (c - k - 1) = fib2 c := by
  have h := fib2_cut (k - 1) (c - k - 1)
  rw [show k - 1 + (c - k - 1) + 2 = c by omega, show k - 1 + 1 = k by omega, show c - k - 1 + 1 = c - k by omega] at h
  exact h.symm
def twoRows (c : Int) : Int := if inB c 0 60 then (fib2 c.toNat : Nat) else -1
/-- Fields of three rows and twice as many columns. -/
def tri3 : Nat → Int
  | 0 => 1
  | 1 => 3
  | n + 2 => 4 * tri3 (n + 1) - tri3 n
theorem tri3_up (n : Nat) : 1 ≤ tri3 n ∧ tri3 n ≤ tri3 (n + 1) := by
  induction n with
  | zero => decide
  | succ n ih => rw [show tri3 (n + 1 + 1) = 4 * tri3 (n + 1) - tri3 n from rfl]; omega
theorem tri3_le (n : Nat) : tri3 n ≤ 4 ^ n ∧ tri3 (n + 1) ≤ 4 ^ (n + 1) := by
  induction n with
  | zero => decide
  | succ n ih =>
    refine ⟨ih.2, ?_⟩
    have h := (tri3_up n).1
    have h2 : (4 : Int) ^ (n + 1 + 1) = 4 ^ (n + 1) * 4 := Int.pow_succ _ _
    rw [show tri3 (n + 1 + 1) = 4 * tri3 (n + 1) - tri3 n from rfl]; omega
def threeRows (c : Int) : Int := if inB c 0 40 then (if c % 2 = 1 then 0 else tri3 (c.toNat / 2)) else -1
end Domi

/- The search over free places that hang together, and the relaxation over pairs: plain. -/
set_option linter.unusedVariables false
namespace Domi
open Go Go.RowKit

/-! ### the search -/
/-- What a search that begins at the places K does to the marks. -/
structure Dfs (E : Nat → Nat → Prop) (fr : Nat → Bool) (M M' : List Bool) (K : Nat → Prop) : Prop where
  len : M'.length = M.length
  grow : ∀ j, M.getD j false = true → M'.getD j false = true
  reach : ∀ j, M'.getD j false = true → M.getD j false = true ∨ ∃ k, K k ∧ fr k = true ∧ Conn E k j
  clos : ∀ j i, M'.getD j false = true → M.getD j false = false → E j i → M'.getD i false = true
  here : ∀ k, K k → fr k = true → M'.getD k false = true
section
variable {E : Nat → Nat → Prop} {fr : Nat → Bool} {M M1 M' : List Bool} {K K' : Nat → Prop}
theorem Dfs.nothing (h : ∀ k, K k → fr k = true → M.getD k false = true) : Dfs E fr M M K :=
  ⟨rfl, fun _ h => h, fun _ h => .inl h, fun j i h1 h2 _ => (by rw [h1] at h2; cases h2), h⟩
theorem Dfs.congr (h : Dfs E fr M M' K) (e : ∀ k, fr k = true → (K k ↔ K' k)) : Dfs E fr M M' K' :=
  ⟨h.len, h.grow, fun j hj => (h.reach j hj).imp id fun ⟨k, hk, hf, hc⟩ => ⟨k, (e k hf).1 hk, hf, hc⟩, h.clos, fun k hk hf => h.here k ((e k hf).2 hk) hf⟩
theorem Dfs.seq (h : Dfs E fr M M1 K) (g : Dfs E fr M1 M' K') : Dfs E fr M M' (fun k => K k ∨ K' k) := by
  refine ⟨g.len.trans h.len, fun j hj => g.grow j (h.grow j hj), fun j hj => ?_, fun j i hj hn e => ?_, fun k hk hf => ?_⟩
  · rcases g.reach j hj with hj | ⟨k, hk, hf, hc⟩
    · rcases h.reach j hj with hj | ⟨k, hk, hf, hc⟩
      · exact .inl hj
      · exact .inr ⟨k, .inl hk, hf, hc⟩
    · exact .inr ⟨k, .inr hk, hf, hc⟩
  · cases h1 : M1.getD j false
    · exact g.clos j i hj h1 e
    · exact g.grow i (h.clos j i h1 hn e)
  · rcases hk with hk | hk
    · exact g.grow k (h.here k hk hf)
    · exact g.here k hk hf
theorem getB_put (l : List Bool) (i j : Nat) (v : Bool) (hi : i < l.length) : (l.set i v).getD j false = if i = j then v else l.getD j false := by
  simp only [List.getD_eq_getElem?_getD, List.getElem?_set]
  by_cases h : i = j
  · subst h; simp [hi]
  · simp [h]
/-- A place is marked, and then all its neighbours are searched. -/
theorem Dfs.visit {c : Nat} (hc : c < M.length) (hE : ∀ a b, E a b → fr b = true) (g : Dfs E fr (M.set c true) M' (fun j => E c j)) (hf : fr c = true) : Dfs E fr M M' (fun k => k = c) := by
  have hget : ∀ j, (M.set c true).getD j false = if c = j then true else M.getD j false := fun j => getB_put M c j true hc
  refine ⟨by simpa using g.len, fun j hj => g.grow j ?_, fun j hj => ?_, fun j i hj hn e => ?_, fun k hk _ => ?_⟩
  · rw [hget]; split
    · rfl
    · exact hj
  · rcases g.reach j hj with hj | ⟨k, hk, _, hcn⟩
    · rw [hget] at hj
      by_cases e : c = j
      · subst e; exact .inr ⟨c, rfl, hf, .refl _⟩
      · rw [if_neg e] at hj; exact .inl hj
    · exact .inr ⟨c, rfl, hf, (Conn.one hk).trans hcn⟩
  · by_cases e2 : c = j
    · subst e2; exact g.here i e (hE _ _ e)
    · exact g.clos j i hj (by rw [hget, if_neg e2]; exact hn) e
  · subst hk; exact g.grow _ (by rw [hget, if_pos rfl])

/-- How many places bear no mark. -/
noncomputable def unmet (M : List Bool) : Nat := num M.length (fun j => M.getD j false = false)
theorem unmet_mono (hl : M'.length = M.length) (h : ∀ j, M.getD j false = true → M'.getD j false = true) : unmet M' ≤ unmet M := by
  unfold unmet
  rw [hl]
  refine num_mono fun k _ hk => ?_
  cases h2 : M.getD k false
  · rfl
  · rw [h k h2] at hk; cases hk
theorem unmet_put {c : Nat} (hc : c < M.length) (hn : M.getD c false = false) : unmet (M.set c true) < unmet M := by
  have hget : ∀ j, (M.set c true).getD j false = if c = j then true else M.getD j false := fun j => getB_put M c j true hc
  unfold unmet
  rw [List.length_set]
  refine num_lt (fun k _ hk => ?_) hc (by rw [hget, if_pos rfl]; decide) hn
  rw [hget] at hk
  split at hk
  · cases hk
  · exact hk

/-- The marks behind a search from all free places before c. -/
def Marked (E : Nat → Nat → Prop) (fr : Nat → Bool) (n : Nat) (M : List Bool) (c : Nat) : Prop :=
  M.length = n ∧ ∀ j, M.getD j false = true ↔ (fr j = true ∧ least E j < c)
theorem Marked.start {n : Nat} : Marked E fr n (List.replicate n false) 0 :=
  ⟨by simp, fun j => ⟨fun h => by simp [List.getD_eq_getElem?_getD, List.getElem?_replicate] at h; split at h <;> simp at h, fun h => absurd h.2 (Nat.not_lt_zero _)⟩⟩
theorem fr_conn (hE : ∀ a b, E a b → fr b = true) {a b : Nat} (h : Conn E a b) (ha : fr a = true) : fr b = true := h.stays (Q := fun k => fr k = true) (fun a b e _ => hE a b e) ha
theorem Marked.skip {n c : Nat} (hs : ∀ a b, E a b → E b a) (hE : ∀ a b, E a b → fr b = true) (h : Marked E fr n M c) (hc : fr c = false ∨ M.getD c false = true) : Marked E fr n M (c + 1) := by
  refine ⟨h.1, fun j => (h.2 j).trans ⟨fun ⟨a, b⟩ => ⟨a, by omega⟩, fun ⟨a, b⟩ => ⟨a, ?_⟩⟩⟩
  by_cases e : least E j = c
  · exfalso
    have hcj := least_conn E j
    rw [e] at hcj
    have hfc := fr_conn hE hcj a
    rcases hc with hc | hc
    · rw [hc] at hfc; cases hfc
    · have := ((h.2 c).1 hc).2
      have e2 := least_eq hs hcj
      omega
  · omega
theorem Marked.next {n c : Nat} (hs : ∀ a b, E a b → E b a) (hE : ∀ a b, E a b → fr b = true) (h : Marked E fr n M c) (hf : fr c = true) (hm : M.getD c false = false) (g : Dfs E fr M M' (fun k => k = c)) :
    Marked E fr n M' (c + 1) ∧ least E c = c := by
  have hl : least E c = c := by
    have h1 := least_self (E := E) c
    have h2 : ¬ least E c < c := fun hlt => by have := (h.2 c).2 ⟨hf, hlt⟩; rw [hm] at this; cases this
    omega
  have hkc : ∀ a b, Conn E a b → M'.getD a false = true → M.getD a false = false → (∀ j, Conn E a j → M.getD j false = false) → M'.getD b false = true := by
    intro a b hab
    induction hab with
    | refl => exact fun h _ _ => h
    | step hab e ih => exact fun h1 h2 h3 => g.clos _ _ (ih h1 h2 h3) (h3 _ hab) e
  refine ⟨⟨g.len.trans h.1, fun j => ⟨fun hj => ?_, fun ⟨a, b⟩ => ?_⟩⟩, hl⟩
  · rcases g.reach j hj with hj | ⟨k, rfl, hfk, hcn⟩
    · have := (h.2 j).1 hj; exact ⟨this.1, by omega⟩
    · exact ⟨fr_conn hE hcn hfk, by rw [← least_eq hs hcn, hl]; omega⟩
  · by_cases e : least E j = c
    · have hcj := least_conn E j
      rw [e] at hcj
      refine hkc c j (hcj.symm hs) (g.here c rfl hf) hm fun i hi => ?_
      cases hmi : M.getD i false
      · rfl
      · have := ((h.2 i).1 hmi).2
        rw [← least_eq hs hi, hl] at this
        omega
    · exact g.grow j ((h.2 j).2 ⟨a, by omega⟩)
theorem Marked.met {n c : Nat} (h : Marked E fr n M c) (hm : M.getD c false = true) : least E c ≠ c := by
  have := ((h.2 c).1 hm).2; omega

/-- How many parts the free places before c have. -/
noncomputable def rootsN (E : Nat → Nat → Prop) (fr : Nat → Bool) (c : Nat) : Nat := num c (fun k => fr k = true ∧ least E k = k)
theorem rootsN_zero : rootsN E fr 0 = 0 := rfl
theorem rootsN_yes {c : Nat} (h1 : fr c = true) (h2 : least E c = c) : rootsN E fr (c + 1) = rootsN E fr c + 1 := by unfold rootsN; rw [num_succ, if_pos ⟨h1, h2⟩]
theorem rootsN_no {c : Nat} (h : fr c = false ∨ least E c ≠ c) : rootsN E fr (c + 1) = rootsN E fr c := by
  unfold rootsN; rw [num_succ, if_neg (by rintro ⟨a, b⟩; rcases h with h | h; rw [h] at a; cases a; exact h b)]; rfl
end

/-! ### relaxation over all pairs -/
structure HInv (E : Nat → Nat → Prop) (fr : Nat → Bool) (n : Nat) (L : List Int) : Prop where
  len : L.length = n
  no : ∀ k, k < n → fr k = false → L.getD k 0 = -1
  yes : ∀ k, k < n → fr k = true → 0 ≤ L.getD k 0 ∧ L.getD k 0 ≤ k ∧ Conn E k (L.getD k 0).toNat
section
variable {E : Nat → Nat → Prop} {fr : Nat → Bool} {n : Nat} {L : List Int}
theorem HInv.bd (h : HInv E fr n L) {k : Nat} (hk : k < n) : -1 ≤ L.getD k 0 ∧ L.getD k 0 ≤ k := by
  cases hf : fr k
  · rw [h.no k hk hf]; omega
  · have := h.yes k hk hf; omega
theorem HInv.fr_iff (h : HInv E fr n L) {k : Nat} (hk : k < n) : fr k = true ↔ 0 ≤ L.getD k 0 := by
  cases hf : fr k
  · rw [h.no k hk hf]; simp
  · exact ⟨fun _ => (h.yes k hk hf).1, fun _ => rfl⟩
theorem HInv.put (h : HInv E fr n L) {k j : Nat} (hk : k < n) (hj : j < n) (e : E k j) (hlt : L.getD j 0 < L.getD k 0) (h0 : 0 ≤ L.getD j 0) : HInv E fr n (L.set k (L.getD j 0)) := by
  have hget : ∀ i, (L.set k (L.getD j 0)).getD i 0 = if k = i then L.getD j 0 else L.getD i 0 := fun i => getD_put L k i _ (by rw [h.len]; exact hk)
  have hfk := (h.fr_iff hk).2 (by omega)
  have hfj := (h.fr_iff hj).2 h0
  refine ⟨by simpa using h.len, fun i hi hf => ?_, fun i hi hf => ?_⟩
  · rw [hget, if_neg (by rintro rfl; rw [hfk] at hf; cases hf)]; exact h.no i hi hf
  · rw [hget]
    by_cases e2 : k = i
    · subst e2; rw [if_pos rfl]
      have := h.yes k hk hfk
      exact ⟨h0, by omega, (Conn.one e).trans (h.yes j hj hfj).2.2⟩
    · rw [if_neg e2]; exact h.yes i hi hf
/-- What is still to lose. -/
def sumN (n : Nat) (L : List Int) : Nat := match n with | 0 => 0 | m + 1 => sumN m L + (L.getD m 0).toNat
theorem sumN_put {k : Nat} {x : Int} (hk : k < L.length) (h0 : 0 ≤ x) (hx : x < L.getD k 0) : ∀ m, sumN m (L.set k x) + (if k < m then 1 else 0) ≤ sumN m L := by
  intro m
  have hget : ∀ i, (L.set k x).getD i 0 = if k = i then x else L.getD i 0 := fun i => getD_put L k i _ hk
  induction m with
  | zero => simp [sumN]
  | succ m ih =>
    unfold sumN
    rw [hget]
    by_cases e : k = m
    · subst e; rw [if_pos rfl, if_pos (by omega)]; rw [if_neg (by omega)] at ih; omega
    · rw [if_neg e]
      by_cases e2 : k < m
      · rw [if_pos e2] at ih; rw [if_pos (by omega)]; omega
      · rw [if_neg e2] at ih; rw [if_neg (by omega)]; omega
/-- A round that turned nothing: the least numbers stand. -/
theorem HInv.done (h : HInv E fr n L) (hs : ∀ a b, E a b → E b a) (hE : ∀ a b, E a b → a < n ∧ b < n ∧ fr b = true) (hq : ∀ k j, k < n → j < n → E k j → ¬ (L.getD j 0 < L.getD k 0 ∧ 0 ≤ L.getD j 0)) :
    ∀ k, k < n → fr k = true → L.getD k 0 = least E k := by
  have hstep : ∀ a b, E a b → L.getD a 0 = L.getD b 0 := fun a b e => by
    have ha := hE _ _ e
    have hb := hE _ _ (hs _ _ e)
    have h1 := hq a b ha.1 ha.2.1 e
    have h2 := hq b a ha.2.1 ha.1 (hs _ _ e)
    have h3 := (h.fr_iff ha.2.1).1 ha.2.2
    have h4 := (h.fr_iff hb.2.1).1 hb.2.2
    omega
  have hconn : ∀ a b, Conn E a b → L.getD a 0 = L.getD b 0 := fun a b hab => by
    induction hab with
    | refl => rfl
    | step _ e ih => exact ih.trans (hstep _ _ e)
  intro k hk hf
  have hc := least_conn E k
  have hl := least_self (E := E) k
  have hfm : fr (least E k) = true := fr_conn (fun a b e => (hE a b e).2.2) hc hf
  have hy := h.yes (least E k) (by omega) hfm
  have h1 := hconn _ _ hc
  have h2 := least_le (hc.trans hy.2.2)
  omega
end
end Domi

/- The wider field of a region, its free places, and which of them are near: plain. -/
set_option linter.unusedVariables false
namespace Domi
open Go Go.RowKit

/-- How many places the wider field has. -/
def Reg.n2 (r : Reg) : Nat := ((r.wide + 2) * (r.tall + 2)).toNat
/-- Is the k-th place of the wider field one, and no cell of the region? -/
def Reg.fr (r : Reg) (k : Nat) : Bool := decide (k < r.n2) && !r.at_ ((k : Int) % (r.wide + 2) - 1) ((k : Int) / (r.wide + 2) - 1)
/-- Two free places, the one beside the other or at a corner. -/
def E8 (r : Reg) (a b : Nat) : Prop := r.fr a = true ∧ r.fr b = true ∧ (-1 ≤ (a : Int) % (r.wide + 2) - (b : Int) % (r.wide + 2) ∧ (a : Int) % (r.wide + 2) - (b : Int) % (r.wide + 2) ≤ 1) ∧ (-1 ≤ (a : Int) / (r.wide + 2) - (b : Int) / (r.wide + 2) ∧ (a : Int) / (r.wide + 2) - (b : Int) / (r.wide + 2) ≤ 1)
/-- The place in column x and row y of the wider field is the k-th. -/
def plc (r : Reg) (x y : Int) (k : Nat) : Prop := 0 ≤ x ∧ x < r.wide + 2 ∧ 0 ≤ y ∧ y < r.tall + 2 ∧ (k : Int) = y * (r.wide + 2) + x
/-- A place about (x, y), before the direction (a, b). -/
def KJ (r : Reg) (x y a b : Int) (k : Nat) : Prop := ∃ dx dy : Int, (-1 ≤ dx ∧ dx ≤ 1) ∧ (-1 ≤ dy ∧ dy ≤ 1) ∧ (dx < a ∨ (dx = a ∧ dy < b)) ∧ plc r (x + dx) (y + dy) k

section
variable {r : Reg} {x y : Int} {k c : Nat}
theorem fr_lt (h : r.fr k = true) : k < r.n2 := by unfold Reg.fr at h; simp only [Bool.and_eq_true, decide_eq_true_eq] at h; exact h.1
theorem E8.symm {a b : Nat} (h : E8 r a b) : E8 r b a := ⟨h.2.1, h.1, by have := h.2.2.1; omega, by have := h.2.2.2; omega⟩
theorem E8.lt {a b : Nat} (h : E8 r a b) : a < r.n2 ∧ b < r.n2 ∧ r.fr b = true := ⟨fr_lt h.1, fr_lt h.2.1, h.2.1⟩
theorem n2_int (h1 : 1 ≤ r.wide) (h2 : 1 ≤ r.tall) : (r.n2 : Int) = (r.wide + 2) * (r.tall + 2) := by
  unfold Reg.n2
  have : 0 ≤ (r.wide + 2) * (r.tall + 2) := Int.mul_nonneg (by omega) (by omega)
  omega
theorem area_in' {x y : Int} (hx : 1 ≤ x ∧ x ≤ 6) (hy : 1 ≤ y ∧ y ≤ 6) : (x + 2) * (y + 2) ≤ 64 := by
  obtain ⟨a, b⟩ := hx
  have h : x = 1 ∨ x = 2 ∨ x = 3 ∨ x = 4 ∨ x = 5 ∨ x = 6 := by omega
  rcases h with rfl | rfl | rfl | rfl | rfl | rfl <;> omega
theorem plc.inv (h1 : 1 ≤ r.wide) (h2 : 1 ≤ r.tall) (h : plc r x y k) : k < r.n2 ∧ (k : Int) % (r.wide + 2) = x ∧ (k : Int) / (r.wide + 2) = y := by
  obtain ⟨a, b, c, d, e⟩ := h
  have hm := xy_of (w := r.wide + 2) (x := x) (y := y) a b
  have hl := xy_lt (w := r.wide + 2) (t := r.tall + 2) (x := x) (y := y) a b c d
  rw [← e] at hm hl
  have := n2_int h1 h2
  exact ⟨by omega, hm.1, hm.2⟩
theorem plc_at (h1 : 1 ≤ r.wide) (h2 : 1 ≤ r.tall) (hk : k < r.n2) : plc r ((k : Int) % (r.wide + 2)) ((k : Int) / (r.wide + 2)) k := by
  have hn := n2_int h1 h2
  have := div_lt_of (w := r.wide + 2) (t := r.tall + 2) (c := (k : Int)) (by omega) (by omega)
  refine ⟨Int.emod_nonneg _ (by omega), Int.emod_lt_of_pos _ (by omega), Int.ediv_nonneg (by omega) (by omega), by omega, ?_⟩
  have := Int.mul_ediv_add_emod (k : Int) (r.wide + 2)
  rw [Int.mul_comm] at this
  omega
theorem plc.fr (h1 : 1 ≤ r.wide) (h2 : 1 ≤ r.tall) (h : plc r x y k) : r.fr k = !r.at_ (x - 1) (y - 1) := by
  obtain ⟨a, b, c⟩ := h.inv h1 h2
  unfold Reg.fr
  rw [b, c]
  simp [a]
theorem plc.uniq (h : plc r x y k) (g : plc r x y c) : k = c := by have := h.2.2.2.2; have := g.2.2.2.2; omega
theorem KJ_none (h : KJ r x y (-1) (-1) k) : False := by obtain ⟨dx, dy, h1, h2, h3, _⟩ := h; omega
theorem KJ_step {a b : Int} (ha : -1 ≤ a ∧ a ≤ 1) (hb : -1 ≤ b ∧ b ≤ 1) : KJ r x y a b k ∨ plc r (x + a) (y + b) k ↔ KJ r x y a (b + 1) k := by
  constructor
  · rintro (⟨dx, dy, h1, h2, h3, h4⟩ | h)
    · exact ⟨dx, dy, h1, h2, by omega, h4⟩
    · exact ⟨a, b, ha, hb, by omega, h⟩
  · rintro ⟨dx, dy, h1, h2, h3, h4⟩
    by_cases e : dx = a ∧ dy = b
    · obtain ⟨rfl, rfl⟩ := e; exact .inr h4
    · exact .inl ⟨dx, dy, h1, h2, by omega, h4⟩
theorem KJ_row {a : Int} : KJ r x y a 2 k ↔ KJ r x y (a + 1) (-1) k :=
  ⟨fun ⟨dx, dy, h1, h2, h3, h4⟩ => ⟨dx, dy, h1, h2, by omega, h4⟩, fun ⟨dx, dy, h1, h2, h3, h4⟩ => ⟨dx, dy, h1, h2, by omega, h4⟩⟩
theorem KJ_all (h1 : 1 ≤ r.wide) (h2 : 1 ≤ r.tall) (hc : plc r x y c) (hf : r.fr c = true) (hk : r.fr k = true) : KJ r x y 2 (-1) k ↔ E8 r c k := by
  obtain ⟨a1, a2, a3⟩ := hc.inv h1 h2
  unfold E8
  rw [a2, a3]
  constructor
  · rintro ⟨dx, dy, d1, d2, d3, d4⟩
    obtain ⟨_, b2, b3⟩ := d4.inv h1 h2
    rw [b2, b3]
    exact ⟨hf, hk, by omega, by omega⟩
  · rintro ⟨_, _, e1, e2⟩
    have hp := plc_at h1 h2 (fr_lt hk)
    refine ⟨(k : Int) % (r.wide + 2) - x, (k : Int) / (r.wide + 2) - y, by omega, by omega, by omega, ?_⟩
    rw [show x + ((k : Int) % (r.wide + 2) - x) = (k : Int) % (r.wide + 2) by omega, show y + ((k : Int) / (r.wide + 2) - y) = (k : Int) / (r.wide + 2) by omega]
    exact hp
/-- Behind all nine directions: the search from here is done. -/
theorem dfs_all (h1 : 1 ≤ r.wide) (h2 : 1 ≤ r.tall) {M M' : List Bool} (hl : M.length = r.n2) (hc : plc r x y c) (hf : r.fr c = true) (g : Dfs (E8 r) r.fr (M.set c true) M' (KJ r x y 2 (-1))) : Dfs (E8 r) r.fr M M' (plc r x y) :=
  (Dfs.visit (E := E8 r) (by rw [hl]; exact fr_lt hf) (fun _ _ e => e.2.1) (g.congr fun _ hk => KJ_all h1 h2 hc hf hk) hf).congr fun k hk => ⟨fun e => by subst e; exact hc, fun e => e.uniq hc⟩
theorem dfs_out {M : List Bool} (h : ¬ (0 ≤ x ∧ x < r.wide + 2 ∧ 0 ≤ y ∧ y < r.tall + 2)) : Dfs (E8 r) r.fr M M (plc r x y) :=
  .nothing fun _ hk _ => absurd ⟨hk.1, hk.2.1, hk.2.2.1, hk.2.2.2.1⟩ h
theorem dfs_met {M : List Bool} (hc : plc r x y c) (h : M.getD c false = true) : Dfs (E8 r) r.fr M M (plc r x y) :=
  .nothing fun k hk _ => by rw [hk.uniq hc]; exact h
theorem dfs_cell {M : List Bool} (h1 : 1 ≤ r.wide) (h2 : 1 ≤ r.tall) (h : r.at_ (x - 1) (y - 1) = true) : Dfs (E8 r) r.fr M M (plc r x y) :=
  .nothing fun k hk hf => by rw [hk.fr h1 h2, h] at hf; cases hf
end
/-- How many holes a region has. -/
noncomputable def Reg.holes (r : Reg) : Int := (rootsN (E8 r) r.fr r.n2 : Int) - 1
noncomputable def Reg.holesR (r : Reg) : Int := if r.valid then r.holes else -1
theorem holesR_no {r : Reg} (h : r.valid = false) : r.holesR = -1 := by unfold Reg.holesR; rw [h]; rfl
theorem holesR_yes {r : Reg} (h : r.valid = true) : r.holesR = r.holes := by unfold Reg.holesR; rw [if_pos h]
end Domi

/- Parts: the reference's relaxation, in pairs; and how many parts there are. Plain. -/
set_option linter.unusedVariables false
namespace Domi
open Go Go.RowKit

section
variable {r : Reg} {P L : List Int} {D : Nat → Nat → Prop}
/-- Two neighbours get the lesser number of both. -/
theorem PJ.pair (h : PJ r P L D) (hv : r.valid = true) {c j : Nat} (e : E4 r c j) (hcj : c ≠ j) {x : Int} (hx : x = L.getD c 0 ∧ L.getD c 0 ≤ L.getD j 0 ∨ x = L.getD j 0 ∧ L.getD j 0 ≤ L.getD c 0) :
    PJ r P ((L.set c x).set j x) (fun k i => D k i ∨ (k = c ∧ i = j) ∨ (k = j ∧ i = c)) := by
  have hvj : val r L j = (L.getD j 0).toNat := val_yes e.2.1
  have hvc : val r L c = (L.getD c 0).toNat := val_yes e.1
  have hmj := h.mono j
  have hmc := h.mono c
  obtain ⟨c1, c2, c3⟩ := h.inv.yes c e.1
  obtain ⟨j1, j2, j3⟩ := h.inv.yes j e.2.1
  have e' : E4 r j c := e.symm hv
  have key : 0 ≤ x ∧ x ≤ L.getD c 0 ∧ Conn (E4 r) c x.toNat ∧ x ≤ L.getD j 0 ∧ Conn (E4 r) j x.toNat := by
    rcases hx with ⟨rfl, h1⟩ | ⟨rfl, h1⟩
    · exact ⟨c1, Int.le_refl _, c3, h1, conn_of h.inv e'⟩
    · exact ⟨j1, h1, conn_of h.inv e, Int.le_refl _, j3⟩
  have h1 := h.put e.1 key.1 key.2.1 key.2.2.1
  have hg : (L.set c x).getD j 0 = L.getD j 0 := by
    rw [getD_put _ _ _ _ (by rw [h.inv.len]; exact f_lt e.1), if_neg hcj]
  have h2 := h1.put e.2.1 key.1 (by rw [hg]; exact key.2.2.2.1) key.2.2.2.2
  refine h2.weak fun k i e3 hd => ?_
  rcases hd with hd | ⟨rfl, rfl⟩ | ⟨rfl, rfl⟩
  · exact .inl (.inl hd)
  · exact .inl (.inr ⟨rfl, by omega⟩)
  · exact .inr ⟨rfl, by omega⟩
end

/-- Which neighbours there are. -/
theorem E4_cases {r : Reg} (hv : r.valid = true) {c j : Nat} (e : E4 r c j) :
    (j = c + 1) ∨ ((j : Int) = c + r.wide) ∨ (j + 1 = c ∧ 0 < (c : Int) % r.wide) ∨ ((j : Int) + r.wide = c) := by
  obtain ⟨_, _, way, w1, w4, hs⟩ := e
  have hw : way = 1 ∨ way = 2 ∨ way = 3 ∨ way = 4 := by omega
  unfold stepI at hs
  rcases hw with rfl | rfl | rfl | rfl
  · simp at hs; split at hs <;> omega
  · simp at hs; split at hs <;> omega
  · simp at hs; split at hs <;> omega
  · simp at hs; split at hs <;> omega
theorem E4_left {r : Reg} {c j : Nat} (hj : j + 1 = c) (hm : 0 < (c : Int) % r.wide) (h1 : r.f c = true) (h2 : r.f j = true) : E4 r c j :=
  ⟨h1, h2, 3, by omega, by omega, by simp [stepI, hm]; omega⟩
theorem E4_south {r : Reg} (hv : r.valid = true) {c j : Nat} (hj : (j : Int) + r.wide = c) (h1 : r.f c = true) (h2 : r.f j = true) : E4 r c j := by
  obtain ⟨v1, v2, v3, _⟩ := Reg.valid_iff.1 hv
  have : 0 < (c : Int) / r.wide := by
    have h3 : r.wide * 1 ≤ (c : Int) := by omega
    have := Int.le_ediv_of_mul_le (c := r.wide) (a := 1) (b := (c : Int)) (by omega) (by omega)
    omega
  exact ⟨h1, h2, 4, by omega, by omega, by simp [stepI, this]; omega⟩

/-- Done: all edges before c; then the one to the west, too. -/
def DB (c : Nat) (k j : Nat) : Prop := k < c ∧ j < c
def DL (r : Reg) (c : Nat) (k j : Nat) : Prop := (k < c ∧ j < c) ∨ (0 < (c : Int) % r.wide ∧ ((k = c ∧ j + 1 = c) ∨ (k + 1 = c ∧ j = c)))
section
variable {r : Reg} {P L : List Int} {c : Nat}
theorem PJ.west (h : PJ r P L (DB c)) (hv : r.valid = true) {j : Nat} (hj : j + 1 = c) (hm : 0 < (c : Int) % r.wide) (h1 : r.f c = true) (h2 : r.f j = true) {x : Int} (hx : x = L.getD c 0 ∧ L.getD c 0 ≤ L.getD j 0 ∨ x = L.getD j 0 ∧ L.getD j 0 ≤ L.getD c 0) :
    PJ r P ((L.set c x).set j x) (DL r c) :=
  (h.pair hv (E4_left hj hm h1 h2) (by omega) hx).weak fun k i _ hd => by
    rcases hd with hd | ⟨_, ⟨rfl, hi⟩ | ⟨hi, rfl⟩⟩
    · exact .inl hd
    · exact .inr (.inl ⟨rfl, by omega⟩)
    · exact .inr (.inr ⟨by omega, rfl⟩)
theorem PJ.noWest (h : PJ r P L (DB c)) (hv : r.valid = true) (hn : ∀ j, j + 1 = c → 0 < (c : Int) % r.wide → r.f c = true → r.f j = true → False) : PJ r P L (DL r c) :=
  h.weak fun k i e hd => by
    rcases hd with hd | ⟨hm, ⟨rfl, hi⟩ | ⟨hi, rfl⟩⟩
    · exact hd
    · exact (hn i hi hm e.1 e.2.1).elim
    · exact (hn k hi hm e.2.1 e.1).elim
theorem dl_all (hv : r.valid = true) {k i : Nat} (e : E4 r k i) (hd : k < c + 1 ∧ i < c + 1) : DL r c k i ∨ (k = c ∧ (i : Int) + r.wide = c) ∨ (i = c ∧ (k : Int) + r.wide = c) := by
  obtain ⟨v1, _⟩ := Reg.valid_iff.1 hv
  by_cases hk : k < c
  · by_cases hi : i < c
    · exact .inl (.inl ⟨hk, hi⟩)
    · have : i = c := by omega
      subst this
      rcases E4_cases hv (e.symm hv) with h1 | h1 | h1 | h1
      · omega
      · omega
      · exact .inl (.inr ⟨h1.2, .inr ⟨h1.1, rfl⟩⟩)
      · exact .inr (.inr ⟨rfl, h1⟩)
  · have : k = c := by omega
    subst this
    rcases E4_cases hv e with h1 | h1 | h1 | h1
    · omega
    · omega
    · exact .inl (.inr ⟨h1.2, .inl ⟨rfl, h1.1⟩⟩)
    · exact .inr (.inl ⟨rfl, h1⟩)
theorem PJ.south (h : PJ r P L (DL r c)) (hv : r.valid = true) {j : Nat} (hj : (j : Int) + r.wide = c) (h1 : r.f c = true) (h2 : r.f j = true) {x : Int} (hx : x = L.getD c 0 ∧ L.getD c 0 ≤ L.getD j 0 ∨ x = L.getD j 0 ∧ L.getD j 0 ≤ L.getD c 0) :
    PJ r P ((L.set c x).set j x) (DB (c + 1)) := by
  obtain ⟨v1, _⟩ := Reg.valid_iff.1 hv
  exact (h.pair hv (E4_south hv hj h1 h2) (by omega) hx).weak fun k i e hd => by
    rcases dl_all hv e hd with hd | ⟨rfl, hi⟩ | ⟨rfl, hi⟩
    · exact .inl hd
    · exact .inr (.inl ⟨rfl, by omega⟩)
    · exact .inr (.inr ⟨by omega, rfl⟩)
theorem PJ.noSouth (h : PJ r P L (DL r c)) (hv : r.valid = true) (hn : ∀ j : Nat, (j : Int) + r.wide = c → r.f c = true → r.f j = true → False) : PJ r P L (DB (c + 1)) :=
  h.weak fun k i e hd => by
    rcases dl_all hv e hd with hd | ⟨rfl, hi⟩ | ⟨rfl, hi⟩
    · exact hd
    · exact (hn i hi e.1 e.2.1).elim
    · exact (hn k hi e.2.1 e.1).elim
end

/-! ### how many parts -/
noncomputable def partCount (r : Reg) : Nat := num r.cells.length (fun k => r.f k = true ∧ least (E4 r) k = k)
noncomputable def Reg.pmany (r : Reg) : Int := if r.valid then (partCount r : Int) else -1
theorem rep_iff {r : Reg} {k : Nat} : partN r k = (k : Int) ↔ r.f k = true ∧ least (E4 r) k = k := by
  cases hf : r.f k
  · rw [partN_no hf]; constructor
    · intro h; omega
    · intro h; cases h.1
  · rw [partN_yes hf]; constructor
    · intro h; exact ⟨rfl, by omega⟩
    · intro h; rw [h.2]
noncomputable def pmTo (r : Reg) (n : Nat) : Int := (num n (fun k => r.f k = true ∧ least (E4 r) k = k) : Int)
theorem pmTo_succ (r : Reg) (n : Nat) : pmTo r (n + 1) = pmTo r n + (if partN r n = (n : Int) then 1 else 0) := by
  unfold pmTo
  rw [num_succ]
  by_cases h : r.f n = true ∧ least (E4 r) n = n
  · rw [if_pos h, if_pos (rep_iff.2 h)]; simp
  · rw [if_neg h, if_neg (fun e => h (rep_iff.1 e))]; simp
theorem pmTo_bd (r : Reg) (n : Nat) : 0 ≤ pmTo r n ∧ pmTo r n ≤ n := by
  have := num_le n (fun k => r.f k = true ∧ least (E4 r) k = k)
  unfold pmTo; omega

/-- The law of PartsOf. -/
theorem partN_bd (r : Reg) (k : Nat) : -1 ≤ partN r k ∧ partN r k ≤ k := by
  cases hf : r.f k
  · rw [partN_no hf]; omega
  · rw [partN_yes hf]; have := least_self (E := E4 r) k; omega
theorem partN_sign (r : Reg) (k : Nat) : decide (0 ≤ partN r k) = r.f k := by
  cases hf : r.f k
  · rw [partN_no hf]; rfl
  · rw [partN_yes hf]; simp
theorem partN_part {r : Reg} (hv : r.valid = true) {k : Nat} (h : r.f k = true) : ∃ m : Nat, partN r k = (m : Int) ∧ m < r.cells.length ∧ partN r m = (m : Int) := by
  refine ⟨least (E4 r) k, partN_yes h, ?_, ?_⟩
  · have := least_self (E := E4 r) k; have := f_lt h; omega
  · refine rep_iff.2 ⟨?_, least_idem (fun _ _ e => e.symm hv) k⟩
    refine (least_conn (E4 r) k).stays (Q := fun j => r.f j = true) (fun a b e _ => e.2.1) h
theorem partN_near {r : Reg} (hv : r.valid = true) {k j : Nat} (e : E4 r k j) : partN r k = partN r j := by
  rw [partN_yes e.1, partN_yes e.2.1, least_eq (fun _ _ e => e.symm hv) (Conn.one e)]

end Domi

/- Parts of turned and of mirrored fields: as many as before. Plain. -/
set_option linter.unusedVariables false
namespace Domi
open Go Go.RowKit

section
variable {n m : Nat} {E F : Nat → Nat → Prop} {P Q : Nat → Prop} {f g : Nat → Nat}
theorem carry_le (sE : ∀ a b, E a b → E b a) (sF : ∀ a b, F a b → F b a) (hQ : ∀ a, Q a → a < m)
    (hf : ∀ a, P a → Q (f a) ∧ g (f a) = a)
    (hF : ∀ a b, F a b → Q a ∧ Q b ∧ E (g a) (g b)) : num n (fun k => P k ∧ least E k = k) ≤ num m (fun k => Q k ∧ least F k = k) := by
  have hc : ∀ a b, Conn F a b → Conn E (g a) (g b) := fun a b h => by
    induction h with
    | refl => exact .refl _
    | step _ e ih => exact .step ih (hF _ _ e).2.2
  have hq : ∀ a b, Conn F a b → Q a → Q b := fun a b h ha => h.stays (Q := Q) (fun _ _ e _ => (hF _ _ e).2.1) ha
  refine num_inj (fun k => least F (f k)) (fun k hk hp => ?_) (fun k j hk hj hp hp' e => ?_)
  · have h1 := hq _ _ (least_conn F (f k)) (hf k hp.1).1
    exact ⟨hQ _ h1, h1, least_idem sF _⟩
  · have h1 := hc _ _ ((conn_iff sF).2 e)
    rw [(hf k hp.1).2, (hf j hp'.1).2] at h1
    rw [← hp.2, ← hp'.2]; exact least_eq sE h1
theorem num_carry (sE : ∀ a b, E a b → E b a) (sF : ∀ a b, F a b → F b a) (hP : ∀ a, P a → a < n) (hQ : ∀ a, Q a → a < m)
    (hf : ∀ a, P a → Q (f a) ∧ g (f a) = a) (hg : ∀ b, Q b → P (g b) ∧ f (g b) = b)
    (hE : ∀ a b, E a b → P a ∧ P b ∧ F (f a) (f b)) (hF : ∀ a b, F a b → Q a ∧ Q b ∧ E (g a) (g b)) : num n (fun k => P k ∧ least E k = k) = num m (fun k => Q k ∧ least F k = k) :=
  Nat.le_antisymm (carry_le sE sF hQ hf hF) (carry_le sF sE hP hg hE)
theorem num_single (sE : ∀ a b, E a b → E b a) (hn : 0 < n) (h0 : P 0) (hd : ∀ k, P k → k ≠ 0 → ∃ j, j < k ∧ P j ∧ E k j) : num n (fun k => P k ∧ least E k = k) = 1 := by
  have hc : ∀ k, P k → Conn E k 0 := by
    intro k
    induction k using Nat.strongRecOn with
    | _ k ih =>
      intro hk
      by_cases e : k = 0
      · subst e; exact .refl _
      · obtain ⟨j, hj, hp, he⟩ := hd k hk e
        exact (Conn.one he).trans (ih j hj hp)
  rw [num_congr (R := fun k => k = 0) fun k _ => ⟨fun h => by have := least_le (hc k h.1); omega, fun h => by subst h; exact ⟨h0, Nat.le_zero.1 (least_self 0)⟩⟩]
  exact num_one hn
end

/-- The places of a field of W columns and T rows where p says yes. -/
def GP (W T : Int) (p : Int → Int → Bool) (k : Nat) : Prop := (k : Int) < W * T ∧ p ((k : Int) % W) ((k : Int) / W) = true
def GE (W T : Int) (p : Int → Int → Bool) (A : Int → Int → Prop) (a b : Nat) : Prop := GP W T p a ∧ GP W T p b ∧ A ((b : Int) % W - (a : Int) % W) ((b : Int) / W - (a : Int) / W)
theorem GE.symm {W T : Int} {p : Int → Int → Bool} {A : Int → Int → Prop} (hA : ∀ x y, A x y → A (-x) (-y)) {a b : Nat} (h : GE W T p A a b) : GE W T p A b a :=
  ⟨h.2.1, h.1, by have := hA _ _ h.2.2; rwa [Int.neg_sub, Int.neg_sub] at this⟩
/-- How many parts such a field has. -/
noncomputable def gparts (W T : Int) (p : Int → Int → Bool) (A : Int → Int → Prop) : Nat := num (W * T).toNat (fun k => GP W T p k ∧ least (GE W T p A) k = k)

theorem grid_xy {W T : Int} (hW : 1 ≤ W) {k : Nat} (h : (k : Int) < W * T) : (0 ≤ (k : Int) % W ∧ (k : Int) % W < W) ∧ (0 ≤ (k : Int) / W ∧ (k : Int) / W < T) ∧ (k : Int) / W * W + (k : Int) % W = k := by
  have := div_lt_of hW h
  exact ⟨⟨Int.emod_nonneg _ (by omega), Int.emod_lt_of_pos _ (by omega)⟩, ⟨Int.ediv_nonneg (by omega) (by omega), by omega⟩, of_xy (by omega)⟩
theorem grid_of {W T x y : Int} (hx : 0 ≤ x ∧ x < W) (hy : 0 ≤ y ∧ y < T) : (((y * W + x).toNat : Nat) : Int) < W * T ∧ (((y * W + x).toNat : Nat) : Int) % W = x ∧ (((y * W + x).toNat : Nat) : Int) / W = y := by
  have h1 := xy_lt (w := W) (t := T) hx.1 hx.2 hy.1 hy.2
  have h2 := xy_of (w := W) (y := y) hx.1 hx.2
  rw [Int.toNat_of_nonneg h1.1]
  exact ⟨h1.2, h2⟩

theorem grid_turn {W T : Int} (hW : 1 ≤ W) (hT : 1 ≤ T) {p q : Int → Int → Bool} {A : Int → Int → Prop} (hA : ∀ x y, A x y → A (-y) x)
    (hq : ∀ x y, 0 ≤ x → x < W → 0 ≤ y → y < T → q (T - 1 - y) x = p x y) : gparts W T p A = gparts T W q A := by
  have hN : ∀ x y, A x y → A (-x) (-y) := fun x y h => hA _ _ (hA _ _ h)
  have hA' : ∀ x y, A x y → A y (-x) := fun x y h => by
    have := hN _ _ (hA _ _ h); simpa using this
  have key : ∀ a, GP W T p a → GP T W q ((a : Int) % W * T + (T - 1 - (a : Int) / W)).toNat ∧ ((((a : Int) % W * T + (T - 1 - (a : Int) / W)).toNat : Int) % T = T - 1 - (a : Int) / W ∧ (((a : Int) % W * T + (T - 1 - (a : Int) / W)).toNat : Int) / T = (a : Int) % W) := by
    intro a ha
    obtain ⟨hx, hy, hxy⟩ := grid_xy hW ha.1
    have h := grid_of (W := T) (T := W) (x := T - 1 - (a : Int) / W) (y := (a : Int) % W) (by omega) hx
    exact ⟨⟨h.1, by rw [h.2.1, h.2.2, hq _ _ hx.1 hx.2 hy.1 hy.2]; exact ha.2⟩, h.2⟩
  have yek : ∀ b, GP T W q b → GP W T p ((T - 1 - (b : Int) % T) * W + (b : Int) / T).toNat ∧ ((((T - 1 - (b : Int) % T) * W + (b : Int) / T).toNat : Int) % W = (b : Int) / T ∧ (((T - 1 - (b : Int) % T) * W + (b : Int) / T).toNat : Int) / W = T - 1 - (b : Int) % T) := by
    intro b hb
    obtain ⟨hx, hy, hxy⟩ := grid_xy hT hb.1
    have h := grid_of (W := W) (T := T) (x := (b : Int) / T) (y := T - 1 - (b : Int) % T) hy (by omega)
    refine ⟨⟨h.1, ?_⟩, h.2⟩
    rw [h.2.1, h.2.2, ← hq _ _ hy.1 hy.2 (by omega) (by omega), show T - 1 - (T - 1 - (b : Int) % T) = (b : Int) % T by omega]
    exact hb.2
  refine num_carry (f := fun a => ((a : Int) % W * T + (T - 1 - (a : Int) / W)).toNat) (g := fun b => ((T - 1 - (b : Int) % T) * W + (b : Int) / T).toNat) (fun _ _ h => h.symm hN) (fun _ _ h => h.symm hN) (fun a h => by have := h.1; omega) (fun a h => by have := h.1; omega) ?_ ?_ ?_ ?_
  · intro a ha
    obtain ⟨k1, k2, k3⟩ := key a ha
    refine ⟨k1, ?_⟩
    simp only [k2, k3]
    have := (grid_xy hW ha.1).2.2
    rw [show T - 1 - (T - 1 - (a : Int) / W) = (a : Int) / W by omega]; omega
  · intro b hb
    obtain ⟨k1, k2, k3⟩ := yek b hb
    refine ⟨k1, ?_⟩
    simp only [k2, k3]
    have := (grid_xy hT hb.1).2.2
    rw [show T - 1 - (T - 1 - (b : Int) % T) = (b : Int) % T by omega]; omega
  · intro a b h
    obtain ⟨k1, k2, k3⟩ := key a h.1
    obtain ⟨j1, j2, j3⟩ := key b h.2.1
    refine ⟨h.1, h.2.1, k1, j1, ?_⟩
    rw [k2, k3, j2, j3]
    have := hA _ _ h.2.2
    rwa [show T - 1 - (b : Int) / W - (T - 1 - (a : Int) / W) = -((b : Int) / W - (a : Int) / W) by omega]
  · intro a b h
    obtain ⟨k1, k2, k3⟩ := yek a h.1
    obtain ⟨j1, j2, j3⟩ := yek b h.2.1
    refine ⟨h.1, h.2.1, k1, j1, ?_⟩
    rw [k2, k3, j2, j3]
    have := hA' _ _ h.2.2
    rwa [show T - 1 - (b : Int) % T - (T - 1 - (a : Int) % T) = -((b : Int) % T - (a : Int) % T) by omega]

theorem grid_flip {W T : Int} (hW : 1 ≤ W) {p q : Int → Int → Bool} {A : Int → Int → Prop} (hA : ∀ x y, A x y → A (-x) y) (hN : ∀ x y, A x y → A (-x) (-y))
    (hq : ∀ x y, 0 ≤ x → x < W → 0 ≤ y → y < T → q (W - 1 - x) y = p x y) : gparts W T p A = gparts W T q A := by
  have key : ∀ (p q : Int → Int → Bool), (∀ x y, 0 ≤ x → x < W → 0 ≤ y → y < T → q (W - 1 - x) y = p x y) → ∀ a, GP W T p a → GP W T q ((a : Int) / W * W + (W - 1 - (a : Int) % W)).toNat ∧ ((((a : Int) / W * W + (W - 1 - (a : Int) % W)).toNat : Int) % W = W - 1 - (a : Int) % W ∧ (((a : Int) / W * W + (W - 1 - (a : Int) % W)).toNat : Int) / W = (a : Int) / W) := by
    intro p q hq a ha
    obtain ⟨hx, hy, hxy⟩ := grid_xy hW ha.1
    have h := grid_of (W := W) (T := T) (x := W - 1 - (a : Int) % W) (y := (a : Int) / W) (by omega) hy
    exact ⟨⟨h.1, by rw [h.2.1, h.2.2, hq _ _ hx.1 hx.2 hy.1 hy.2]; exact ha.2⟩, h.2⟩
  have hp : ∀ x y, 0 ≤ x → x < W → 0 ≤ y → y < T → p (W - 1 - x) y = q x y := fun x y h1 h2 h3 h4 => by
    rw [← hq (W - 1 - x) y (by omega) (by omega) h3 h4, show W - 1 - (W - 1 - x) = x by omega]
  have step : ∀ (p q : Int → Int → Bool), (∀ x y, 0 ≤ x → x < W → 0 ≤ y → y < T → q (W - 1 - x) y = p x y) → ∀ a b, GE W T p A a b → GP W T p a ∧ GP W T p b ∧ GE W T q A ((a : Int) / W * W + (W - 1 - (a : Int) % W)).toNat ((b : Int) / W * W + (W - 1 - (b : Int) % W)).toNat := by
    intro p q hq a b h
    obtain ⟨k1, k2, k3⟩ := key p q hq a h.1
    obtain ⟨j1, j2, j3⟩ := key p q hq b h.2.1
    refine ⟨h.1, h.2.1, k1, j1, ?_⟩
    rw [k2, k3, j2, j3]
    have := hA _ _ h.2.2
    rwa [show W - 1 - (b : Int) % W - (W - 1 - (a : Int) % W) = -((b : Int) % W - (a : Int) % W) by omega]
  have back : ∀ (p q : Int → Int → Bool), (∀ x y, 0 ≤ x → x < W → 0 ≤ y → y < T → q (W - 1 - x) y = p x y) → ∀ a, GP W T p a → GP W T q ((a : Int) / W * W + (W - 1 - (a : Int) % W)).toNat ∧ (((((a : Int) / W * W + (W - 1 - (a : Int) % W)).toNat : Nat) : Int) / W * W + (W - 1 - ((((a : Int) / W * W + (W - 1 - (a : Int) % W)).toNat : Nat) : Int) % W)).toNat = a := by
    intro p q hq a ha
    obtain ⟨k1, k2, k3⟩ := key p q hq a ha
    refine ⟨k1, ?_⟩
    rw [k2, k3]
    have := (grid_xy hW ha.1).2.2
    rw [show W - 1 - (W - 1 - (a : Int) % W) = (a : Int) % W by omega]; omega
  exact num_carry (f := fun a => ((a : Int) / W * W + (W - 1 - (a : Int) % W)).toNat) (g := fun a => ((a : Int) / W * W + (W - 1 - (a : Int) % W)).toNat) (fun _ _ h => h.symm hN) (fun _ _ h => h.symm hN) (fun a h => by have := h.1; omega) (fun a h => by have := h.1; omega)
    (back p q hq) (back q p hp) (step p q hq) (step q p hp)

/-! ### the two kinds of neighbours -/
def A4 (x y : Int) : Prop := (x = 1 ∧ y = 0) ∨ (x = 0 ∧ y = 1) ∨ (x = -1 ∧ y = 0) ∨ (x = 0 ∧ y = -1)
def A8 (x y : Int) : Prop := (-1 ≤ x ∧ x ≤ 1) ∧ (-1 ≤ y ∧ y ≤ 1)
def Reg.pf (r : Reg) (x y : Int) : Bool := r.at_ x y
def Reg.ph (r : Reg) (x y : Int) : Bool := !r.at_ (x - 1) (y - 1)

theorem gp_f {r : Reg} (hv : r.valid = true) (k : Nat) : GP r.wide r.tall r.pf k ↔ r.f k = true := by
  obtain ⟨v1, v2, v3, _⟩ := Reg.valid_iff.1 hv
  constructor
  · intro h
    have := h.2
    unfold Reg.pf at this
    rwa [at_here hv (by have := h.1; omega)] at this
  · intro h
    have hl := f_lt h
    exact ⟨by omega, by unfold Reg.pf; rw [at_here hv hl]; exact h⟩
theorem ge_f {r : Reg} (hv : r.valid = true) : GE r.wide r.tall r.pf A4 = E4 r := by
  obtain ⟨v1, v2, v3, _⟩ := Reg.valid_iff.1 hv
  funext a b
  refine propext ⟨fun h => ?_, fun h => ?_⟩
  · refine ⟨(gp_f hv a).1 h.1, (gp_f hv b).1 h.2.1, ?_⟩
    obtain ⟨ax, ay, axy⟩ := grid_xy (by omega) h.1.1
    obtain ⟨bx, bY, bxy⟩ := grid_xy (by omega) h.2.1.1
    have hs := fun way h1 h4 => stepI_xy (r := r) (c := (a : Int)) (way := way) (by omega) (by omega) h.1.1 h1 h4
    rcases h.2.2 with ⟨e1, e2⟩ | ⟨e1, e2⟩ | ⟨e1, e2⟩ | ⟨e1, e2⟩
    · refine ⟨1, by omega, by omega, ?_⟩
      rw [hs 1 (by omega) (by omega), if_pos (by simp [dX, dY, inB]; omega), show (a : Int) / r.wide + dY 1 = (b : Int) / r.wide by simp [dY]; omega, show (a : Int) % r.wide + dX 1 = (b : Int) % r.wide by simp [dX]; omega]; omega
    · refine ⟨2, by omega, by omega, ?_⟩
      rw [hs 2 (by omega) (by omega), if_pos (by simp [dX, dY, inB]; omega), show (a : Int) / r.wide + dY 2 = (b : Int) / r.wide by simp [dY]; omega, show (a : Int) % r.wide + dX 2 = (b : Int) % r.wide by simp [dX]; omega]; omega
    · refine ⟨3, by omega, by omega, ?_⟩
      rw [hs 3 (by omega) (by omega), if_pos (by simp [dX, dY, inB]; omega), show (a : Int) / r.wide + dY 3 = (b : Int) / r.wide by simp [dY]; omega, show (a : Int) % r.wide + dX 3 = (b : Int) % r.wide by simp [dX]; omega]; omega
    · refine ⟨4, by omega, by omega, ?_⟩
      rw [hs 4 (by omega) (by omega), if_pos (by simp [dX, dY, inB]; omega), show (a : Int) / r.wide + dY 4 = (b : Int) / r.wide by simp [dY]; omega, show (a : Int) % r.wide + dX 4 = (b : Int) % r.wide by simp [dX]; omega]; omega
  · obtain ⟨h1, h2, way, w1, w4, hs⟩ := h
    have ha := f_lt h1
    rw [stepI_xy (r := r) (c := (a : Int)) (way := way) (by omega) (by omega) (by omega) w1 w4] at hs
    obtain ⟨ax, ay, axy⟩ := grid_xy (W := r.wide) (T := r.tall) (by omega) (k := a) (by omega)
    split at hs
    · rename_i hin
      simp only [Bool.and_eq_true, inB_iff] at hin
      have hb := xy_of (w := r.wide) (x := (a : Int) % r.wide + dX way) (y := (a : Int) / r.wide + dY way) (by omega) (by omega)
      rw [hs] at hb
      refine ⟨(gp_f hv a).2 h1, (gp_f hv b).2 h2, ?_⟩
      rw [hb.1, hb.2]
      have hw : way = 1 ∨ way = 2 ∨ way = 3 ∨ way = 4 := by omega
      rcases hw with rfl | rfl | rfl | rfl <;> simp [dX, dY, A4] <;> omega
    · omega
theorem parts_g {r : Reg} (hv : r.valid = true) : partCount r = gparts r.wide r.tall r.pf A4 := by
  obtain ⟨v1, v2, v3, _⟩ := Reg.valid_iff.1 hv
  unfold partCount gparts
  rw [ge_f hv, show (r.wide * r.tall).toNat = r.cells.length by omega]
  exact num_congr fun k _ => by rw [gp_f hv]
theorem gp_h {r : Reg} (hv : r.valid = true) (k : Nat) : GP (r.wide + 2) (r.tall + 2) r.ph k ↔ r.fr k = true := by
  obtain ⟨v1, v2, v3, _⟩ := Reg.valid_iff.1 hv
  have := n2_int (r := r) (by omega) (by omega)
  unfold GP Reg.ph Reg.fr
  rw [Bool.and_eq_true, decide_eq_true_eq]
  exact and_congr (by omega) Iff.rfl
theorem ge_h {r : Reg} (hv : r.valid = true) : GE (r.wide + 2) (r.tall + 2) r.ph A8 = E8 r := by
  funext a b
  unfold GE E8 A8
  rw [gp_h hv, gp_h hv]
  exact propext ⟨fun h => ⟨h.1, h.2.1, by omega⟩, fun h => ⟨h.1, h.2.1, by omega⟩⟩
theorem holes_g {r : Reg} (hv : r.valid = true) : rootsN (E8 r) r.fr r.n2 = gparts (r.wide + 2) (r.tall + 2) r.ph A8 := by
  unfold rootsN gparts Reg.n2
  rw [ge_h hv]
  exact num_congr fun k _ => by rw [gp_h hv]

theorem turn_at {r : Reg} (hv : r.valid = true) (x y : Int) : r.turn.at_ (r.tall - 1 - y) x = r.at_ x y := by
  obtain ⟨v1, v2, v3, _⟩ := Reg.valid_iff.1 hv
  unfold Reg.at_
  show (inB (r.tall - 1 - y) 0 (r.tall - 1) && inB x 0 (r.wide - 1) && r.turn.g (r.tall - 1 - y) x) = _
  rw [show inB (r.tall - 1 - y) 0 (r.tall - 1) = inB y 0 (r.tall - 1) by unfold inB; rw [Bool.eq_iff_iff]; simp only [Bool.and_eq_true, decide_eq_true_eq]; omega, Bool.and_comm (inB y 0 _)]
  cases hx : inB x 0 (r.wide - 1)
  · rfl
  · cases hy : inB y 0 (r.tall - 1)
    · rfl
    · rw [inB_iff] at hx hy
      simp only [Bool.true_and]
      rw [turn_g v3 (by omega) (by omega) hx.1 (by omega), show r.tall - 1 - (r.tall - 1 - y) = y by omega]
theorem mir_at {r : Reg} (hv : r.valid = true) (x y : Int) : r.mir.at_ (r.wide - 1 - x) y = r.at_ x y := by
  obtain ⟨v1, v2, v3, _⟩ := Reg.valid_iff.1 hv
  unfold Reg.at_
  show (inB (r.wide - 1 - x) 0 (r.wide - 1) && inB y 0 (r.tall - 1) && r.mir.g (r.wide - 1 - x) y) = _
  rw [show inB (r.wide - 1 - x) 0 (r.wide - 1) = inB x 0 (r.wide - 1) by unfold inB; rw [Bool.eq_iff_iff]; simp only [Bool.and_eq_true, decide_eq_true_eq]; omega]
  cases hx : inB x 0 (r.wide - 1)
  · rfl
  · cases hy : inB y 0 (r.tall - 1)
    · rfl
    · rw [inB_iff] at hx hy
      simp only [Bool.true_and]
      rw [mir_g v3 (by omega) (by omega) hy.1 (by omega), show r.wide - 1 - (r.wide - 1 - x) = x by omega]
theorem a4_turn (x y : Int) (h : A4 x y) : A4 (-y) x := by unfold A4 at *; omega
theorem a8_turn (x y : Int) (h : A8 x y) : A8 (-y) x := by unfold A8 at *; omega
theorem a4_flip (x y : Int) (h : A4 x y) : A4 (-x) y := by unfold A4 at *; omega
theorem a8_flip (x y : Int) (h : A8 x y) : A8 (-x) y := by unfold A8 at *; omega

theorem turn_parts {r : Reg} (hv : r.valid = true) : partCount r.turn = partCount r := by
  obtain ⟨v1, v2, v3, _⟩ := Reg.valid_iff.1 hv
  rw [parts_g hv, parts_g (turn_valid hv)]
  exact (grid_turn (W := r.wide) (T := r.tall) (q := r.turn.pf) (by omega) (by omega) a4_turn fun x y _ _ _ _ => turn_at hv x y).symm
theorem mir_parts {r : Reg} (hv : r.valid = true) : partCount r.mir = partCount r := by
  obtain ⟨v1, v2, v3, _⟩ := Reg.valid_iff.1 hv
  rw [parts_g hv, parts_g (mir_valid hv)]
  exact (grid_flip (W := r.wide) (T := r.tall) (q := r.mir.pf) (by omega) a4_flip (fun x y h => a4_turn _ _ (a4_turn _ _ h)) fun x y _ _ _ _ => mir_at hv x y).symm
theorem turn_pmany {r : Reg} (hv : r.valid = true) : r.turn.pmany = r.pmany := by
  unfold Reg.pmany; rw [if_pos hv, if_pos (turn_valid hv), turn_parts hv]
theorem turn_holes {r : Reg} (hv : r.valid = true) : r.turn.holes = r.holes := by
  obtain ⟨v1, v2, v3, _⟩ := Reg.valid_iff.1 hv
  unfold Reg.holes
  rw [holes_g hv, holes_g (turn_valid hv)]
  have := (grid_turn (W := r.wide + 2) (T := r.tall + 2) (p := r.ph) (q := r.turn.ph) (by omega) (by omega) a8_turn fun x y _ _ _ _ => by
    show (!r.turn.at_ (r.tall + 2 - 1 - y - 1) (x - 1)) = !r.at_ (x - 1) (y - 1)
    rw [← turn_at hv (x - 1) (y - 1), show r.tall - 1 - (y - 1) = r.tall + 2 - 1 - y - 1 by omega]).symm
  rw [show gparts (r.turn.wide + 2) (r.turn.tall + 2) r.turn.ph A8 = gparts (r.tall + 2) (r.wide + 2) r.turn.ph A8 from rfl, this]
theorem mir_holes {r : Reg} (hv : r.valid = true) : r.mir.holes = r.holes := by
  obtain ⟨v1, v2, v3, _⟩ := Reg.valid_iff.1 hv
  unfold Reg.holes
  rw [holes_g hv, holes_g (mir_valid hv)]
  have := (grid_flip (W := r.wide + 2) (T := r.tall + 2) (p := r.ph) (q := r.mir.ph) (by omega) a8_flip (fun x y h => a8_turn _ _ (a8_turn _ _ h)) fun x y _ _ _ _ => by
    show (!r.mir.at_ (r.wide + 2 - 1 - x - 1) (y - 1)) = !r.at_ (x - 1) (y - 1)
    rw [← mir_at hv (x - 1) (y - 1), show r.wide - 1 - (x - 1) = r.wide + 2 - 1 - x - 1 by omega]).symm
  rw [show gparts (r.mir.wide + 2) (r.mir.tall + 2) r.mir.ph A8 = gparts (r.wide + 2) (r.tall + 2) r.mir.ph A8 from rfl, this]
end Domi

/- The region of all cells of a field: one part, no hole, its border. Plain. -/
set_option linter.unusedVariables false
namespace Domi
open Go Go.RowKit

def Reg.full_ (x y : Int) : Reg := ⟨x, y, List.replicate (x * y).toNat true⟩
theorem cnt_full (n : Nat) : cnt (List.replicate n true) = n := by simp [cnt]
theorem full_valid {x y : Int} (hx : 1 ≤ x ∧ x ≤ 6) (hy : 1 ≤ y ∧ y ≤ 6) (h : x * y ≤ 24) : (Reg.full_ x y).valid = true := by
  have := area_in hx hy
  refine Reg.valid_iff.2 ⟨hx, hy, ?_, ?_⟩
  · simp [Reg.full_]; omega
  · rw [show (Reg.full_ x y).cells = List.replicate (x * y).toNat true from rfl, cnt_full]; omega
theorem full_at {x y : Int} (hx : 1 ≤ x ∧ x ≤ 6) (hy : 1 ≤ y ∧ y ≤ 6) (a b : Int) : (Reg.full_ x y).at_ a b = (inB a 0 (x - 1) && inB b 0 (y - 1)) := by
  unfold Reg.at_
  show (inB a 0 (x - 1) && inB b 0 (y - 1) && _) = _
  cases ha : inB a 0 (x - 1)
  · rfl
  · cases hb : inB b 0 (y - 1)
    · rfl
    · rw [inB_iff] at ha hb
      have := xy_lt (w := x) (t := y) ha.1 (by omega) hb.1 (by omega)
      simp only [Bool.true_and, Reg.g, Reg.full_]
      rw [List.getD_eq_getElem?_getD, List.getElem?_replicate, if_pos (by omega)]; rfl

/-- From a place that is not the first one goes on to one before it. -/
theorem grid_single {W T : Int} (hW : 1 ≤ W) (hT : 1 ≤ T) {p : Int → Int → Bool} {A : Int → Int → Prop} (hA : ∀ x y, A x y → A (-x) (-y)) (h0 : p 0 0 = true)
    (hd : ∀ x y, 0 ≤ x → x < W → 0 ≤ y → y < T → ¬ (x = 0 ∧ y = 0) → p x y = true → ∃ a b, (0 ≤ a ∧ a < W) ∧ (0 ≤ b ∧ b < T) ∧ ((b = y ∧ a < x) ∨ (b + 1 = y ∧ a ≤ x)) ∧ p a b = true ∧ A (a - x) (b - y)) : gparts W T p A = 1 := by
  have hpos : 0 < W * T := Int.mul_pos (by omega) (by omega)
  refine num_single (fun _ _ h => h.symm hA) (by omega) ?_ ?_
  · refine ⟨by simpa using hpos, ?_⟩
    simpa using h0
  · intro k hk hne
    obtain ⟨hx, hy, hxy⟩ := grid_xy hW hk.1
    obtain ⟨a, b, ha, hb, hlt, hp, hA'⟩ := hd _ _ hx.1 hx.2 hy.1 hy.2 (by rintro ⟨e1, e2⟩; rw [e1, e2] at hxy; omega) hk.2
    have h := grid_of (W := W) (T := T) ha hb
    have hl := xy_lt (w := W) (t := T) ha.1 ha.2 hb.1 hb.2
    have hj : GP W T p (b * W + a).toNat := ⟨h.1, by rw [h.2.1, h.2.2]; exact hp⟩
    refine ⟨(b * W + a).toNat, ?_, hj, hk, hj, by rw [h.2.1, h.2.2]; exact hA'⟩
    rcases hlt with ⟨e, hl⟩ | ⟨e, hl⟩
    · rw [e] at h ⊢; omega
    · have : (k : Int) / W * W = b * W + W := by rw [← e, Int.add_mul]; omega
      omega

theorem full_parts {x y : Int} (hx : 1 ≤ x ∧ x ≤ 6) (hy : 1 ≤ y ∧ y ≤ 6) (h : x * y ≤ 24) : (Reg.full_ x y).pmany = 1 := by
  have hv := full_valid hx hy h
  unfold Reg.pmany
  rw [if_pos hv, parts_g hv, show gparts (Reg.full_ x y).wide (Reg.full_ x y).tall (Reg.full_ x y).pf A4 = 1 from ?_]; rfl
  refine grid_single hx.1 hy.1 (fun x y h => by unfold A4 at *; omega) ?_ ?_
  · show (Reg.full_ x y).at_ 0 0 = true
    rw [full_at hx hy]; simp [inB]; omega
  · intro a b a0 a1 b0 b1 hne _
    have hin : ∀ c d, 0 ≤ c → c < x → 0 ≤ d → d < y → (Reg.full_ x y).pf c d = true := fun c d c0 c1 d0 d1 => by
      show (Reg.full_ x y).at_ c d = true
      rw [full_at hx hy]; simp [inB]; omega
    have a1' : a < x := a1
    have b1' : b < y := b1
    by_cases e : a = 0
    · exact ⟨a, b - 1, ⟨a0, a1⟩, ⟨by omega, show b - 1 < y by omega⟩, .inr ⟨by omega, by omega⟩, hin _ _ a0 a1' (by omega) (by omega), .inr (.inr (.inr ⟨by omega, by omega⟩))⟩
    · exact ⟨a - 1, b, ⟨by omega, show a - 1 < x by omega⟩, ⟨b0, b1⟩, .inl ⟨rfl, by omega⟩, hin _ _ (by omega) (by omega) b0 b1', .inr (.inr (.inl ⟨by omega, by omega⟩))⟩
theorem full_holes {x y : Int} (hx : 1 ≤ x ∧ x ≤ 6) (hy : 1 ≤ y ∧ y ≤ 6) (h : x * y ≤ 24) : (Reg.full_ x y).holesR = 0 := by
  have hv := full_valid hx hy h
  rw [holesR_yes hv]
  unfold Reg.holes
  rw [holes_g hv, show gparts ((Reg.full_ x y).wide + 2) ((Reg.full_ x y).tall + 2) (Reg.full_ x y).ph A8 = 1 from ?_]; rfl
  have hin : ∀ c d, (Reg.full_ x y).ph c d = true ↔ ¬ (1 ≤ c ∧ c ≤ x ∧ 1 ≤ d ∧ d ≤ y) := fun c d => by
    show (!(Reg.full_ x y).at_ (c - 1) (d - 1)) = true ↔ _
    rw [full_at hx hy]; simp [inB]; omega
  refine grid_single (show 1 ≤ x + 2 by omega) (show 1 ≤ y + 2 by omega) (fun x y h => by unfold A8 at *; omega) ((hin _ _).2 (by omega)) ?_
  intro a b a0 a1 b0 b1 hne hp
  have a1' : a < x + 2 := a1
  have b1' : b < y + 2 := b1
  have hp' := (hin _ _).1 hp
  by_cases e1 : b = 0
  · exact ⟨a - 1, b, ⟨by omega, show a - 1 < x + 2 by omega⟩, ⟨b0, b1⟩, .inl ⟨rfl, by omega⟩, (hin _ _).2 (by omega), by unfold A8; omega⟩
  · by_cases e2 : a = 0 ∨ a = x + 1
    · exact ⟨a, b - 1, ⟨a0, a1⟩, ⟨by omega, show b - 1 < y + 2 by omega⟩, .inr ⟨by omega, by omega⟩, (hin _ _).2 (by omega), by unfold A8; omega⟩
    · exact ⟨a - 1, b, ⟨by omega, show a - 1 < x + 2 by omega⟩, ⟨b0, b1⟩, .inl ⟨rfl, by omega⟩, (hin _ _).2 (by omega), by unfold A8; omega⟩
theorem full_bord_all : ∀ a : Fin 7, ∀ b : Fin 7, 1 ≤ a.val → 1 ≤ b.val → a.val * b.val ≤ 24 → bordTo (Reg.full_ (a.val : Nat) (b.val : Nat)) (a.val * b.val) = 2 * ((a.val : Int) + (b.val : Int)) := by decide +kernel
theorem full_bord {x y : Int} (hx : 1 ≤ x ∧ x ≤ 6) (hy : 1 ≤ y ∧ y ≤ 6) (h : x * y ≤ 24) : (Reg.full_ x y).bord = 2 * (x + y) := by
  have hv := full_valid hx hy h
  unfold Reg.bord
  rw [if_pos hv]
  obtain ⟨a, rfl⟩ := Int.eq_ofNat_of_zero_le (show 0 ≤ x by omega)
  obtain ⟨b, rfl⟩ := Int.eq_ofNat_of_zero_le (show 0 ≤ y by omega)
  have hm : ((a * b : Nat) : Int) = (a : Int) * b := Int.natCast_mul a b
  have := full_bord_all ⟨a, by omega⟩ ⟨b, by omega⟩ (by simp; omega) (by simp; omega) (show a * b ≤ 24 by omega)
  rw [show (Reg.full_ (a : Int) (b : Int)).cells.length = a * b by simp [Reg.full_]; omega]
  exact this
theorem full_many {x y : Int} (hx : 1 ≤ x ∧ x ≤ 6) (hy : 1 ≤ y ∧ y ≤ 6) (h : x * y ≤ 24) : (Reg.full_ x y).many = x * y := by
  have := area_in hx hy
  rw [Reg.many_yes (full_valid hx hy h), show (Reg.full_ x y).cells = List.replicate (x * y).toNat true from rfl, cnt_full]; omega
end Domi

/- Appending a slice that may be empty, to a slice of the call's own that is not nil. No program is named here. -/
set_option linter.unusedVariables false
namespace Domi
open Go Go.RowKit

theorem addr_add (b off j : Nat) : (⟨b, off, none⟩ : Addr).add j = ⟨b, off + j, none⟩ := by unfold Addr.add; split <;> simp_all
section
variable {P : Program} {t e : TypeId} {bytes : Nat} {w : World} {ops : Array Oper} {o : Oper} {a : Act} {Q : Exit → Act → World → Prop}
theorem run_appM (E : ElemOk P t e bytes) (ty : TypeId) (B : Nat) (g n c : Nat) (xs : List Value) (hown : Own w B e (.slice (some ⟨g, 0, none⟩) n c) xs) (b off m c2 : Nat) (news : List Value) (hu : Sl w (.slice (some ⟨b, off, none⟩) m c2) news)
    (h1 : ∀ x ∈ news, x.oneCell' = true) (hl : (xs.length + m) * (bytes + 1) ≤ 140737488355328) (hB : B ≤ w.heap.size) :
    ∃ g' cap w', (Builtin.append_ #[t, t] ty #[.slice (some ⟨g, 0, none⟩) n c, .slice (some ⟨b, off, none⟩) m c2]).run P w = .ok (.slice (some ⟨g', 0, none⟩) (n + m) cap) w' ∧ AppN w B e (.slice (some ⟨g, 0, none⟩) n c) xs news g' cap w' := by
  obtain ⟨i, z, i1, i2, i3, i4, i5⟩ := E.info
  have hn : n = xs.length := by obtain ⟨_, _, _, hn, _⟩ := hown.block; exact hn
  obtain ⟨a0, cap0, he, q1, q2, q3⟩ := hu
  simp only [Value.slice.injEq] at he
  obtain ⟨rfl, rfl, rfl⟩ := he
  have hm : news.length = news.length * 1 := by omega
  have hcell : ∀ j u, news[j]? = some u → w.cell? ((⟨b, off, none⟩ : Addr).add j) = some u := by
    intro j u hj
    obtain ⟨hj', e⟩ := List.getElem?_eq_some_iff.1 hj
    rcases q3 with q3 | ⟨b', o', e2, _, hc⟩
    · rw [q3] at hj'; simp at hj'
    · cases e2
      rw [addr_add, hc j hj', e]
  rw [Nat.mul_add] at hl
  subst hn
  obtain ⟨v', w', hr, k2, k3, k4, k5⟩ := run_append_own_at (P := P) w B t ty e i z 1 bytes E.ht i1 i2 i3 i4 i5 (by omega) _ xs.length xs hown ⟨b, off, none⟩ news.length c2 news hm hcell h1 (by unfold maxLen; omega) (by omega) hB
  have hv : v' ≠ .slice none 0 0 := fun e => by have := k4.1 e; simp at this
  obtain ⟨g', cap, rfl, hlt⟩ : ∃ g' cap, v' = .slice (some ⟨g', 0, none⟩) (xs.length + news.length) cap ∧ g' < w'.heap.size := by
    rcases k2.2 with ⟨h, _⟩ | ⟨g', cap, cur, h, _, hg, _⟩
    · exact absurd h hv
    · exact ⟨g', cap, h, lt_of_heap hg⟩
  refine ⟨g', cap, w', hr, ⟨by simpa [Own] using k2, k3, ?_, hlt⟩⟩
  rcases k5 with k5 | k5
  · left; rw [← k5]; rfl
  · right; simpa [Value.ownBlock] using k5
theorem list_appM (E : ElemOk P t e bytes) (B : Nat) (g n c : Nat) (xs : List Value) (hown : Own w B e (.slice (some ⟨g, 0, none⟩) n c) xs) (b off m c2 : Nat) (news : List Value) (hu : Sl w (.slice (some ⟨b, off, none⟩) m c2) news) (s y : Operand)
    {rest : List Oper} (hgd : o.guard = none)
    (ho : o.op = .call { callee := .builtin .append, args := #[s, y], argTypes := #[t, t] }) (hs : a.eval s = .slice (some ⟨g, 0, none⟩) n c) (hx : a.eval y = .slice (some ⟨b, off, none⟩) m c2) (h1 : ∀ x ∈ news, x.oneCell' = true)
    (hl : (xs.length + m) * (bytes + 1) ≤ 140737488355328) (hB : B ≤ w.heap.size)
    (h : ∀ g' cap w', AppN w B e (.slice (some ⟨g, 0, none⟩) n c) xs news g' cap w' → wpList P ops Q rest (a.put o.dst (.slice (some ⟨g', 0, none⟩) (n + m) cap)) w') :
    wpList P ops Q (o :: rest) a w := by
  obtain ⟨g', cap, w', hr, hA⟩ := run_appM (P := P) E o.type B g n c xs hown b off m c2 news hu h1 hl hB
  refine wpList_plain hgd fun K hK => ?_
  unfold Oper.wp execOp
  simp only [ho, resolve, invoke, builtin, Sem.run_bind, Sem.run_pure, Result.andThen_ok, List.map_toArray, List.map_cons, List.map_nil, hs, hx, hr]
  exact hK _ _ (h g' cap w' hA)
end
end Domi

/- Which list comes first, as a truth: plain. -/
set_option linter.unusedVariables false
namespace Domi
noncomputable def befB (a b : List Int) : Bool := open Classical in decide (Bef a b)
theorem befB_yes {a b : List Int} (h : Bef a b) : befB a b = true := by simp [befB, h]
theorem befB_no {a b : List Int} (h : ¬ Bef a b) : befB a b = false := by simp [befB, h]
theorem bef_at {a b : List Int} {k : Nat} (h : ∀ j, j < k → a.getD j 0 = b.getD j 0) (hk : a.getD k 0 ≠ b.getD k 0) : befB a b = decide (a.getD k 0 < b.getD k 0) := by
  by_cases hlt : a.getD k 0 < b.getD k 0
  · rw [befB_yes ⟨k, h, hlt⟩, decide_eq_true hlt]
  · rw [decide_eq_false hlt]
    refine befB_no fun ⟨m, h1, h2⟩ => ?_
    rcases Nat.lt_trichotomy m k with hm | rfl | hm
    · have := h m hm; omega
    · exact hlt h2
    · exact hk (h1 k hm)
theorem bef_none {a b : List Int} (hl : a.length = b.length) (h : ∀ j, j < a.length → a.getD j 0 = b.getD j 0) : befB a b = false :=
  befB_no fun ⟨k, _, h2⟩ => by
    by_cases hk : k < a.length
    · have := h k hk; omega
    · rw [getD_far (L := a) (by omega), getD_far (L := b) (by omega)] at h2; omega
/-- Two tilings of a list of all. -/
theorem tils_pair {r : Reg} {k : Nat} (h1 : 0 < k) (h2 : k < (tilsR r).length) : Bef ((tilsR r).getD (k - 1) []) ((tilsR r).getD k []) := by
  have h := List.pairwise_iff_getElem.1 (tilsR_order r) (k - 1) k (by omega) h2 (by omega)
  simpa [List.getD_eq_getElem?_getD, h2, show k - 1 < (tilsR r).length by omega] using h
theorem tils_at {r : Reg} {k : Nat} (h : k < (tilsR r).length) : tilingOk r ((tilsR r).getD k []) = true := by
  have : (tilsR r).getD k [] ∈ tilsR r := by
    simp only [List.getD_eq_getElem?_getD, List.getElem?_eq_getElem h, Option.getD_some]
    exact List.getElem_mem h
  exact mem_tilsR'.1 this
end Domi

/- Tilings with a given domino: plain. -/
set_option linter.unusedVariables false
namespace Domi
open Go Go.RowKit

/-- How many tilings have the domino from c in a direction. -/
def withT (r : Reg) (c way : Int) : Int := if r.valid then (if free r (bareL r) c way then ((withL r (layL r (bareL r) c way) : Nat) : Int) else 0) else -1
theorem withT_no {r : Reg} {c way : Int} (h : r.valid = false) : withT r c way = -1 := by unfold withT; rw [h]; rfl
theorem withT_zero {r : Reg} {c way : Int} (h : r.valid = true) (hf : free r (bareL r) c way = false) : withT r c way = 0 := by unfold withT; rw [h, hf]; rfl
theorem withT_yes {r : Reg} {c way : Int} (h : r.valid = true) (hf : free r (bareL r) c way = true) : withT r c way = ((withL r (layL r (bareL r) c way) : Nat) : Int) := by unfold withT; rw [h, hf]; rfl
theorem bareL_len {r : Reg} (h : r.valid = true) : (bareL r).length = r.cells.length := by unfold bareL; rw [if_pos h]; simp
theorem bareL_get (r : Reg) (k : Nat) : (bareL r).getD k 0 = 0 := by
  unfold bareL; split
  · simp only [List.getD_eq_getElem?_getD, List.getElem?_replicate]; split <;> rfl
  · rfl
theorem getD_setW (l : List Bool) (i j : Nat) (v : Bool) : (l.set i v).getD j false = if i = j ∧ i < l.length then v else l.getD j false := by
  by_cases h : i < l.length
  · rw [getD_setB _ _ _ _ h]; simp [h]
  · rw [List.set_eq_of_length_le (by omega)]; simp [h]
/-- Only the cells that are left count. -/
theorem tilC_left {r s : Reg} (hw : r.wide = s.wide) (ht : r.tall = s.tall) : ∀ (n : Nat) (C C' : List Bool) (c : Nat), C.length = C'.length → (∀ k, (r.f k && !C.getD k false) = (s.f k && !C'.getD k false)) → tilC n r C c = tilC n s C' c := by
  have hst : ∀ (c way : Int), stepI r c way = stepI s c way := fun c way => by unfold stepI; rw [hw, ht]
  intro n
  induction n with
  | zero => intro C C' c _ _; rfl
  | succ n ih =>
    intro C C' c hl h
    have hsk : skipB r C c = skipB s C' c := by
      have := h c
      unfold skipB
      revert this
      cases r.f c <;> cases s.f c <;> cases C.getD c false <;> cases C'.getD c false <;> simp
    have hcan : ∀ way, canB r C c way = canB s C' c way := fun way => by
      unfold canB
      rw [hst, Bool.and_assoc, Bool.and_assoc, h]
    have hcov : ∀ way, tilC n r (cov r C c way) (c + 1) = tilC n s (cov s C' c way) (c + 1) := fun way => by
      refine ih _ _ _ (by rw [cov_len, cov_len, hl]) fun k => ?_
      unfold cov
      rw [getD_setW, getD_setW, getD_setW, getD_setW, List.length_set, List.length_set, hst, hl]
      by_cases h1 : (stepI s c way).toNat = k ∧ (stepI s c way).toNat < C'.length
      · rw [if_pos h1, if_pos h1]; simp
      · rw [if_neg h1, if_neg h1]
        by_cases h2 : c = k ∧ c < C'.length
        · rw [if_pos h2, if_pos h2]; simp
        · rw [if_neg h2, if_neg h2]; exact h k
    unfold tilC
    rw [hsk, hcan, hcan, hcov, hcov, ih C C' (c + 1) hl h]
/-- The region without two cells. -/
def Reg.less2 (r : Reg) (c t : Nat) : Reg := (r.setc c false).setc t false
theorem cnt_less (l : List Bool) (k : Nat) : cnt (l.set k false) ≤ cnt l := by
  by_cases h : k < l.length
  · have := cnt_put l k false h
    split at this <;> simp at this <;> omega
  · rw [List.set_eq_of_length_le (by omega)]; exact Int.le_refl _
theorem less2_valid {r : Reg} (h : r.valid = true) (c t : Nat) : (r.less2 c t).valid = true := by
  unfold Reg.valid at h ⊢
  simp only [Reg.less2, Reg.setc, Bool.and_eq_true, decide_eq_true_eq, List.length_set] at h ⊢
  have h1 := cnt_less (r.cells.set c false) t
  have h2 := cnt_less r.cells c
  exact ⟨⟨⟨h.1.1.1, h.1.1.2⟩, h.1.2⟩, by first | exact Int.le_trans h1 (Int.le_trans h2 h.2) | exact decide_eq_true (Int.le_trans h1 (Int.le_trans h2 h.2))⟩
theorem free_bare {r : Reg} (hv : r.valid = true) {c way : Int} (hf : free r (bareL r) c way = true) : ∃ k t : Nat, c = k ∧ FreeAt r (bareL r) k t way := by
  have h0 := (free_iff.1 hf).1
  obtain ⟨k, rfl⟩ := Int.eq_ofNat_of_zero_le h0.1
  obtain ⟨t, F⟩ := free_at (bare_laid hv) hf
  exact ⟨k, t, rfl, F⟩
theorem with_less {r : Reg} (hv : r.valid = true) {k t : Nat} {way : Int} (F : FreeAt r (bareL r) k t way) : (withL r (layL r (bareL r) k way) : Int) = manyT (r.less2 k t) := by
  have hv2 := less2_valid hv k t
  rw [← withL_bare hv2]
  congr 1
  unfold withL
  have hlen : (bareL (r.less2 k t)).length = (layL r (bareL r) k way).length := by
    rw [bareL_len hv2, layL_len, bareL_len hv]; simp [Reg.less2, Reg.setc]
  rw [hlen]
  refine tilC_left (by rfl) (by rfl) _ _ _ _ (by unfold covB; rw [List.length_map, List.length_map, hlen]) fun j => ?_
  rw [covB_get, covB_get, bareL_get, layL_get F, bareL_get]
  have hk : k < r.cells.length := by rw [← bareL_len hv]; exact F.hc
  have htl : t < r.cells.length := by rw [← bareL_len hv]; exact F.ht
  have hwy := F.hway
  have hb := (backI_way F.hway).1
  have hf2 : (r.less2 k t).f j = if t = j then false else if k = j then false else r.f j := by
    unfold Reg.less2 Reg.setc Reg.f
    show ((r.cells.set k false).set t false).getD j false = _
    rw [getD_setB _ _ _ _ (by rw [List.length_set]; exact htl), getD_setB _ _ _ _ hk]
  rw [hf2]
  by_cases h1 : t = j
  · rw [if_pos h1, if_pos h1, decide_eq_true (show backI way ≠ 0 by omega)]; simp
  · rw [if_neg h1, if_neg h1]
    by_cases h2 : k = j
    · rw [if_pos h2, if_pos h2, decide_eq_true (show way ≠ 0 by omega)]; simp
    · rw [if_neg h2, if_neg h2]
theorem with_le {r : Reg} (hv : r.valid = true) (c way : Int) : withT r c way ≤ manyT r := by
  cases hf : free r (bareL r) c way
  · rw [withT_zero hv hf, manyT_yes hv]; omega
  · rw [withT_yes hv hf, manyT_yes hv]
    obtain ⟨k, t, rfl, F⟩ := free_bare hv hf
    have hL := lay_ok (bare_laid hv) hf
    rw [withL_is hL (laid_open hL)]
    have := nodup_len ((tils_order r 40 _ hL (laid_open hL)).imp fun h => h.ne) (fun T hT => mem_tilsR'.2 ((mem_tils r 40 _ T hL (laid_open hL)).1 hT).1)
    omega
/-- From the other end it is the same. -/
theorem with_back {r : Reg} (hv : r.valid = true) {c way : Int} (hc : 0 ≤ c ∧ c < r.cells.length) (hs : 0 ≤ stepI r c way) : withT r (stepI r c way) (backI way) = withT r c way := by
  obtain ⟨k, rfl⟩ := Int.eq_ofNat_of_zero_le hc.1
  have hk : k < r.cells.length := by omega
  have hw := stepI_way hs
  have hhome := stepI_home hv hk hs
  have hbw := backI_way hw
  obtain ⟨t, ht⟩ := Int.eq_ofNat_of_zero_le hs
  have hv' := hv
  obtain ⟨v1, v2, v3, _⟩ := Reg.valid_iff.1 hv'
  have hin := stepI_in (r := r) (c := (k : Int)) (way := way) v1.1 (by omega) (by omega)
  have hfree : free r (bareL r) (stepI r k way) (backI way) = free r (bareL r) k way := by
    rw [Bool.eq_iff_iff, free_iff, free_iff, hhome]
    simp only [bareL_get]
    constructor
    · rintro ⟨h1, h2, h3, h4, _⟩; exact ⟨hc, hs, h4, h3, trivial, trivial⟩
    · rintro ⟨h1, h2, h3, h4, _⟩; exact ⟨by omega, by omega, h4, h3, trivial, trivial⟩
  unfold withT
  rw [hfree]
  cases hf : free r (bareL r) k way
  · rfl
  · simp only [hv, if_true]
    have hl : layL r (bareL r) (stepI r k way) (backI way) = layL r (bareL r) k way := by
      unfold layL
      rw [hhome, hbw.2, ht]
      refine List.set_comm _ _ fun e => ?_
      have := stepI_ne v1.1 hs
      omega
    rw [hl]
end Domi

/- The count along a frontier: plain. -/
set_option linter.unusedVariables false
namespace Domi

/-- The cells from c on that a set of bits covers. -/
def decC (len c s : Nat) : List Bool := (List.range len).map fun k => decide (c ≤ k) && s.testBit (k - c)
theorem decC_len (len c s : Nat) : (decC len c s).length = len := by simp [decC]
theorem decC_get (len c s k : Nat) : (decC len c s).getD k false = (decide (k < len) && (decide (c ≤ k) && s.testBit (k - c))) := by
  unfold decC
  simp only [List.getD_eq_getElem?_getD, List.getElem?_map]
  by_cases h : k < len
  · simp [h]
  · simp [h]
/-- In how many ways what is left is covered. -/
def frF (r : Reg) (c s : Nat) : Nat := tilC (r.cells.length - c) r (decC r.cells.length c s) c
def canF (r : Reg) (c s : Nat) (way : Int) (e : Nat) : Bool := decide (0 ≤ stepI r c way) && r.f (stepI r c way).toNat && decide (s / 2 ^ e % 2 = 0)
def optN (r : Reg) (c s : Nat) : List Nat :=
  if decide (s % 2 = 1) || !r.f c then [s / 2]
  else (if canF r c s 1 1 then [s / 2 + 1] else []) ++ (if canF r c s 2 r.wide.toNat then [s / 2 + 2 ^ (r.wide.toNat - 1)] else [])
theorem testBit_half (s j : Nat) : (s / 2).testBit j = s.testBit (j + 1) := by rw [Nat.testBit_succ]
theorem step1_is {r : Reg} {c : Nat} (hw : 1 ≤ r.wide) (h : 0 ≤ stepI r c 1) : stepI r c 1 = (c : Int) + 1 := by
  unfold stepI at h ⊢; simp only [if_true] at h ⊢
  split at h
  · next hl => rw [if_pos hl]
  · omega
theorem step2_is {r : Reg} {c : Nat} (hw : 1 ≤ r.wide) (h : 0 ≤ stepI r c 2) : stepI r c 2 = (c : Int) + r.wide := by
  have e2 : stepI r c 2 = if (c : Int) / r.wide < r.tall - 1 then c + r.wide else -1 := by unfold stepI; simp
  rw [e2] at h ⊢
  split at h
  · next hl => rw [if_pos hl]
  · omega
theorem add_bit {t b : Nat} (h : t / 2 ^ b % 2 = 0) (j : Nat) : (t + 2 ^ b).testBit j = (decide (j = b) || t.testBit j) := by
  have hb : t.testBit b = false := by rw [Nat.testBit_eq_decide_div_mod_eq]; simp [h]
  by_cases e : j = b
  · subst e
    rw [Nat.add_comm, Nat.testBit_two_pow_add_eq, hb]; simp
  · rw [decide_eq_false e, Bool.false_or]
    have h1 : t + 2 ^ b = t ||| 2 ^ b := by
      have := Nat.two_pow_add_eq_or_of_lt (i := b) (b := t % 2 ^ b) (Nat.mod_lt _ (Nat.two_pow_pos b)) (t / 2 ^ b + 1)
      have h2 : 2 ^ b * (t / 2 ^ b + 1) + t % 2 ^ b = t + 2 ^ b := by
        have := Nat.div_add_mod t (2 ^ b); rw [Nat.mul_add, Nat.mul_one]; omega
      apply Nat.eq_of_testBit_eq
      intro i
      rw [← h2, this, Nat.testBit_or, Nat.testBit_or, Nat.testBit_two_pow, Nat.testBit_mod_two_pow]
      by_cases hi : i < b
      · rw [show (2 ^ b * (t / 2 ^ b + 1)).testBit i = false from by rw [Nat.testBit_two_pow_mul]; simp; omega]
        simp [hi]; intro; omega
      · rw [Nat.testBit_two_pow_mul, decide_eq_false hi]
        simp only [Bool.false_and, Bool.or_false]
        rw [show decide (i ≥ b) = true from decide_eq_true (by omega), Bool.true_and]
        by_cases hib : i = b
        · subst hib
          rw [Nat.sub_self, Nat.testBit_zero]
          simp; omega
        · have hev : (t / 2 ^ b + 1).testBit (i - b) = (t / 2 ^ b).testBit (i - b) := by
            obtain ⟨m, hm⟩ : ∃ m, i - b = m + 1 := ⟨i - b - 1, by omega⟩
            rw [hm, Nat.testBit_succ, Nat.testBit_succ, show (t / 2 ^ b + 1) / 2 = t / 2 ^ b / 2 by omega]
          rw [hev, Nat.testBit_div_two_pow, show i - b + b = i by omega]
          rw [decide_eq_false (show ¬ b = i from fun e => hib e.symm), Bool.or_false]
    rw [h1, Nat.testBit_or, Nat.testBit_two_pow, decide_eq_false (show ¬ b = j from fun e' => e e'.symm), Bool.or_false]
/-- What covering from c does to the sets of bits. -/
theorem dec_skip {r : Reg} {c s : Nat} (hw : 1 ≤ r.wide) (n : Nat) : tilC n r (decC r.cells.length c s) (c + 1) = tilC n r (decC r.cells.length (c + 1) (s / 2)) (c + 1) :=
  tilC_same hw (by rw [decC_len, decC_len]) fun k hk => by
    rw [decC_get, decC_get, testBit_half, decide_eq_true (show c ≤ k by omega), decide_eq_true (show c + 1 ≤ k by omega), show k - (c + 1) + 1 = k - c by omega]
theorem dec_cov {r : Reg} {c s : Nat} (hw : 1 ≤ r.wide) (n : Nat) {way : Int} {b : Nat} (hb : stepI r c way = (c : Int) + 1 + b) (hlt : c + 1 + b < r.cells.length) (h0 : s / 2 / 2 ^ b % 2 = 0) :
    tilC n r (cov r (decC r.cells.length c s) c way) (c + 1) = tilC n r (decC r.cells.length (c + 1) (s / 2 + 2 ^ b)) (c + 1) :=
  tilC_same hw (by rw [cov_len, decC_len, decC_len]) fun k hk => by
    unfold cov
    have e : (stepI r c way).toNat = c + 1 + b := by omega
    rw [e, decC_get, add_bit h0, testBit_half]
    by_cases hk2 : c + 1 + b = k
    · subst hk2
      rw [getD_setB _ _ _ _ (by rw [List.length_set, decC_len]; exact hlt), if_pos rfl, decide_eq_true hlt, decide_eq_true hk, show c + 1 + b - (c + 1) = b by omega]; simp
    · rw [getD_setB' _ _ _ _ hk2, getD_setB' _ _ _ _ (by omega), decC_get, decide_eq_true (show c ≤ k by omega), decide_eq_true (show c + 1 ≤ k by omega), show k - (c + 1) + 1 = k - c by omega, decide_eq_false (show ¬ k - (c + 1) = b by omega)]
      simp
theorem can_is {r : Reg} {c s : Nat} {way : Int} {e : Nat} (hc : stepI r c way = (c : Int) + e ∨ stepI r c way < 0) : canF r c s way e = canB r (decC r.cells.length c s) c way := by
  unfold canF canB
  rcases hc with hc | hc
  · cases hf : r.f (stepI r c way).toNat
    · simp
    · have hl := f_lt hf
      rw [decC_get, decide_eq_true hl, show (stepI r c way).toNat = c + e by omega, decide_eq_true (show c ≤ c + e by omega), show c + e - c = e by omega, Nat.testBit_eq_decide_div_mod_eq]
      have : s / 2 ^ e % 2 = 0 ∨ s / 2 ^ e % 2 = 1 := by omega
      rcases this with h | h <;> simp [h]
  · rw [decide_eq_false (by omega)]; simp
theorem half_lt {s n : Nat} (h : s < 2 ^ (n + 1)) : s / 2 < 2 ^ n := by rw [Nat.pow_succ] at h; omega
theorem add_lt {t b n : Nat} (h0 : t / 2 ^ b % 2 = 0) (ht : t < 2 ^ n) (hb : b < n) : t + 2 ^ b < 2 ^ n :=
  Nat.lt_pow_two_of_testBit _ fun i hi => by
    rw [add_bit h0, decide_eq_false (by omega), Bool.false_or]
    exact Nat.testBit_lt_two_pow (Nat.lt_of_lt_of_le ht (Nat.pow_le_pow_right (by omega) hi))
def bdF (r : Reg) (c s : Nat) : Prop := s < 2 ^ r.wide.toNat ∧ s < 2 ^ (r.cells.length - c)
def sumL (F : Nat → Nat) (l : List Nat) : Nat := (l.map F).sum
theorem opt_ok {r : Reg} {c s : Nat} (hw : 1 ≤ r.wide) (hc : c < r.cells.length) (hb : bdF r c s) : frF r c s = sumL (frF r (c + 1)) (optN r c s) ∧ ∀ o ∈ optN r c s, bdF r (c + 1) o := by
  obtain ⟨hb1, hb2⟩ := hb
  have e : r.cells.length - c = (r.cells.length - (c + 1)) + 1 := by omega
  have hW : r.wide.toNat = (r.wide.toNat - 1) + 1 := by omega
  have hh2 : s / 2 < 2 ^ (r.cells.length - (c + 1)) := half_lt (by rw [← e]; exact hb2)
  have hh1 : s / 2 < 2 ^ (r.wide.toNat - 1) := half_lt (by rw [← hW]; exact hb1)
  have hhW : s / 2 < 2 ^ r.wide.toNat := by omega
  have h1 : stepI r c 1 = (c : Int) + (1 : Nat) ∨ stepI r c 1 < 0 := by
    by_cases h : 0 ≤ stepI r c 1
    · exact .inl (step1_is hw h)
    · exact .inr (by omega)
  have h2 : stepI r c 2 = (c : Int) + (r.wide.toNat : Nat) ∨ stepI r c 2 < 0 := by
    by_cases h : 0 ≤ stepI r c 2
    · exact .inl (by rw [step2_is hw h]; omega)
    · exact .inr (by omega)
  have hsk : skipB r (decC r.cells.length c s) c = (decide (s % 2 = 1) || !r.f c) := by
    unfold skipB
    rw [decC_get, decide_eq_true hc, decide_eq_true (Nat.le_refl c), Nat.sub_self, Nat.testBit_zero, Bool.or_comm]; simp
  unfold frF optN
  rw [e]
  conv => lhs; lhs; unfold tilC
  rw [hsk, ← can_is h1, ← can_is h2]
  cases hs : (decide (s % 2 = 1) || !r.f c)
  · have key1 : canF r c s 1 1 = true → tilC (r.cells.length - (c + 1)) r (cov r (decC r.cells.length c s) c 1) (c + 1) = frF r (c + 1) (s / 2 + 1) ∧ bdF r (c + 1) (s / 2 + 1) := fun h => by
      unfold canF at h
      simp only [Bool.and_eq_true, decide_eq_true_eq] at h
      obtain ⟨⟨ha, hf⟩, h0⟩ := h
      have hst := step1_is hw ha
      have hl := f_lt hf
      have hx : 2 ≤ r.wide := by
        unfold stepI at ha; simp only [if_true] at ha
        split at ha
        · next h => have := Int.emod_nonneg c (show r.wide ≠ 0 by omega); omega
        · omega
      have h0' : s / 2 / 2 ^ 0 % 2 = 0 := by simpa using h0
      refine ⟨?_, add_lt h0' hhW (by omega), add_lt h0' hh2 (by omega)⟩
      exact dec_cov hw _ (way := 1) (b := 0) (by rw [hst]; omega) (by omega) h0'
    have key2 : canF r c s 2 r.wide.toNat = true → tilC (r.cells.length - (c + 1)) r (cov r (decC r.cells.length c s) c 2) (c + 1) = frF r (c + 1) (s / 2 + 2 ^ (r.wide.toNat - 1)) ∧ bdF r (c + 1) (s / 2 + 2 ^ (r.wide.toNat - 1)) := fun h => by
      unfold canF at h
      simp only [Bool.and_eq_true, decide_eq_true_eq] at h
      obtain ⟨⟨ha, hf⟩, h0⟩ := h
      have hst := step2_is hw ha
      have hl := f_lt hf
      have h0' : s / 2 / 2 ^ (r.wide.toNat - 1) % 2 = 0 := by
        rw [Nat.div_eq_of_lt hh1]
      refine ⟨?_, add_lt h0' hhW (by omega), add_lt h0' hh2 (by omega)⟩
      exact dec_cov hw _ (way := 2) (b := r.wide.toNat - 1) (by rw [hst]; omega) (by omega) h0'
    simp only [Bool.false_eq_true, if_false]
    cases hk1 : canF r c s 1 1 <;> cases hk2 : canF r c s 2 r.wide.toNat <;> simp only [Bool.false_eq_true, if_false, if_true, sumL]
    · simp
    · rw [(key2 hk2).1]; refine ⟨by simp [frF], fun o ho => ?_⟩
      simp at ho; subst ho; exact (key2 hk2).2
    · rw [(key1 hk1).1]; refine ⟨by simp [frF], fun o ho => ?_⟩
      simp at ho; subst ho; exact (key1 hk1).2
    · rw [(key1 hk1).1, (key2 hk2).1]; refine ⟨by simp [frF], fun o ho => ?_⟩
      simp at ho
      rcases ho with rfl | rfl
      · exact (key1 hk1).2
      · exact (key2 hk2).2
  · simp only [if_true, sumL, dec_skip hw]
    refine ⟨by simp, fun o ho => ?_⟩
    simp at ho; subst ho
    exact ⟨hhW, hh2⟩

/-! ### sets and ways -/
def sumF (F : Nat → Nat) : List Nat → List Nat → Nat
  | s :: S, m :: M => m * F s + sumF F S M
  | _, _ => 0
theorem sumF_snoc (F : Nat → Nat) : ∀ (S M : List Nat) (s m : Nat), S.length = M.length → sumF F (S ++ [s]) (M ++ [m]) = sumF F S M + m * F s := by
  intro S
  induction S with
  | nil => intro M s m h; cases M with
    | nil => simp [sumF]
    | cons _ _ => simp at h
  | cons a S ih => intro M s m h; cases M with
    | nil => simp at h
    | cons b M => simp only [List.cons_append, sumF, ih M s m (by simpa using h)]; omega
theorem sumF_put (F : Nat → Nat) (x : Nat) : ∀ (S M : List Nat) (k : Nat), k < S.length → S.length = M.length → sumF F S (M.set k (M.getD k 0 + x)) = sumF F S M + x * F (S.getD k 0) := by
  intro S
  induction S with
  | nil => intro M k h; simp at h
  | cons a S ih => intro M k hk h; cases M with
    | nil => simp at h
    | cons b M =>
      cases k with
      | zero => simp only [List.set_cons_zero, List.getD_cons_zero, sumF, Nat.add_mul]; omega
      | succ k => simp only [List.set_cons_succ, List.getD_cons_succ, sumF, ih M k (by simpa using hk) (by simpa using h)]; omega
theorem getD_le_sumF : ∀ (S M : List Nat) (k : Nat), S.length = M.length → M.getD k 0 ≤ sumF (fun _ => 1) S M := by
  intro S
  induction S with
  | nil => intro M k h; cases M with
    | nil => simp [sumF]
    | cons _ _ => simp at h
  | cons a S ih => intro M k h; cases M with
    | nil => simp at h
    | cons b M => cases k with
      | zero => simp [sumF]
      | succ k => simp only [List.getD_cons_succ, sumF]; have := ih M k (by simpa using h); omega
/-- The sets S with their ways M at the cell c: what they yield is T, the ways together are at most U, there are at most l. -/
structure Fr (r : Reg) (c : Nat) (S M : List Nat) (T U l : Nat) : Prop where
  len : S.length = M.length
  bd : ∀ s ∈ S, bdF r c s
  sum : sumF (frF r c) S M = T
  tot : sumF (fun _ => 1) S M ≤ U
  ln : S.length ≤ l
section
variable {r : Reg} {c : Nat} {S M : List Nat} {T U l : Nat}
theorem Fr.nil : Fr r c [] [] 0 0 0 := ⟨rfl, fun s h => by simp at h, rfl, by simp [sumF], by simp⟩
theorem Fr.start (hv : r.valid = true) : Fr r 0 [0] [1] (withL r (bareL r)) 1 1 := by
  refine ⟨rfl, fun s hs => ?_, ?_, by simp [sumF], by simp⟩
  · simp at hs; subst hs; exact ⟨Nat.two_pow_pos _, Nat.two_pow_pos _⟩
  · simp only [sumF, Nat.one_mul, Nat.add_zero]
    unfold frF withL
    have hl : (bareL r).length = r.cells.length := by unfold bareL; rw [if_pos hv]; simp
    rw [hl, Nat.sub_zero]
    have hw : 1 ≤ r.wide := by
      have := hv; unfold Reg.valid at this; simp only [Bool.and_eq_true, inB_iff] at this; omega
    refine tilC_same hw ?_ fun k _ => ?_
    · rw [decC_len]; unfold covB; rw [List.length_map, hl]
    · rw [decC_get, covB_get]
      have : (bareL r).getD k 0 = 0 := by
        unfold bareL; rw [if_pos hv]
        simp only [List.getD_eq_getElem?_getD, List.getElem?_replicate]
        split <;> rfl
      rw [this]; simp
theorem Fr.mono (h : Fr r c S M T U l) {U' l' : Nat} (hU : U ≤ U') (hl : l ≤ l') : Fr r c S M T U' l' := ⟨h.len, h.bd, h.sum, Nat.le_trans h.tot hU, Nat.le_trans h.ln hl⟩
theorem Fr.new (h : Fr r c S M T U l) {o : Nat} (ho : bdF r c o) : Fr r c (S ++ [o]) (M ++ [0]) T U (l + 1) := by
  refine ⟨by simp [h.len], fun s hs => ?_, ?_, ?_, ?_⟩
  · simp at hs; rcases hs with hs | rfl
    · exact h.bd s hs
    · exact ho
  · rw [sumF_snoc _ _ _ _ _ h.len, h.sum]; simp
  · rw [sumF_snoc _ _ _ _ _ h.len]; have := h.tot; simpa using this
  · have := h.ln; simp; omega
theorem Fr.put (h : Fr r c S M T U l) {k o x : Nat} (hk : k < S.length) (ho : S.getD k 0 = o) : Fr r c S (M.set k (M.getD k 0 + x)) (T + x * frF r c o) (U + x) l := by
  refine ⟨by rw [List.length_set]; exact h.len, h.bd, ?_, ?_, h.ln⟩
  · rw [sumF_put _ _ _ _ _ hk h.len, h.sum, ho]
  · rw [sumF_put _ _ _ _ _ hk h.len]; have := h.tot; omega
theorem Fr.way (h : Fr r c S M T U l) (k : Nat) : M.getD k 0 ≤ U := Nat.le_trans (getD_le_sumF S M k h.len) h.tot
end
theorem opt_len (r : Reg) (c s : Nat) : (optN r c s).length ≤ 2 := by
  unfold optN
  split
  · simp
  · split <;> split <;> simp
theorem sumF_take (F : Nat → Nat) : ∀ (S M : List Nat) (k : Nat), k < S.length → S.length = M.length → sumF F (S.take (k + 1)) (M.take (k + 1)) = sumF F (S.take k) (M.take k) + M.getD k 0 * F (S.getD k 0) := by
  intro S
  induction S with
  | nil => intro M k h; simp at h
  | cons a S ih => intro M k hk h; cases M with
    | nil => simp at h
    | cons b M => cases k with
      | zero => simp [sumF]
      | succ k => simp only [List.take_succ_cons, sumF, List.getD_cons_succ, ih M k (by simpa using hk) (by simpa using h)]; omega
theorem sumL_take (F : Nat → Nat) (O : List Nat) (j : Nat) (h : j < O.length) : sumL F (O.take (j + 1)) = sumL F (O.take j) + F (O.getD j 0) := by
  unfold sumL
  rw [List.take_succ_eq_append_getElem h, List.map_append, List.sum_append]
  simp [List.getD_eq_getElem?_getD, h]
theorem sumF_le_take (S M : List Nat) (k : Nat) (h : S.length = M.length) : sumF (fun _ => 1) (S.take k) (M.take k) ≤ sumF (fun _ => 1) S M := by
  induction S generalizing M k with
  | nil => simp [sumF]
  | cons a S ih => cases M with
    | nil => simp at h
    | cons b M => cases k with
      | zero => simp [sumF]
      | succ k => simp only [List.take_succ_cons, sumF]; have := ih M k (by simpa using h); omega
theorem frF_end (r : Reg) (s : Nat) : frF r r.cells.length s = 1 := by unfold frF; rw [Nat.sub_self]; rfl
theorem Fr.cast {r : Reg} {c : Nat} {S M : List Nat} {T U l T' U' l' : Nat} (h : Fr r c S M T U l) (hT : T = T') (hU : U ≤ U') (hl : l ≤ l') : Fr r c S M T' U' l' := ⟨h.len, h.bd, h.sum.trans hT, Nat.le_trans h.tot hU, Nat.le_trans h.ln hl⟩
theorem Fr.round {r : Reg} {c k : Nat} {S M N Y O : List Nat} {x sv T0 U0 : Nat} (hk : k < S.length) (hl : S.length = M.length) (hx : M.getD k 0 = x) (hs : S.getD k 0 = sv) (hO : frF r c sv = sumL (frF r (c + 1)) O) (hO2 : O.length ≤ 2)
    (hT : T0 = sumF (frF r c) (S.take k) (M.take k)) (hU : U0 = 2 * sumF (fun _ => 1) (S.take k) (M.take k)) (h : Fr r (c + 1) N Y (T0 + x * sumL (frF r (c + 1)) (O.take O.length)) (U0 + x * O.length) (2 * k + O.length)) :
    Fr r (c + 1) N Y (sumF (frF r c) (S.take (k + 1)) (M.take (k + 1))) (2 * sumF (fun _ => 1) (S.take (k + 1)) (M.take (k + 1))) (2 * (k + 1)) := by
  refine h.cast ?_ ?_ (by omega)
  · rw [List.take_length, ← hO, sumF_take _ _ _ _ hk hl, hx, hs, hT]
  · rw [sumF_take _ _ _ _ hk hl, hx, hU]
    have : x * O.length ≤ x * 2 := Nat.mul_le_mul_left x hO2
    omega
theorem Fr.outer {r : Reg} {c : Nat} {S M N Y : List Nat} {T : Nat} (hF : Fr r c S M T (2 ^ c) (2 ^ c)) (h : Fr r (c + 1) N Y (sumF (frF r c) (S.take S.length) (M.take S.length)) (2 * sumF (fun _ => 1) (S.take S.length) (M.take S.length)) (2 * S.length)) :
    Fr r (c + 1) N Y T (2 ^ (c + 1)) (2 ^ (c + 1)) := by
  have hl := hF.len
  have h1 := hF.tot
  have h2 := hF.ln
  rw [List.take_length, hl, List.take_length] at h
  rw [hl] at h2
  refine h.cast hF.sum ?_ ?_ <;> rw [Nat.pow_succ] <;> omega
theorem Fr.step {r : Reg} {c k j q o : Nat} {N Y O : List Nat} {x T0 U0 l0 : Nat} (hj : j < O.length) (ho : O.getD j 0 = o) (hq : q < N.length) (hN : N.getD q 0 = o) (h : Fr r c N Y (T0 + x * sumL (frF r c) (O.take j)) (U0 + x * j) l0) (hl : l0 ≤ 2 * k + (j + 1)) :
    Fr r c N (Y.set q (Y.getD q 0 + x)) (T0 + x * sumL (frF r c) (O.take (j + 1))) (U0 + x * (j + 1)) (2 * k + (j + 1)) := by
  refine (h.put (x := x) hq hN).cast ?_ ?_ hl
  · rw [sumL_take _ _ _ hj, ho, Nat.mul_add]; omega
  · rw [Nat.mul_add]; omega
end Domi
