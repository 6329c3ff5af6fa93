/- Blocks of the call's own, as one list of items with one law for each kind of change. No program is named here. -/
import Derived.Test.YtnmoaecihmjnnaaMem
import Derived.Test.YtnmoaecihmjnnaaReg
namespace Domi
open Go Go.RowKit

/-- A block that is known whole, or a slice of the call's own. -/
inductive It
  | box (g : Nat) (cs : Array Value) (t : TypeId)
  | row (e : TypeId) (v : Value) (xs : List Value)
def It.id : It → Option Nat
  | .box g _ _ => some g
  | .row _ v _ => v.ownBlock
def It.on : It → World → Prop
  | .box g cs t, w => w.heap[g]? = some (.cells cs t (0, 0))
  | .row e v xs, w => Own w 0 e v xs

theorem It.lt {p : It} {w : World} (h : p.on w) {k : Nat} (hk : p.id = some k) : k < w.heap.size := by
  cases p with
  | box g cs t => simp [It.id] at hk; subst hk; exact lt_of_heap h
  | row e v xs => exact (World.ownsRow.lt h k hk).2
theorem It.kept {p : It} {w w' : World} {r : Option Nat} (h : p.on w) (hg : w.grownBy w' r) (hne : ∀ k, p.id = some k → r ≠ some k) : p.on w' := by
  cases p with
  | box g cs t =>
    show w'.heap[g]? = _
    rw [hg.block g (lt_of_heap h) (fun e => hne g rfl e.symm)]; exact h
  | row e v xs =>
    refine World.ownsRow.kept h hg ?_
    cases hv : v.ownBlock with
    | none => exact .inl rfl
    | some k => exact .inr (fun e => hne k hv e.symm)

/-- Since w0 none of what was there has turned but the block 'row'; the items lie apart from each other, and from what was there. -/
structure Sep (w0 : World) (row : Option Nat) (w : World) (S : List It) : Prop where
  g : w0.grownBy w row
  dist : ∀ (i j : Nat) (p q : It) (k : Nat), i ≠ j → S[i]? = some p → S[j]? = some q → p.id = some k → q.id = some k → False
  at_ : ∀ (i : Nat) (p : It), S[i]? = some p → p.on w
  new : ∀ (i : Nat) (p : It) (k : Nat), S[i]? = some p → p.id = some k → w0.heap.size ≤ k

section
variable {w0 w w' : World} {row : Option Nat} {S : List It}

theorem Sep.start (w0 : World) (row : Option Nat) : Sep w0 row w0 [] :=
  ⟨grown_refl w0 row, fun i j p q k _ h => by simp at h, fun i p h => by simp at h, fun i p k h => by simp at h⟩

/-- The one law: item i, whose block alone may have turned, becomes p'. -/
theorem Sep.change (h : Sep w0 row w S) (i : Nat) {p p' : It} (hi : S[i]? = some p) (hg : w.grownBy w' p.id) (hp : p'.on w') (hid : ∀ k, p'.id = some k → p.id = some k ∨ w.heap.size ≤ k) : Sep w0 row w' (S.set i p') := by
  have hget : ∀ (j : Nat) (q : It), (S.set i p')[j]? = some q → (j = i ∧ q = p') ∨ (j ≠ i ∧ S[j]? = some q) := by
    intro j q hq
    by_cases e : i = j
    · subst e
      rw [List.getElem?_set_self (by exact (List.getElem?_eq_some_iff.1 hi).1)] at hq
      exact .inl ⟨rfl, (Option.some.inj hq).symm⟩
    · rw [List.getElem?_set_ne e] at hq; exact .inr ⟨fun e' => e e'.symm, hq⟩
  have hold : ∀ (j : Nat) (q : It) (k : Nat), j ≠ i → S[j]? = some q → q.id = some k → p'.id = some k → False := by
    intro j q k hj hq h1 h2
    rcases hid k h2 with h3 | h3
    · exact h.dist j i q p k hj hq hi h1 h3
    · have := It.lt (h.at_ j q hq) h1; omega
  refine ⟨?_, ?_, ?_, ?_⟩
  · refine grown_new h.g hg (fun k hk _ => h.new i p k hi hk)
  · intro j l q u k hjl hq hu h1 h2
    rcases hget j q hq with ⟨a1, a2⟩ | ⟨hj, hq'⟩ <;> rcases hget l u hu with ⟨b1, b2⟩ | ⟨hl, hu'⟩
    · exact hjl (a1.trans b1.symm)
    · exact hold l u k hl hu' h2 (a2 ▸ h1)
    · exact hold j q k hj hq' h1 (b2 ▸ h2)
    · exact h.dist j l q u k hjl hq' hu' h1 h2
  · intro j q hq
    rcases hget j q hq with ⟨rfl, rfl⟩ | ⟨hj, hq⟩
    · exact hp
    · exact It.kept (h.at_ j q hq) hg (fun k hk e => h.dist j i q p k hj hq hi hk e)
  · intro j q k hq hk
    rcases hget j q hq with ⟨rfl, rfl⟩ | ⟨hj, hq⟩
    · rcases hid k hk with h3 | h3
      · exact h.new _ p k hi h3
      · exact Nat.le_trans h.g.size h3
    · exact h.new j q k hq hk

/-- Nothing of the items has turned. -/
theorem Sep.kept (h : Sep w0 row w S) (hg : w.grownBy w' none) : Sep w0 row w' S :=
  ⟨grown_new h.g hg (fun k hk _ => by cases hk), h.dist, fun i p hi => It.kept (h.at_ i p hi) hg (fun k _ e => by cases e), h.new⟩
/-- The block 'row' alone may have turned. -/
theorem Sep.keptRow (h : Sep w0 row w S) (hg : w.grownBy w' row) (hr : ∀ k, row = some k → k < w0.heap.size) : Sep w0 row w' S :=
  ⟨grown_trans h.g hg, h.dist, fun i p hi => It.kept (h.at_ i p hi) hg (fun k hk e => by have := h.new i p k hi hk; have := hr k e; omega), h.new⟩
/-- A block that came later than the items. -/
theorem Sep.far {wx : World} (h : Sep w0 row w S) (hx : Sep w0 row wx S) {b : Nat} (hb : wx.heap.size ≤ b) (hg : w.grownBy w' (some b)) : Sep w0 row w' S :=
  ⟨grown_new h.g hg (fun k hk _ => by cases hk; exact Nat.le_trans hx.g.size hb), h.dist, fun i p hi => It.kept (h.at_ i p hi) hg (fun k hk e => by cases e; have := It.lt (hx.at_ i p hi) hk; omega), h.new⟩
theorem Sep.below (h : Sep w0 row w S) (hb : Below w.heap.size w w') : Sep w0 row w' S := h.kept (grown_below hb none)
theorem Sep.drew (h : Sep w0 row w S) : Sep w0 row w.drew S := h.kept (grown_drew (grown_refl w none))
theorem Sep.drewN (h : Sep w0 row w S) (n : Nat) : Sep w0 row (w.drewN n) S := h.kept (grown_drewN (grown_refl w none) n)
theorem Sep.later (h : Sep w0 row w S) (L : Later w) : Sep w0 row L.x S := h.below L.h

/-- One item more. -/
theorem Sep.more (h : Sep w0 row w S) {p : It} (hp : p.on w) (hid : ∀ k, p.id = some k → w0.heap.size ≤ k ∧ ∀ (j : Nat) (q : It), S[j]? = some q → q.id ≠ some k) : Sep w0 row w (S ++ [p]) := by
  have hget : ∀ (j : Nat) (q : It), (S ++ [p])[j]? = some q → (j = S.length ∧ q = p) ∨ (j < S.length ∧ S[j]? = some q) := by
    intro j q hq
    rcases Nat.lt_or_ge j S.length with hl | hl
    · rw [List.getElem?_append_left hl] at hq; exact .inr ⟨hl, hq⟩
    · rw [List.getElem?_append_right hl] at hq
      obtain ⟨hj, hq⟩ := List.getElem?_eq_some_iff.1 hq
      simp at hj hq
      exact .inl ⟨by omega, hq.symm⟩
  refine ⟨h.g, ?_, ?_, ?_⟩
  · intro i j q u k hij hq hu h1 h2
    rcases hget i q hq with ⟨a1, a2⟩ | ⟨hi, hq'⟩ <;> rcases hget j u hu with ⟨b1, b2⟩ | ⟨hj, hu'⟩
    · exact hij (a1.trans b1.symm)
    · exact (hid k (a2 ▸ h1)).2 j u hu' h2
    · exact (hid k (b2 ▸ h2)).2 i q hq' h1
    · exact h.dist i j q u k hij hq' hu' h1 h2
  · intro i q hq
    rcases hget i q hq with ⟨rfl, rfl⟩ | ⟨_, hq⟩
    · exact hp
    · exact h.at_ i q hq
  · intro i q k hq hk
    rcases hget i q hq with ⟨rfl, rfl⟩ | ⟨_, hq⟩
    · exact (hid k hk).1
    · exact h.new i q k hq hk
theorem Sep.fresh (h : Sep w0 row w S) {k : Nat} (hk : w.heap.size ≤ k) : w0.heap.size ≤ k ∧ ∀ (j : Nat) (q : It), S[j]? = some q → q.id ≠ some k :=
  ⟨Nat.le_trans h.g.size hk, fun j q hq e => by have := It.lt (h.at_ j q hq) e; omega⟩
theorem Sep.alloc (h : Sep w0 row w S) (o : Obj) : Sep w0 row (w.alloc o) S := h.kept (World.grownBy_alloc w o none)
theorem Sep.box (h : Sep w0 row w S) (cs : Array Value) (t : TypeId) : Sep w0 row (w.alloc (.cells cs t)) (S ++ [.box w.heap.size cs t]) :=
  (h.alloc _).more (heap_alloc_new w _) (fun k hk => by
    have hk' : w.heap.size = k := by simpa [It.id] using hk
    subst hk'
    exact ⟨h.g.size, fun j q hq e => by have := It.lt (h.at_ j q hq) e; omega⟩)
theorem Sep.nil (h : Sep w0 row w S) (e : TypeId) : Sep w0 row w (S ++ [.row e (.slice none 0 0) []]) :=
  h.more (Own.nil w 0 e) (fun k hk => by simp [It.id, Value.ownBlock] at hk)
theorem Sep.made (h : Sep w0 row w S) {e : TypeId} {n : Nat} {z : Value} {cs : Array Value} (hc : Hid (cs = Array.replicate n z)) (hn : n ≤ 9223372036854775807) :
    Sep w0 row (w.alloc (.cells cs e)) (S ++ [.row e (.slice (some ⟨w.heap.size, 0, none⟩) n n) (List.replicate n z)]) :=
  (h.alloc _).more (Own.made hc (Nat.zero_le _) hn) (fun k hk => by
    have hk' : w.heap.size = k := by simpa [It.id, Value.ownBlock] using hk
    subst hk'
    exact ⟨h.g.size, fun j q hq e => by have := It.lt (h.at_ j q hq) e; omega⟩)
theorem Sep.lit (h : Sep w0 row w S) (e : TypeId) (cs : Array Value) (n : Nat) (hs : cs.size = n) (hn : n ≤ 9223372036854775807) :
    Sep w0 row (w.alloc (.cells cs e)) (S ++ [.row e (.slice (some ⟨w.heap.size, 0, none⟩) n n) cs.toList]) :=
  (h.alloc _).more (by
    have := World.ownsRow_lit (base := 0) (size := 1) (e := e) w cs n (Nat.zero_le _) (by unfold maxLen; omega) (by simpa using hs)
    have e2 : cs.toList.length = n := by simpa using hs
    show World.ownsRow _ _ _ _ _ cs.toList.length cs.toList
    rw [e2]; exact this) (fun k hk => by
    have hk' : w.heap.size = k := by simpa [It.id, Value.ownBlock] using hk
    subst hk'
    exact ⟨h.g.size, fun j q hq e => by have := It.lt (h.at_ j q hq) e; omega⟩)

/-- A store into a block that is known whole. -/
theorem Sep.put (h : Sep w0 row w S) (i : Nat) {g : Nat} {cs : Array Value} {t : TypeId} (hi : S[i]? = some (.box g cs t)) (k : Nat) (v : Value) :
    Sep w0 row (w.setCell ⟨g, k, none⟩ v) (S.set i (.box g (cs.setIfInBounds k v) t)) :=
  h.change i hi (grown_setCell w g k none v) (heap_setCell_same w g k cs t v (h.at_ i _ hi)) (fun _ hk => .inl hk)
theorem Sep.put3 (h : Sep w0 row w S) (i : Nat) {g : Nat} {x y z : Value} {t : TypeId} (hi : S[i]? = some (.box g #[x, y, z] t)) (x' y' z' : Value) :
    Sep w0 row (((w.setCell ⟨g, 0, none⟩ x').setCell ⟨g, 1, none⟩ y').setCell ⟨g, 2, none⟩ z') (S.set i (.box g #[x', y', z'] t)) :=
  h.change i hi (grown_trans (grown_trans (grown_setCell w g 0 none x') (grown_setCell _ g 1 none y')) (grown_setCell _ g 2 none z')) (Domi.put3 (h.at_ i _ hi)) (fun _ hk => .inl hk)
/-- A block that a call has turned. -/
theorem Sep.turned (h : Sep w0 row w S) (i : Nat) {g : Nat} {cs cs' : Array Value} {t t' : TypeId} (hi : S[i]? = some (.box g cs t)) (hg : w.grownBy w' (some g)) (hb : w'.heap[g]? = some (.cells cs' t' (0, 0))) :
    Sep w0 row w' (S.set i (.box g cs' t')) := h.change i hi hg hb (fun _ hk => .inl hk)
/-- A store into a slice of the call's own. -/
theorem Sep.set (h : Sep w0 row w S) (i : Nat) {e : TypeId} {g n c : Nat} {xs : List Value} (hi : S[i]? = some (.row e (.slice (some ⟨g, 0, none⟩) n c) xs)) (j : Nat) (u : Value) :
    Sep w0 row (w.setCell ⟨g, j, none⟩ u) (S.set i (.row e (.slice (some ⟨g, 0, none⟩) n c) (xs.set j u))) :=
  h.change i hi (grown_setCell w g j none u) (Own.stored (h.at_ i _ hi) j u) (fun _ hk => .inl hk)
/-- An append to a slice of the call's own. -/
theorem Sep.app (h : Sep w0 row w S) (i : Nat) {e : TypeId} {v : Value} {xs : List Value} {x : Value} {B g cap : Nat} (hi : S[i]? = some (.row e v xs)) (A : App w B e v xs x g cap w') :
    Sep w0 row w' (S.set i (.row e (.slice (some ⟨g, 0, none⟩) (xs.length + 1) cap) (xs ++ [x]))) := by
  refine h.change i hi A.grown ?_ ?_
  · have := Own.mono A.own (Nat.zero_le _)
    show Own _ _ _ _ _
    simpa [Own] using this
  · intro k hk
    have hk' : g = k := by simpa [It.id, Value.ownBlock] using hk
    subst hk'
    rcases A.lies with h1 | h1
    · exact .inl h1
    · exact .inr (by omega)
/-- Some of the items, in another order. -/
theorem Sep.pick (h : Sep w0 row w S) (is : List Nat) (hn : is.Nodup) (hl0 : (is.all fun i => decide (i < S.length)) = true) : Sep w0 row w (is.filterMap fun i => S[i]?) := by
  have key : ∀ (is : List Nat), is.Nodup → (∀ i ∈ is, i < S.length) → ∀ (j : Nat) (p : It), (is.filterMap fun i => S[i]?)[j]? = some p → ∃ i, is[j]? = some i ∧ S[i]? = some p := by
    intro is
    induction is with
    | nil => intro _ _ j p hp; simp at hp
    | cons a l ih =>
      intro hn hl j p hp
      have ha : a < S.length := hl a (by simp)
      have hsa : S[a]? = some S[a] := List.getElem?_eq_getElem ha
      rw [List.filterMap_cons, hsa] at hp
      cases j with
      | zero => exact ⟨a, by simp, by rw [hsa]; simpa using hp⟩
      | succ j => exact ih (List.nodup_cons.1 hn).2 (fun i hi => hl i (by simp [hi])) j p (by simpa using hp)
  have hl : ∀ i ∈ is, i < S.length := fun i hi => by simpa using List.all_eq_true.1 hl0 i hi
  refine ⟨h.g, ?_, ?_, ?_⟩
  · intro i j p q k hij hp hq h1 h2
    obtain ⟨a, ha, hpa⟩ := key is hn hl i p hp
    obtain ⟨b, hb, hqb⟩ := key is hn hl j q hq
    refine h.dist a b p q k ?_ hpa hqb h1 h2
    intro e; subst e
    obtain ⟨hi', e1⟩ := List.getElem?_eq_some_iff.1 ha
    obtain ⟨hj', e2⟩ := List.getElem?_eq_some_iff.1 hb
    exact hij (List.getElem_inj hn |>.1 (e1.trans e2.symm))
  · intro i p hp
    obtain ⟨a, _, hpa⟩ := key is hn hl i p hp
    exact h.at_ a p hpa
  · intro i p k hp hk
    obtain ⟨a, _, hpa⟩ := key is hn hl i p hp
    exact h.new a p k hpa hk

/-- A slice that came later than the items. -/
theorem Sep.add {wx : World} (h : Sep w0 row w S) (hx : Sep w0 row wx S) {e : TypeId} {v : Value} {xs : List Value} (ho : Own w wx.heap.size e v xs) : Sep w0 row w (S ++ [.row e v xs]) :=
  h.more (Own.mono ho (Nat.zero_le _)) (fun k hk => hx.fresh (World.ownsRow.lt ho k hk).1)
theorem Sep.blk (h : Sep w0 row w S) (i : Nat) {g : Nat} {cs : Array Value} {t : TypeId} (hi : S[i]? = some (.box g cs t)) : w.heap[g]? = some (.cells cs t (0, 0)) := h.at_ i _ hi
theorem Sep.own (h : Sep w0 row w S) (i : Nat) {e : TypeId} {v : Value} {xs : List Value} (hi : S[i]? = some (.row e v xs)) : Own w 0 e v xs := h.at_ i _ hi
theorem Sep.ne (h : Sep w0 row w S) (i j : Nat) {p q : It} {a b : Nat} (hi : S[i]? = some p) (hj : S[j]? = some q) (hij : i ≠ j) (ha : p.id = some a) (hb : q.id = some b) : a ≠ b := fun e => h.dist i j p q a hij hi hj ha (e ▸ hb)
theorem Sep.ge (h : Sep w0 row w S) (i : Nat) {p : It} {a : Nat} (hi : S[i]? = some p) (ha : p.id = some a) : w0.heap.size ≤ a := h.new i p a hi ha
theorem Sep.lt (h : Sep w0 row w S) (i : Nat) {p : It} {a : Nat} (hi : S[i]? = some p) (ha : p.id = some a) : a < w.heap.size := It.lt (h.at_ i p hi) ha
theorem Sep.bel (h : Sep w0 none w S) : Below w0.heap.size w0 w := below_grown h.g (Nat.le_refl _) (fun i hi => by cases hi)
end

/-- The cells of a row. -/
theorem Own.form {w : World} {B : Nat} {e : TypeId} {v : Value} {xs : List Value} (h : Own w B e v xs) : ∃ a c, v = .slice a xs.length c := by
  obtain ⟨a, c, h, _⟩ := h.sl; exact ⟨a, c, h⟩
theorem Own.formM {α : Type} {w : World} {B : Nat} {e : TypeId} {v : Value} {l : List α} {f : α → Value} (h : Own w B e v (l.map f)) : ∃ a c, v = .slice a l.length c := by
  obtain ⟨a, c, h⟩ := h.form; exact ⟨a, c, by simpa using h⟩

end Domi
