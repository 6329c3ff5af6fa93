/- Appending a whole slice; a slice that is of the call's own. No program is named here. -/
import Derived.Test.YtnmoaecihmjnnaaSep
namespace Domi
open Go Go.RowKit

/-- What an append of the values news leaves. -/
structure AppN (w : World) (B : Nat) (e : TypeId) (v : Value) (xs news : List Value) (g cap : Nat) (w' : World) : Prop where
  own : Own w' B e (.slice (some ⟨g, 0, none⟩) (xs.length + news.length) cap) (xs ++ news)
  grown : w.grownBy w' v.ownBlock
  lies : v.ownBlock = some g ∨ g = w.heap.size
  lt : g < w'.heap.size

/-- A slice that reads as news, which is not empty. -/
theorem Sl.form {w : World} {v : Value} {xs : List Value} (h : Sl w v xs) (hne : 0 < xs.length) :
    ∃ b off cap, v = .slice (some ⟨b, off, none⟩) xs.length cap ∧ b < w.heap.size ∧ ∀ j u, xs[j]? = some u → w.cell? ((⟨b, off, none⟩ : Addr).add j) = some u := by
  obtain ⟨a, cap, rfl, h1, h2, h3⟩ := h
  rcases h3 with rfl | ⟨b, off, rfl, hl, hc⟩
  · simp at hne
  · refine ⟨b, off, cap, rfl, hl, fun j u hu => ?_⟩
    obtain ⟨hj, e⟩ := List.getElem?_eq_some_iff.1 hu
    have hadd : (⟨b, off, none⟩ : Addr).add j = ⟨b, off + j, none⟩ := by unfold Addr.add; split <;> simp_all
    rw [hadd, hc j hj, e]

section
variable {P : Program} {t e : TypeId} {bytes : Nat} {w : World} {ops : Array Oper} {o : Oper} {a : Act} {Q : Exit → Act → World → Prop}
theorem step_appN (E : ElemOk P t e bytes) (B : Nat) (v : Value) (xs : List Value) (hown : Own w B e v xs) (u : Value) (news : List Value) (hu : Sl w u news) (hne : 0 < news.length) (s y : Operand)
    {K : Act → World → Prop} {F : Prop} (hgd : o.guard = none)
    (ho : o.op = .call { callee := .builtin .append, args := #[s, y], argTypes := #[t, t] }) (hs : a.eval s = v) (hx : a.eval y = u) (h1 : ∀ x ∈ news, x.oneCell' = true)
    (hl : (xs.length + news.length) * (bytes + 1) ≤ 140737488355328) (hB : B ≤ w.heap.size)
    (h : ∀ g cap w', AppN w B e v xs news g cap w' → K (a.put o.dst (.slice (some ⟨g, 0, none⟩) (xs.length + news.length) cap)) w') :
    if Region.wanted o (yielded ops a.tmps) = true then Oper.wp P o a w K Q else F := by
  obtain ⟨i, z, i1, i2, i3, i4, i5⟩ := E.info
  obtain ⟨b, off, c, rfl, _, hn⟩ := hu.form hne
  rw [Nat.mul_add] at hl
  refine step_append_lies w hgd s y t ho B e i z 1 bytes E.ht i1 i2 i3 i4 i5 (by omega) v xs.length xs hs hown ⟨b, off, none⟩ news.length c news hx (by simp) hn h1 hne (by unfold maxLen; omega) (by omega) hB _ rfl ?_
  intro g cap w' k1 k2 k3 k4
  exact h g cap w' ⟨by simpa [Own] using k1, k2, k3, k4⟩
theorem list_appN (E : ElemOk P t e bytes) (B : Nat) (v : Value) (xs : List Value) (hown : Own w B e v xs) (u : Value) (news : List Value) (hu : Sl w u news) (hne : 0 < news.length) (s y : Operand)
    {rest : List Oper} (hgd : o.guard = none)
    (ho : o.op = .call { callee := .builtin .append, args := #[s, y], argTypes := #[t, t] }) (hs : a.eval s = v) (hx : a.eval y = u) (h1 : ∀ x ∈ news, x.oneCell' = true)
    (hl : (xs.length + news.length) * (bytes + 1) ≤ 140737488355328) (hB : B ≤ w.heap.size)
    (h : ∀ g cap w', AppN w B e v xs news g cap w' → wpList P ops Q rest (a.put o.dst (.slice (some ⟨g, 0, none⟩) (xs.length + news.length) cap)) w') :
    wpList P ops Q (o :: rest) a w := by
  obtain ⟨i, z, i1, i2, i3, i4, i5⟩ := E.info
  obtain ⟨b, off, c, rfl, _, hn⟩ := hu.form hne
  rw [Nat.mul_add] at hl
  refine wpList_append_lies w hgd s y t ho B e i z 1 bytes E.ht i1 i2 i3 i4 i5 (by omega) v xs.length xs hs hown ⟨b, off, none⟩ news.length c news hx (by simp) hn h1 hne (by unfold maxLen; omega) (by omega) hB _ rfl ?_
  intro g cap w' k1 k2 k3 k4
  exact h g cap w' ⟨by simpa [Own] using k1, k2, k3, k4⟩
end

theorem Sep.appN {w0 w w' : World} {row : Option Nat} {S : List It} (h : Sep w0 row w S) (i : Nat) {e : TypeId} {v : Value} {xs news : List Value} {B g cap : Nat} (hi : S[i]? = some (.row e v xs)) (A : AppN w B e v xs news g cap w') :
    Sep w0 row w' (S.set i (.row e (.slice (some ⟨g, 0, none⟩) (xs.length + news.length) cap) (xs ++ news))) := by
  refine h.change i hi A.grown ?_ ?_
  · have := Own.mono A.own (Nat.zero_le _)
    show Own _ _ _ _ _
    simpa [Own] using this
  · intro k hk
    have hk' : g = k := by simpa [It.id, Value.ownBlock] using hk
    subst hk'
    rcases A.lies with h1 | h1
    · exact .inl h1
    · exact .inr (by omega)
/-- An empty slice of a new block. -/
theorem Sep.empty {w0 w : World} {row : Option Nat} {S : List It} (h : Sep w0 row w S) (e : TypeId) : Sep w0 row (w.alloc (.cells #[] e)) (S ++ [.row e (.slice (some ⟨w.heap.size, 0, none⟩) 0 0) []]) := h.lit e #[] 0 rfl (by omega)

/-- Two boxes at the start of a call. -/
theorem Sep.two (w : World) (row : Option Nat) (cs cs' : Array Value) (t t' : TypeId) : Sep w row ((w.alloc (.cells cs t)).alloc (.cells cs' t')) [.box w.heap.size cs t, .box (w.heap.size + 1) cs' t'] := by
  have := ((Sep.start w row).box cs t).box cs' t'
  simpa using this
theorem Sep.three (w : World) (row : Option Nat) (cs cs' cs'' : Array Value) (t t' t'' : TypeId) : Sep w row (((w.alloc (.cells cs t)).alloc (.cells cs' t')).alloc (.cells cs'' t'')) [.box w.heap.size cs t, .box (w.heap.size + 1) cs' t', .box (w.heap.size + 2) cs'' t''] := by
  have := (((Sep.start w row).box cs t).box cs' t').box cs'' t''
  simpa using this

/-- A slice of the call's own, and nothing else has turned. -/
def RetO (e : TypeId) (l : List Value) (w : World) (x : Ending) (w' : World) : Prop := ∃ v, x = .returned v ∧ Own w' w.heap.size e v l ∧ Below w.heap.size w w'
theorem Sep.high {w w' : World} {S : List It} {row : Option Nat} (h : Sep w row w' S) (i : Nat) {e : TypeId} {v : Value} {xs : List Value} (hi : S[i]? = some (.row e v xs)) : Own w' w.heap.size e v xs := by
  have h1 := h.own i hi
  refine ⟨h1.1, ?_⟩
  rcases h1.2 with h2 | ⟨g, cap, cur, rfl, _, r⟩
  · exact .inl h2
  · exact .inr ⟨g, cap, cur, rfl, h.ge i hi rfl, r⟩
theorem Own.formN {w : World} {B : Nat} {e : TypeId} {v : Value} {xs : List Value} (h : Own w B e v xs) (hne : 0 < xs.length) :
    ∃ g cap, v = .slice (some ⟨g, 0, none⟩) xs.length cap ∧ B ≤ g ∧ g < w.heap.size ∧ xs.length ≤ cap ∧ cap ≤ 9223372036854775807 := by
  rcases h.2 with ⟨_, h0⟩ | ⟨g, cap, cur, rfl, hb, hg, hc, hm, _⟩
  · omega
  · exact ⟨g, cap, rfl, hb, lt_of_heap hg, hc, by unfold maxLen at hm; exact hm⟩
/-- The slice expression s[:len:len] of a slice of the call's own. -/
theorem Own.clip {w : World} {B : Nat} {e : TypeId} {g n c : Nat} {xs : List Value} (h : Sl w (.slice (some ⟨g, 0, none⟩) n c) xs) : Sl w (.slice (some ⟨g, 0, none⟩) n n) xs := by
  obtain ⟨a, cap, e, h1, h2, h3⟩ := h
  simp only [Value.slice.injEq] at e
  obtain ⟨rfl, rfl, rfl⟩ := e
  exact ⟨_, _, rfl, Nat.le_refl _, by omega, h3⟩
/-- A block that a call has made. -/
theorem Sep.cloned {w0 w w' : World} {row : Option Nat} {S : List It} (h : Sep w0 row w S) (hb : Below w.heap.size w w') {g : Nat} {cur : Array Value} {e : TypeId} (hg : w.heap.size ≤ g) (hk : w'.heap[g]? = some (.cells cur e (0, 0))) :
    Sep w0 row w' (S ++ [.box g cur e]) :=
  (h.below hb).more hk (fun k hk' => by
    have e : g = k := by simpa [It.id] using hk'
    subst e
    exact h.fresh hg)
theorem Sep.c3 {w0 w : World} {row : Option Nat} {S : List It} (h : Sep w0 row w S) (i : Nat) {g : Nat} {x y z : Value} {t : TypeId} (hi : S[i]? = some (.box g #[x, y, z] t)) :
    w.cell? ⟨g, 0, none⟩ = some x ∧ w.cell? ⟨g, 1, none⟩ = some y ∧ w.cell? ⟨g, 2, none⟩ = some z :=
  ⟨(three_cells (h.blk i hi)).1, (three_cells (h.blk i hi)).2.1, (three_cells (h.blk i hi)).2.2.1⟩
/-- A slice over a block that is known whole. -/
theorem box_sl {w : World} {g n c : Nat} {cur : Array Value} {e : TypeId} {xs : List Value} (h : w.heap[g]? = some (.cells cur e (0, 0))) (ht : cur.toList.take n = xs) (hn : n = xs.length) (hc : n ≤ c) (hm : c ≤ 9223372036854775807) : Sl w (.slice (some ⟨g, 0, none⟩) n c) xs := by
  subst hn
  refine ⟨_, c, rfl, hc, hm, .inr ⟨g, 0, rfl, lt_of_heap h, fun i hi => ?_⟩⟩
  rw [Nat.zero_add, cell_of_row w g i cur e (0, 0) h]
  have := take_getElem ht i hi
  simpa using this
theorem take_put {cur : Array Value} {n k : Nat} {xs : List Value} {v : Value} (h : cur.toList.take n = xs) : (cur.setIfInBounds k v).toList.take n = xs.set k v := by
  subst h
  rw [Array.toList_setIfInBounds, List.take_set]
/-- A cell of such a slice. -/
theorem box_cell {w : World} {g n k : Nat} {cur : Array Value} {e : TypeId} {xs : List Value} (h : w.heap[g]? = some (.cells cur e (0, 0))) (ht : cur.toList.take n = xs) (hk : k < xs.length) :
    ∃ u, w.cell? ⟨g, k, none⟩ = some u ∧ w.frozen? ⟨g, k, none⟩ = false ∧ xs[k]? = some u := by
  have h1 : k < cur.toList.length := by rw [← ht] at hk; simp at hk; simp; omega
  refine ⟨cur.toList[k], ?_, frozen_of_row w g k _ _ h, ?_⟩
  · rw [cell_of_row w g k cur e (0, 0) h]; simp at h1; simp [h1]
  · rw [← ht] at hk ⊢
    rw [List.getElem?_take, if_pos (by simp at hk; omega)]
    simp at h1; simp [h1]
/-- What an append of the values news to an empty slice leaves. -/
structure CopyN (w : World) (e : TypeId) (v : Value) (N : Nat) (news : List Value) (g cap : Nat) (w' : World) : Prop where
  own : Own w' 0 e (.slice (some ⟨g, 0, none⟩) N cap) news
  len : news.length = N
  grown : w.grownBy w' v.ownBlock
  lies : v.ownBlock = some g ∨ g = w.heap.size
  lt : g < w'.heap.size
  le : N ≤ cap
  max : cap ≤ 9223372036854775807
theorem AppN.copy {w w' : World} {e : TypeId} {v : Value} {N : Nat} {news : List Value} {g cap : Nat} (A : AppN w 0 e v [] news g cap w') (hN : news.length = N) : CopyN w e v N news g cap w' := by
  have h := A.own
  simp only [List.length_nil, Nat.zero_add, List.nil_append, hN] at h
  obtain ⟨a, c, e1, h1, h2, _⟩ := h.sl
  simp only [Value.slice.injEq] at e1
  obtain ⟨_, _, rfl⟩ := e1
  exact ⟨h, hN, A.grown, A.lies, A.lt, by omega, h2⟩
section
variable {P : Program} {t e : TypeId} {bytes : Nat} {w : World} {ops : Array Oper} {o : Oper} {a : Act} {Q : Exit → Act → World → Prop}
theorem step_copy (E : ElemOk P t e bytes) (v : Value) (hown : Own w 0 e v []) (u : Value) (news : List Value) (hu : Sl w u news) (N : Nat) (hN : news.length = N) (hne : 0 < N) (s y : Operand)
    {K : Act → World → Prop} {F : Prop} (hgd : o.guard = none)
    (ho : o.op = .call { callee := .builtin .append, args := #[s, y], argTypes := #[t, t] }) (hs : a.eval s = v) (hx : a.eval y = u) (h1 : ∀ x ∈ news, x.oneCell' = true)
    (hl : N * (bytes + 1) ≤ 140737488355328)
    (h : ∀ g cap w', CopyN w e v N news g cap w' → K (a.put o.dst (.slice (some ⟨g, 0, none⟩) N cap)) w') :
    if Region.wanted o (yielded ops a.tmps) = true then Oper.wp P o a w K Q else F :=
  step_appN E 0 v [] hown u news hu (by omega) s y hgd ho hs hx h1 (by simpa [hN] using hl) (Nat.zero_le _) fun g cap w' A => by
    have := h g cap w' (A.copy hN)
    simpa [hN] using this
theorem list_copy (E : ElemOk P t e bytes) (v : Value) (hown : Own w 0 e v []) (u : Value) (news : List Value) (hu : Sl w u news) (N : Nat) (hN : news.length = N) (hne : 0 < N) (s y : Operand)
    {rest : List Oper} (hgd : o.guard = none)
    (ho : o.op = .call { callee := .builtin .append, args := #[s, y], argTypes := #[t, t] }) (hs : a.eval s = v) (hx : a.eval y = u) (h1 : ∀ x ∈ news, x.oneCell' = true)
    (hl : N * (bytes + 1) ≤ 140737488355328)
    (h : ∀ g cap w', CopyN w e v N news g cap w' → wpList P ops Q rest (a.put o.dst (.slice (some ⟨g, 0, none⟩) N cap)) w') :
    wpList P ops Q (o :: rest) a w :=
  list_appN E 0 v [] hown u news hu (by omega) s y hgd ho hs hx h1 (by simpa [hN] using hl) (Nat.zero_le _) fun g cap w' A => by
    have := h g cap w' (A.copy hN)
    simpa [hN] using this
end
theorem Sep.copied {w0 w w' : World} {row : Option Nat} {S : List It} (h : Sep w0 row w S) (i : Nat) {e : TypeId} {v : Value} {news : List Value} {N g cap : Nat} (hi : S[i]? = some (.row e v [])) (A : CopyN w e v N news g cap w') :
    Sep w0 row w' (S.set i (.row e (.slice (some ⟨g, 0, none⟩) N cap) news)) := by
  refine h.change i hi A.grown ?_ ?_
  · have := A.own
    show Own _ _ _ _ _
    exact this
  · intro k hk
    have hk' : g = k := by simpa [It.id, Value.ownBlock] using hk
    subst hk'
    rcases A.lies with h1 | h1
    · exact .inl h1
    · exact .inr (by omega)
/-- A slice that came later than items with these places. -/
theorem Sep.add2 {w0 wx w : World} {row : Option Nat} {S S' : List It} (h : Sep w0 row w S) (hx : Sep w0 row wx S') (hs : S.map It.id = S'.map It.id) {e : TypeId} {v : Value} {xs : List Value} (ho : Own w wx.heap.size e v xs) : Sep w0 row w (S ++ [.row e v xs]) :=
  h.more (Own.mono ho (Nat.zero_le _)) (fun k hk => by
    have hk1 := (World.ownsRow.lt ho k hk).1
    refine ⟨Nat.le_trans hx.g.size hk1, fun j q hq e => ?_⟩
    have h1 : (S.map It.id)[j]? = some q.id := by rw [List.getElem?_map, hq]; rfl
    rw [hs, List.getElem?_map] at h1
    cases hq' : S'[j]? with
    | none => rw [hq'] at h1; simp at h1
    | some q' =>
      rw [hq'] at h1
      simp at h1
      have := It.lt (hx.at_ j q' hq') (h1.trans e)
      omega)

end Domi
