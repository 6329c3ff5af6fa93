/- Appending one element to a slice of the call's own, as one law for the walk. No program is named here. -/
import Derived.Test.YtnmoaecihmjnnaaBase
import Derived.Deep.AppendLies
import Derived.Deep.QuietTactic
import Derived.BigQuiet
import Derived.Deep.RegionHeld3
import Derived.Deep.RegionWith
import Derived.Deep.RegionLaw
import Derived.Deep.DeepCutAuto
import Derived.Deep.LoopGhost
namespace Domi
open Go Go.RowKit

/-- A slice type t over a one-cell element type e. -/
structure ElemOk (P : Program) (t e : TypeId) (bytes : Nat) : Prop where
  ht : P.underlying t = some (.slice e)
  hi : (P.info? e).map (fun i => (i.zero.map (fun z => z.cells.size), i.size, i.bytes)) = some (some 1, 1, bytes)

theorem ElemOk.info {P : Program} {t e : TypeId} {bytes : Nat} (E : ElemOk P t e bytes) :
    ∃ i z, P.info? e = some i ∧ i.zero = some z ∧ i.size = 1 ∧ i.bytes = bytes ∧ z.cells.size = 1 := by
  have h := E.hi
  cases hi : P.info? e with
  | none => rw [hi] at h; simp at h
  | some i =>
    rw [hi] at h
    simp only [Option.map_some, Option.some.injEq, Prod.mk.injEq] at h
    cases hz : i.zero with
    | none => rw [hz] at h; simp at h
    | some z =>
      rw [hz] at h
      exact ⟨i, z, rfl, hz, h.2.1, h.2.2, by simpa using h.1⟩

/-- The slice v, of the call's own (blocks from B on), holds the values xs, one cell each. -/
abbrev Own (w : World) (B : Nat) (e : TypeId) (v : Value) (xs : List Value) : Prop := w.ownsRow B e 1 v xs.length xs

/-- What an append of one value leaves. -/
structure App (w : World) (B : Nat) (e : TypeId) (v : Value) (xs : List Value) (x : Value) (g cap : Nat) (w' : World) : Prop where
  own : Own w' B e (.slice (some ⟨g, 0, none⟩) (xs.length + 1) cap) (xs ++ [x])
  grown : w.grownBy w' v.ownBlock
  lies : v.ownBlock = some g ∨ g = w.heap.size
  lt : g < w'.heap.size

section
variable {P : Program} {t e : TypeId} {bytes : Nat} {w : World} {ops : Array Oper} {o : Oper} {a : Act} {Q : Exit → Act → World → Prop}

theorem news_one {w : World} {g0 : Nat} {x : Value} {e : TypeId} (h : w.heap[g0]? = some (.cells #[x] e (0, 0))) :
    ∀ j u, ([x] : List Value)[j]? = some u → w.cell? ((⟨g0, 0, none⟩ : Addr).add j) = some u := by
  intro j u hj
  match j, hj with
  | 0, hj =>
    simp at hj; subst hj
    show w.cell? ⟨g0, 0, none⟩ = _
    rw [cell_of_row w g0 0 _ _ _ h]; rfl

/-- At a step of a region that draws its order. -/
theorem step_app (E : ElemOk P t e bytes) (B : Nat) (v : Value) (xs : List Value) (hown : Own w B e v xs) (g0 : Nat) (x : Value) (s y : Operand)
    {K : Act → World → Prop} {F : Prop} (hgd : o.guard = none)
    (ho : o.op = .call { callee := .builtin .append, args := #[s, y], argTypes := #[t, t] }) (hs : a.eval s = v)
    (hx : a.eval y = .slice (some ⟨g0, 0, none⟩) 1 1) (hn : w.heap[g0]? = some (.cells #[x] e (0, 0))) (h1 : x.oneCell' = true)
    (hl : (xs.length + 1) * (bytes + 1) ≤ 140737488355328) (hB : B ≤ w.heap.size)
    (h : ∀ g cap w', App w B e v xs x g cap w' → K (a.put o.dst (.slice (some ⟨g, 0, none⟩) (xs.length + 1) cap)) w') :
    if Region.wanted o (yielded ops a.tmps) = true then Oper.wp P o a w K Q else F := by
  obtain ⟨i, z, i1, i2, i3, i4, i5⟩ := E.info
  rw [Nat.mul_add] at hl
  refine step_append_lies w hgd s y t ho B e i z 1 bytes E.ht i1 i2 i3 i4 i5 (by omega) v xs.length xs hs hown ⟨g0, 0, none⟩ 1 1 [x] hx rfl (news_one hn) (by simpa using h1) (by omega) (by unfold maxLen; omega) (by omega) hB _ rfl ?_
  intro g cap w' k1 k2 k3 k4
  exact h g cap w' ⟨by simpa [Own] using k1, k2, k3, k4⟩

/-- At the list of a plain region's operations. -/
theorem list_app (E : ElemOk P t e bytes) (B : Nat) (v : Value) (xs : List Value) (hown : Own w B e v xs) (g0 : Nat) (x : Value) (s y : Operand)
    {rest : List Oper} (hgd : o.guard = none)
    (ho : o.op = .call { callee := .builtin .append, args := #[s, y], argTypes := #[t, t] }) (hs : a.eval s = v)
    (hx : a.eval y = .slice (some ⟨g0, 0, none⟩) 1 1) (hn : w.heap[g0]? = some (.cells #[x] e (0, 0))) (h1 : x.oneCell' = true)
    (hl : (xs.length + 1) * (bytes + 1) ≤ 140737488355328) (hB : B ≤ w.heap.size)
    (h : ∀ g cap w', App w B e v xs x g cap w' → wpList P ops Q rest (a.put o.dst (.slice (some ⟨g, 0, none⟩) (xs.length + 1) cap)) w') :
    wpList P ops Q (o :: rest) a w := by
  obtain ⟨i, z, i1, i2, i3, i4, i5⟩ := E.info
  rw [Nat.mul_add] at hl
  refine wpList_append_lies w hgd s y t ho B e i z 1 bytes E.ht i1 i2 i3 i4 i5 (by omega) v xs.length xs hs hown ⟨g0, 0, none⟩ 1 1 [x] hx rfl (news_one hn) (by simpa using h1) (by omega) (by unfold maxLen; omega) (by omega) hB _ rfl ?_
  intro g cap w' k1 k2 k3 k4
  exact h g cap w' ⟨by simpa [Own] using k1, k2, k3, k4⟩
end

/-- A block below B is as it was behind the append. -/
theorem App.block {w w' : World} {B : Nat} {e : TypeId} {v : Value} {xs : List Value} {x : Value} {g cap : Nat} (h : App w B e v xs x g cap w') (ho : Own w B e v xs) {X : Nat} (hX : X < B) (hl : X < w.heap.size) : w'.heap[X]? = w.heap[X]? :=
  h.grown.block X hl (by intro e; have := (World.ownsRow.lt ho X e.symm).1; omega)
theorem App.below {w w' : World} {B : Nat} {e : TypeId} {v : Value} {xs : List Value} {x : Value} {g cap : Nat} (h : App w B e v xs x g cap w') (ho : Own w B e v xs) (hB : B ≤ w.heap.size) : Below B w w' :=
  ⟨h.grown.os, h.grown.tape, h.grown.output, h.grown.size, fun X hX => h.block ho hX (by omega)⟩
section
variable {P : Program} {t e : TypeId} {bytes : Nat} {w : World} {ops : Array Oper} {o : Oper} {a : Act} {Q : Exit → Act → World → Prop}

theorem madeOne (z : Value) (n : Nat) : madeCells #[z] n = Array.replicate n z := by
  apply Array.toList_inj.1
  rw [toList_madeCells_one]; simp

theorem run_make_cells (E : ElemOk P t e bytes) (z : Value) (hz : (P.info? e).bind (·.zero) = some z) (hz1 : z.cells = #[z]) (kl kc : IntKind) (n : Nat) (hl : n * bytes ≤ 140737488355328) (hn : n ≤ 9223372036854775807) :
    (Instr.makeSlice t (.int kl (n : Int)) (.int kc (n : Int))).run P w = .ok (.slice (some ⟨w.heap.size, 0, none⟩) n n) (w.alloc (.cells (Array.replicate n z) e)) := by
  obtain ⟨i, z', i1, i2, i3, i4, i5⟩ := E.info
  have hzz : z' = z := by rw [i1] at hz; simp [i2] at hz; exact hz
  subst hzz
  have hb : (i.bytes : Int) * (n : Int) ≤ 281474976710656 := by
    have h : ((n * bytes : Nat) : Int) ≤ 140737488355328 := by omega
    rw [Int.natCast_mul] at h
    rw [i4, Int.mul_comm]; omega
  have hr := run_make (P := P) w t e i z' E.ht i1 i2 kl kc n n (by omega) (Int.le_refl _) hb (by omega)
  rw [hz1, i3, Nat.mul_one, Int.toNat_natCast, madeOne] at hr
  exact hr

/-- A row of n times z, behind a name. -/
def mkRow (n : Nat) (z : Value) : Array Value := Array.replicate n z
theorem run_make_row1 (E : ElemOk P t e bytes) (z : Value) (hz : (P.info? e).bind (·.zero) = some z) (hz1 : z.cells = #[z]) (n : Nat) (hl : n * bytes ≤ 140737488355328) (hn : n ≤ 9223372036854775807) (w : World) :
    (Instr.makeSlice t (.int .i64 (n : Int)) (.int .i64 (n : Int))).run P w = .ok (.slice (some ⟨w.heap.size, 0, none⟩) n n) (w.alloc (.cells (mkRow n z) e)) :=
  run_make_cells E z hz hz1 .i64 .i64 n hl hn
theorem mkRow_hid (n : Nat) (z : Value) : Hid (mkRow n z = Array.replicate n z) := Lib.hid rfl

/-- 'make([]T, n)' at the list of a plain region. -/
theorem list_make (E : ElemOk P t e bytes) (z : Value) (hz : (P.info? e).bind (·.zero) = some z) (hz1 : z.cells = #[z]) (n : Nat) (l c : Operand) {rest : List Oper} (hgd : o.guard = none)
    (ho : o.op = Op.makeSlice t l c) (N : Int) (hlv : a.eval l = .int .i64 N) (hcv : a.eval c = .int .i64 N) (hN : N = (n : Int)) (hl : n * bytes ≤ 140737488355328) (hn : n ≤ 9223372036854775807)
    (h : ∀ cs, Hid (cs = Array.replicate n z) → wpList P ops Q rest (a.put o.dst (.slice (some ⟨w.heap.size, 0, none⟩) n n)) (w.alloc (.cells cs e))) :
    wpList P ops Q (o :: rest) a w := by
  refine wpList_plain hgd fun K hK' => ?_
  have hrun := run_make_cells (w := w) E z hz hz1 .i64 .i64 n hl hn
  subst hN
  unfold Oper.wp
  simp [execOp, ho, hlv, hcv, hrun, Result.andThen]
  exact hK' _ _ (h _ (Lib.hid rfl))

/-- The same at a step of a region that draws its order. -/
theorem step_make (E : ElemOk P t e bytes) (z : Value) (hz : (P.info? e).bind (·.zero) = some z) (hz1 : z.cells = #[z]) (n : Nat) (l c : Operand) {K : Act → World → Prop} {F : Prop} (hgd : o.guard = none)
    (ho : o.op = Op.makeSlice t l c) (N : Int) (hlv : a.eval l = .int .i64 N) (hcv : a.eval c = .int .i64 N) (hN : N = (n : Int)) (hl : n * bytes ≤ 140737488355328) (hn : n ≤ 9223372036854775807)
    (h : ∀ cs, Hid (cs = Array.replicate n z) → K (a.put o.dst (.slice (some ⟨w.heap.size, 0, none⟩) n n)) (w.alloc (.cells cs e))) :
    if Region.wanted o (yielded ops a.tmps) = true then Oper.wp P o a w K Q else F := by
  have hw : Region.wanted o (yielded ops a.tmps) = true := by simp [Region.wanted, hgd]
  rw [if_pos hw]
  have hrun := run_make_cells (w := w) E z hz hz1 .i64 .i64 n hl hn
  subst hN
  unfold Oper.wp
  simp [execOp, ho, hlv, hcv, hrun, Result.andThen]
  exact h _ (Lib.hid rfl)
end

theorem Own.made {w : World} {B : Nat} {e : TypeId} {n : Nat} {z : Value} {cs : Array Value} (hc : Hid (cs = Array.replicate n z)) (hB : B ≤ w.heap.size) (hn : n ≤ 9223372036854775807) :
    Own (w.alloc (.cells cs e)) B e (.slice (some ⟨w.heap.size, 0, none⟩) n n) (List.replicate n z) := by
  have h := hc.out
  subst h
  have := World.ownsRow_lit (size := 1) (e := e) w (Array.replicate n z) n hB (by unfold maxLen; omega) (by simp)
  simpa [Own] using this

theorem two_new (w : World) (o1 o2 : Obj) : ((w.alloc o1).alloc o2).drew.heap[w.heap.size]? = some o1 ∧ ((w.alloc o1).alloc o2).drew.heap[w.heap.size + 1]? = some o2 := by
  refine ⟨?_, ?_⟩
  · show ((w.alloc o1).alloc o2).heap[w.heap.size]? = _
    rw [heap_alloc_old _ _ (by simp)]; exact heap_alloc_new _ _
  · have h := heap_alloc_new (w.alloc o1) o2
    rw [World.size_alloc] at h
    exact h
theorem heap_drew (w : World) : w.drew.heap = w.heap := rfl
theorem Own.drew {w : World} {B : Nat} {e : TypeId} {v : Value} {xs : List Value} (h : Own w B e v xs) : Own w.drew B e v xs := h
theorem Own.alloc {w : World} {B : Nat} {e : TypeId} {v : Value} {xs : List Value} (h : Own w B e v xs) (o : Obj) : Own (w.alloc o) B e v xs := World.ownsRow.alloc h o
theorem Own.grown {w w' : World} {B : Nat} {e : TypeId} {v : Value} {xs : List Value} {row : Option Nat} (h : Own w B e v xs) (hg : w.grownBy w' row) (hr : ∀ k, row = some k → k < B) : Own w' B e v xs := by
  refine World.ownsRow.kept h hg ?_
  cases hv : v.ownBlock with
  | none => exact .inl rfl
  | some k =>
    right
    intro e
    have := hr k e.symm
    have := (World.ownsRow.lt h k hv).1
    omega
theorem Own.below {w w' : World} {B : Nat} {e : TypeId} {v : Value} {xs : List Value} (h : Own w B e v xs) (hb : Below w.heap.size w w') : Own w' B e v xs :=
  h.grown (row := none) ⟨hb.os, hb.tape, hb.output, hb.size, fun k hk _ => hb.block k hk⟩ (by simp)
theorem Own.drewN {w : World} {B : Nat} {e : TypeId} {v : Value} {xs : List Value} (h : Own w B e v xs) (n : Nat) : Own (w.drewN n) B e v xs := h
theorem cell_far {w : World} {b o b' o' : Nat} {s : Option Nat} {v x : Value} (h : w.cell? ⟨b', o', none⟩ = some x) (hne : b' ≠ b) : (w.setCell ⟨b, o, s⟩ v).cell? ⟨b', o', none⟩ = some x := by
  rw [← h]; exact World.cell?_of_block (heap_setCell_other w ⟨b, o, s⟩ b' v hne)
theorem Own.setCell {w : World} {B : Nat} {e : TypeId} {v : Value} {xs : List Value} (h : Own w B e v xs) {b o : Nat} {s : Option Nat} (hb : b < B) (u : Value) : Own (w.setCell ⟨b, o, s⟩ u) B e v xs :=
  h.grown (row := some b) ⟨rfl, rfl, rfl, by simp, fun k _ hk => heap_setCell_other w ⟨b, o, s⟩ k u (fun e => hk (by simp [e]))⟩ (by simp; exact hb)
/-- The block of a slice of the call's own. -/
theorem Own.block {w : World} {B : Nat} {e : TypeId} {g n c : Nat} {xs : List Value} (h : Own w B e (.slice (some ⟨g, 0, none⟩) n c) xs) :
    ∃ cur, w.heap[g]? = some (.cells cur e (0, 0)) ∧ B ≤ g ∧ n = xs.length ∧ cur.toList.take n = xs := by
  obtain ⟨h0, h⟩ := h
  simp only [Nat.mul_one] at h0 h
  rcases h with ⟨h, _⟩ | ⟨g', cap, cur, h, hb, hg, h1, h2, h3, h4⟩
  · simp at h
  · simp only [Value.slice.injEq, Option.some.injEq, Addr.mk.injEq, and_true, true_and] at h
    obtain ⟨rfl, hn, rfl⟩ := h
    exact ⟨cur, hg, hb, hn, by rw [hn]; exact h4⟩
theorem Own.cell {w : World} {B : Nat} {e : TypeId} {g n c : Nat} {xs : List Value} (h : Own w B e (.slice (some ⟨g, 0, none⟩) n c) xs) (j : Nat) (hj : j < n) :
    w.cell? ⟨g, j, none⟩ = xs[j]? ∧ w.frozen? ⟨g, j, none⟩ = false ∧ g < w.heap.size := by
  obtain ⟨cur, hg, _, hn, ht⟩ := h.block
  refine ⟨?_, frozen_of_row w g j _ _ hg, lt_of_heap hg⟩
  subst hn
  rw [cell_of_row w g j cur e (0, 0) hg]
  have := take_getElem ht j hj
  rw [List.getElem?_eq_getElem hj, ← this]; simp
theorem Own.there {w : World} {B : Nat} {e : TypeId} {g n c : Nat} {xs : List Value} (h : Own w B e (.slice (some ⟨g, 0, none⟩) n c) xs) (j : Nat) (hj : j < n) :
    ∃ u, w.cell? ⟨g, j, none⟩ = some u ∧ w.frozen? ⟨g, j, none⟩ = false ∧ g < w.heap.size := by
  obtain ⟨h1, h2, h3⟩ := h.cell j hj
  obtain ⟨_, _, _, hn, _⟩ := h.block
  exact ⟨xs[j]'(by omega), by rw [h1]; exact List.getElem?_eq_getElem (by omega), h2, h3⟩
theorem Own.stored {w : World} {B : Nat} {e : TypeId} {g n c : Nat} {xs : List Value} (h : Own w B e (.slice (some ⟨g, 0, none⟩) n c) xs) (j : Nat) (u : Value) :
    Own (w.setCell ⟨g, j, none⟩ u) B e (.slice (some ⟨g, 0, none⟩) n c) (xs.set j u) := by
  obtain ⟨cur, hg, _, hn, ht⟩ := h.block
  subst hn
  have := (World.ownsRow.stored h j u).1
  simpa [Own] using this

/-- A list that is filled from the front. -/
def fillL {α : Type} (f : Nat → α) (z : α) (n k : Nat) : List α := (List.range n).map fun i => if i < k then f i else z
theorem fillL_length {α : Type} (f : Nat → α) (z : α) (n k : Nat) : (fillL f z n k).length = n := by simp [fillL]
theorem fillL_zero {α : Type} (f : Nat → α) (z : α) (n : Nat) : fillL f z n 0 = List.replicate n z := by
  apply List.ext_getElem <;> simp [fillL]
theorem fillL_full {α : Type} (f : Nat → α) (z : α) (n : Nat) : fillL f z n n = (List.range n).map f := by
  unfold fillL
  refine List.map_congr_left fun i hi => ?_
  rw [if_pos (by simpa using hi)]
theorem fillL_set {α : Type} (f : Nat → α) (z : α) (n k : Nat) : (fillL f z n k).set k (f k) = fillL f z n (k + 1) := by
  apply List.ext_getElem
  · simp [fillL]
  · intro i h1 h2
    simp only [fillL, List.getElem_set, List.getElem_map, List.getElem_range]
    by_cases e : k = i
    · subst e; simp
    · rw [if_neg e]
      by_cases h : i < k
      · rw [if_pos h, if_pos (by omega)]
      · rw [if_neg h, if_neg (by omega)]
theorem fillL_map {α β : Type} (f : Nat → α) (z : α) (n k : Nat) (q : α → β) : (fillL f z n k).map q = fillL (fun i => q (f i)) (q z) n k := by
  simp only [fillL, List.map_map]
  refine List.map_congr_left fun i _ => ?_
  simp only [Function.comp]; split <;> rfl
theorem fillL_get {α : Type} (f : Nat → α) (z : α) (n k j : Nat) (hj : j < n) (hk : k ≤ j) : (fillL f z n k)[j]? = some z := by
  simp [fillL, hj]; omega

theorem Own.mono {w : World} {B B' : Nat} {e : TypeId} {v : Value} {xs : List Value} (h : Own w B e v xs) (hB : B' ≤ B) : Own w B' e v xs := by
  refine ⟨h.1, ?_⟩
  rcases h.2 with h | ⟨g, cap, cur, hv, hb, r⟩
  · exact .inl h
  · exact .inr ⟨g, cap, cur, hv, by omega, r⟩
theorem own_from {w : World} {B B' : Nat} {e : TypeId} {g n c : Nat} {xs : List Value} (h : Own w B e (.slice (some ⟨g, 0, none⟩) n c) xs) (hg : B' ≤ g) : Own w B' e (.slice (some ⟨g, 0, none⟩) n c) xs := by
  refine ⟨h.1, ?_⟩
  rcases h.2 with h | ⟨g', cap, cur, hv, hb, r⟩
  · exact .inl h
  · refine .inr ⟨g', cap, cur, hv, ?_, r⟩
    simp at hv; omega
theorem Own.sl {w : World} {B : Nat} {e : TypeId} {v : Value} {xs : List Value} (h : Own w B e v xs) : Sl w v xs := (Ow.of_owns h).sl
theorem Own.nil (w : World) (B : Nat) (e : TypeId) : Own w B e (.slice none 0 0) [] := World.ownsRow_nil w B e 1

theorem grown_trans {a b c : World} {row : Option Nat} (h : a.grownBy b row) (k : b.grownBy c row) : a.grownBy c row :=
  ⟨k.os.trans h.os, k.tape.trans h.tape, k.output.trans h.output, Nat.le_trans h.size k.size, fun i hi hne => (k.block i (Nat.lt_of_lt_of_le hi h.size) hne).trans (h.block i hi hne)⟩
/-- Writing to a block that was not there is no writing. -/
theorem grown_new {a b c : World} {row row' : Option Nat} (h : a.grownBy b row) (k : b.grownBy c row') (hr : ∀ i, row' = some i → row' ≠ row → a.heap.size ≤ i) : a.grownBy c row :=
  ⟨k.os.trans h.os, k.tape.trans h.tape, k.output.trans h.output, Nat.le_trans h.size k.size, fun i hi hne => (k.block i (Nat.lt_of_lt_of_le hi h.size) (by
      intro e
      by_cases e2 : row' = row
      · exact hne (e.trans e2)
      · have := hr i e.symm e2; omega)).trans (h.block i hi hne)⟩
theorem grown_alloc {w w' : World} {row : Option Nat} (h : w.grownBy w' row) (o : Obj) : w.grownBy (w'.alloc o) row := grown_trans h (World.grownBy_alloc w' o row)
theorem grown_refl (w : World) (row : Option Nat) : w.grownBy w row := ⟨rfl, rfl, rfl, Nat.le_refl _, fun _ _ _ => rfl⟩
theorem grown_setCell (w : World) (b o : Nat) (s : Option Nat) (v : Value) : w.grownBy (w.setCell ⟨b, o, s⟩ v) (some b) :=
  ⟨rfl, rfl, rfl, by simp, fun k _ hk => heap_setCell_other w ⟨b, o, s⟩ k v (fun e => hk (by simp [e]))⟩
theorem grown_drewN {w w' : World} {row : Option Nat} (h : w.grownBy w' row) (n : Nat) : w.grownBy (w'.drewN n) row := ⟨h.os, h.tape, h.output, h.size, h.block⟩
theorem grown_drew {w w' : World} {row : Option Nat} (h : w.grownBy w' row) : w.grownBy w'.drew row := ⟨h.os, h.tape, h.output, h.size, h.block⟩
theorem grown_below {w w' : World} (h : Below w.heap.size w w') (row : Option Nat) : w.grownBy w' row := ⟨h.os, h.tape, h.output, h.size, fun i hi _ => h.block i hi⟩
theorem below_grown {w w' : World} {row : Option Nat} {B : Nat} (h : w.grownBy w' row) (hB : B ≤ w.heap.size) (hr : ∀ i, row = some i → B ≤ i) : Below B w w' :=
  ⟨h.os, h.tape, h.output, h.size, fun i hi => h.block i (by omega) (by intro e; have := hr i e.symm; omega)⟩

theorem bel_dn {B : Nat} {a w : World} (h : Below B a w) (n : Nat) : Below B a (w.drewN n) := ⟨h.os, h.tape, h.output, h.size, h.block⟩

/-- A block of three cells that is not frozen. -/
theorem three_cells {w : World} {g : Nat} {x y z : Value} {t : TypeId} (h : w.heap[g]? = some (.cells #[x, y, z] t (0, 0))) :
    w.cell? ⟨g, 0, none⟩ = some x ∧ w.cell? ⟨g, 1, none⟩ = some y ∧ w.cell? ⟨g, 2, none⟩ = some z ∧ w.frozen? ⟨g, 0, none⟩ = false ∧ w.frozen? ⟨g, 1, none⟩ = false ∧ w.frozen? ⟨g, 2, none⟩ = false :=
  ⟨by rw [cell_of_row w g 0 _ _ _ h]; rfl, by rw [cell_of_row w g 1 _ _ _ h]; rfl, by rw [cell_of_row w g 2 _ _ _ h]; rfl, frozen_of_row w g 0 _ _ h, frozen_of_row w g 1 _ _ h, frozen_of_row w g 2 _ _ h⟩

/-- The cells of two blocks. -/
theorem six_cells {w : World} {g g' : Nat} {x y z x' y' z' : Value} {t t' : TypeId} (h : w.heap[g]? = some (.cells #[x, y, z] t (0, 0))) (k : w.heap[g']? = some (.cells #[x', y', z'] t' (0, 0))) :
    w.cell? ⟨g, 0, none⟩ = some x ∧ w.cell? ⟨g, 1, none⟩ = some y ∧ w.cell? ⟨g, 2, none⟩ = some z ∧ w.cell? ⟨g', 0, none⟩ = some x' ∧ w.cell? ⟨g', 1, none⟩ = some y' ∧ w.cell? ⟨g', 2, none⟩ = some z' :=
  ⟨(three_cells h).1, (three_cells h).2.1, (three_cells h).2.2.1, (three_cells k).1, (three_cells k).2.1, (three_cells k).2.2.1⟩
/-- Three stores into a block of three cells. -/
theorem put3 {w : World} {g : Nat} {x y z x' y' z' : Value} {t : TypeId} (h : w.heap[g]? = some (.cells #[x, y, z] t (0, 0))) :
    (((w.setCell ⟨g, 0, none⟩ x').setCell ⟨g, 1, none⟩ y').setCell ⟨g, 2, none⟩ z').heap[g]? = some (.cells #[x', y', z'] t (0, 0)) := by
  have h1 := heap_setCell_same w g 0 _ t x' h
  have h2 := heap_setCell_same _ g 1 _ t y' h1
  have h3 := heap_setCell_same _ g 2 _ t z' h2
  rw [h3]; rfl

/-- A list of bools does not lie in a block that holds an empty region. -/
theorem bl_put3 {w : World} {A : Nat} {s : Value} {l : List Bool} {t : TypeId} (h : Bl w s l) (hA : w.heap[A]? = some (.cells #[.int .i64 0, .int .i64 0, .slice none 0 0] t (0, 0))) (x y z : Value) :
    Bl (((w.setCell ⟨A, 0, none⟩ x).setCell ⟨A, 1, none⟩ y).setCell ⟨A, 2, none⟩ z) s l := by
  obtain ⟨a, cap, rfl, h1, h2, h3⟩ := h
  refine ⟨a, cap, rfl, h1, h2, ?_⟩
  rcases h3 with h3 | ⟨b, off, rfl, hl, hc⟩
  · exact .inl h3
  · by_cases h0 : l.map Value.bool = []
    · exact .inl h0
    have hpos : 0 < (l.map Value.bool).length := List.length_pos_iff.2 h0
    have hne : b ≠ A := by
      intro e; subst e
      have := hc 0 hpos
      rw [cell_of_row w b (off + 0) _ _ _ hA] at this
      simp only [List.getElem_map, Nat.add_zero] at this
      match off, this with
      | 0, this => simp at this
      | 1, this => simp at this
      | 2, this => simp at this
      | n + 3, this => simp at this
    refine .inr ⟨b, off, rfl, by simpa using hl, fun i hi => ?_⟩
    exact cell_far (cell_far (cell_far (hc i hi) hne) hne) hne

theorem reg_done {w w' : World} {A : Nat} {s : Value} {x y : Int} {l : List Bool} {t : TypeId} (hb : Below w.heap.size w w') (hs : Bl w' s l)
    (hA : w'.heap[A]? = some (.cells #[.int .i64 0, .int .i64 0, .slice none 0 0] t (0, 0))) (hwA : w.heap.size ≤ A) :
    RetR ⟨x, y, l⟩ w (.returned (.agg #[.int .i64 x, .int .i64 y, s])) (((w'.setCell ⟨A, 0, none⟩ (.int .i64 x)).setCell ⟨A, 1, none⟩ (.int .i64 y)).setCell ⟨A, 2, none⟩ s) :=
  ⟨_, rfl, ⟨_, rfl, bl_put3 hs hA _ _ _⟩, ((hb.setCell (by simpa using hwA) _).setCell (by simpa using hwA) _).setCell (by simpa using hwA) _⟩
theorem regB_done {w w' : World} {A : Nat} {s : Value} {x y : Int} {l : List Bool} {t : TypeId} {c : Bool} (hb : Below w.heap.size w w') (hs : Bl w' s l)
    (hA : w'.heap[A]? = some (.cells #[.int .i64 0, .int .i64 0, .slice none 0 0] t (0, 0))) (hwA : w.heap.size ≤ A) :
    RetRB (⟨x, y, l⟩, c) w (.returned (.tuple #[.agg #[.int .i64 x, .int .i64 y, s], .bool c])) (((w'.setCell ⟨A, 0, none⟩ (.int .i64 x)).setCell ⟨A, 1, none⟩ (.int .i64 y)).setCell ⟨A, 2, none⟩ s) :=
  ⟨_, rfl, ⟨_, rfl, bl_put3 hs hA _ _ _⟩, ((hb.setCell (by simpa using hwA) _).setCell (by simpa using hwA) _).setCell (by simpa using hwA) _⟩

end Domi
