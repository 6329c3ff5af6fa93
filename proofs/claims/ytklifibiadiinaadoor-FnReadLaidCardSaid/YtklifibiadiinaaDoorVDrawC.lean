/- Walks: l20Region. -/
import Derived.Test.YtklifibiadiinaaDoorVDrawB
set_option linter.unusedVariables false
namespace Go.Proofs.YtklifibiadiinaaDoor
open Go.RowKit Domi

/-- What is drawn as a region is small. -/
def RegSmall (r : Reg) : Prop := 0 ≤ r.wide ∧ r.wide ≤ 6 ∧ 0 ≤ r.tall ∧ r.tall ≤ 6 ∧ r.cells.length ≤ 37
def RegionN (w : World) (b : Nat) (sl : Value) (ys : List Int) (N : Nat) (e : Ending) (w' : World) : Prop :=
  ∃ s r, e = .returned (.agg #[.int .i64 r.wide, .int .i64 r.tall, s]) ∧ Own w' w.heap.size 4 s (r.cells.map Value.bool) ∧ RegSmall r ∧ w.grownBy w' (some b) ∧ RdN w' b sl ys (N + 100)
theorem RegionN.reg {w : World} {b : Nat} {sl : Value} {ys : List Int} {N : Nat} {e : Ending} {w' : World} (h : RegionN w b sl ys N e w') :
    ∃ v r, e = .returned v ∧ RegV w' v r ∧ RegSmall r ∧ w.grownBy w' (some b) ∧ RdN w' b sl ys (N + 100) := by
  obtain ⟨s, r, rfl, ho, h1, h2, h3⟩ := h
  exact ⟨_, r, rfl, ⟨s, rfl, ho.sl⟩, h1, h2, h3⟩

theorem rdN_grown {w w' : World} {b : Nat} {sl : Value} {ys : List Int} {N : Nat} {row : Option Nat} (h : RdN w b sl ys N) (hg : w.grownBy w' row) (hne : some b ≠ row) (hr : ys = [] ∨ sl.ownBlock = none ∨ sl.ownBlock ≠ row) : RdN w' b sl ys N := by
  obtain ⟨p, hp, h⟩ := h
  refine ⟨p, hp, ⟨by rw [hg.block b (lt_of_heap h.heap) hne]; exact h.heap, ?_, h.apart, h.few, h.range, h.count⟩⟩
  rcases hr with rfl | ha
  · obtain ⟨a, cap, e, h1, h2, _⟩ := h.bytes
    exact ⟨a, cap, e, h1, h2, .inl rfl⟩
  · exact Sl.grown h.bytes hg ha
theorem rdN_alloc {w : World} {b : Nat} {sl : Value} {ys : List Int} {N : Nat} (h : RdN w b sl ys N) (o : Obj) : RdN (w.alloc o) b sl ys N :=
  rdN_grown h (World.grownBy_alloc w o none) (by simp) (.inr (by cases h : sl.ownBlock <;> simp))
theorem rdN_drew {w : World} {b : Nat} {sl : Value} {ys : List Int} {N : Nat} (h : RdN w b sl ys N) : RdN w.drew b sl ys N := rdN_grown (row := none) h ⟨rfl, rfl, rfl, Nat.le_refl _, fun _ _ _ => rfl⟩ (by simp) (.inr (by cases h : sl.ownBlock <;> simp))
theorem rdN_mono {w : World} {b : Nat} {sl : Value} {ys : List Int} {N M : Nat} (h : RdN w b sl ys N) (hM : N ≤ M) : RdN w b sl ys M := by
  obtain ⟨p, hp, h⟩ := h; exact ⟨p, by omega, h⟩

/-- Ahead of x: the block of the result is there. -/
structure CutA (w : World) (b : Nat) (sl : Value) (ys : List Int) (N : Nat) (x y : Int) (wx : World) : Prop where
  g : w.grownBy wx (some b)
  r : RdN wx b sl ys N
  a : wx.heap[w.heap.size]? = some (.cells #[.int .i64 0, .int .i64 0, .slice none 0 0] 25 (0, 0))
/-- x is there, with both sides. -/
def CutB (w : World) (b : Nat) (sl : Value) (ys : List Int) (N : Nat) (x : Int) (X : Nat) (wx : World) : Prop :=
  ∃ y : Int, 1 ≤ y ∧ y ≤ 6 ∧ x * y ≤ 24 ∧ w.grownBy wx (some b) ∧ RdN wx b sl ys N ∧
    wx.heap[w.heap.size]? = some (.cells #[.int .i64 0, .int .i64 0, .slice none 0 0] 25 (0, 0)) ∧ w.heap.size < X ∧
    wx.heap[X]? = some (.cells #[.int .i64 x, .int .i64 y, .slice none 0 0] 25 (0, 0))

theorem cut24 {a c : Int} (h0 : 0 ≤ a) (h5 : a ≤ 5) (g0 : 0 ≤ c) (g5 : c ≤ 5) (h : 24 < (1 + a) * (1 + c)) : 1 ≤ 24 / (1 + a) ∧ 24 / (1 + a) ≤ 6 ∧ (1 + a) * (24 / (1 + a)) ≤ 24 := by
  have : a = 0 ∨ a = 1 ∨ a = 2 ∨ a = 3 ∨ a = 4 ∨ a = 5 := by omega
  rcases this with rfl | rfl | rfl | rfl | rfl | rfl <;> first | omega | decide
theorem cutB_mk' {w w2 : World} {b : Nat} {sl : Value} {ys : List Int} {N : Nat} {x y : Int} (C : CutA w b sl ys N x y w2) (h1 : 1 ≤ y) (h6 : y ≤ 6) (h : x * y ≤ 24) :
    CutB w b sl ys N x w2.heap.size (w2.alloc (.cells #[.int .i64 x, .int .i64 y, .slice none 0 0] 25)) :=
  ⟨y, h1, h6, h, grown_alloc C.g _, rdN_alloc C.r _, by rw [heap_alloc_old _ _ (lt_of_heap C.a)]; exact C.a, lt_of_heap C.a, heap_alloc_new w2 _⟩

/-- At the head of the first loop's round. -/
def LoopC (w : World) (b : Nat) (sl : Value) (ys : List Int) (N : Nat) (x y : Int) (X : Nat) (i : Value) (wr : World) : Prop :=
  ∃ (k : Nat) (v : Value) (l : List Bool), i = .int .i64 k ∧ l.length = k ∧ (k : Int) ≤ x * y ∧ w.grownBy wr (some b) ∧ RdN wr b sl ys (N + k) ∧
    wr.heap[w.heap.size]? = some (.cells #[.int .i64 0, .int .i64 0, .slice none 0 0] 25 (0, 0)) ∧
    wr.heap[X]? = some (.cells #[.int .i64 x, .int .i64 y, v] 25 (0, 0)) ∧ Own wr (X + 1) 4 v (l.map Value.bool) ∧ X < wr.heap.size

theorem loopC_start {w wc w3 : World} {b : Nat} {sl : Value} {ys : List Int} {N : Nat} {x y : Int} {X : Nat} (hg3 : wc.grownBy w3 (some b)) (hr3 : RdN w3 b sl ys (N + 2 + 1)) (hg : w.grownBy wc (some b))
    (hA : wc.heap[w.heap.size]? = some (.cells #[.int .i64 0, .int .i64 0, .slice none 0 0] 25 (0, 0)))
    (hX : wc.heap[X]? = some (.cells #[.int .i64 x, .int .i64 y, .slice none 0 0] 25 (0, 0))) (hlt : w.heap.size < X) (hb : b < w.heap.size) (hxy : 0 ≤ x * y) :
    LoopC w b sl ys (N + 3) x y X (.int .i64 0) w3 :=
  ⟨0, .slice none 0 0, [], rfl, rfl, hxy, grown_trans hg hg3, hr3, by rw [hg3.block _ (lt_of_heap hA) (by simp; omega)]; exact hA, by rw [hg3.block _ (lt_of_heap hX) (by simp; omega)]; exact hX, Own.nil _ _ _,
    Nat.lt_of_lt_of_le (lt_of_heap hX) hg3.size⟩

theorem loopC_app {wr w4 w5 : World} {b X : Nat} {x y : Int} {v : Value} {l : List Bool} {u : Value} {g cap : Nat} (ho : Own wr (X + 1) 4 v (l.map Value.bool))
    (hX : wr.heap[X]? = some (.cells #[.int .i64 x, .int .i64 y, v] 25 (0, 0))) (hg4 : wr.drew.grownBy w4 (some b)) {o : Obj} (A5 : App (w4.alloc o) (X + 1) 4 v (l.map Value.bool) u g cap w5) (hXl : X < wr.heap.size) (hXb : X ≠ b) :
    w5.heap[X]? = some (.cells #[.int .i64 x, .int .i64 y, v] 25 (0, 0)) := by
  have h4 : w4.heap[X]? = wr.heap[X]? := hg4.block X hXl (by simp; omega)
  have s4 : X < w4.heap.size := Nat.lt_of_lt_of_le hXl hg4.size
  have h5 := A5.grown.block X (by simp; omega) (by intro e; have := (World.ownsRow.lt ho X e.symm).1; omega)
  rw [h5, heap_alloc_old _ _ s4, h4]; exact hX

theorem rd_low {w : World} {b : Nat} {sl : Value} {ys : List Int} {N : Nat} (h : RdN w b sl ys N) : ys = [] ∨ ∀ k, sl.ownBlock = some k → k < w.heap.size := by
  obtain ⟨p, hp, h⟩ := h
  obtain ⟨a, cap, e, h1, h2, h3⟩ := h.bytes
  rcases h3 with h3 | ⟨b', off, rfl, hl, _⟩
  · exact .inl (by simpa using h3)
  · exact .inr fun k hk => by rw [e] at hk; simp [Value.ownBlock] at hk; omega

theorem loopC_next {w wr w4 w5 : World} {b : Nat} {sl : Value} {ys : List Int} {N M : Nat} {x y : Int} {X k : Nat} {v : Value} {l : List Bool} {c : Bool} {g cap : Nat}
    (h0 : RdN w b sl ys M) (hlt : w.heap.size < X) (hb : b < w.heap.size) (hg : w.grownBy wr (some b)) (hr4 : RdN w4 b sl ys (N + k + 1))
    (hA : wr.heap[w.heap.size]? = some (.cells #[.int .i64 0, .int .i64 0, .slice none 0 0] 25 (0, 0)))
    (hXl : X < wr.heap.size) (ho : Own wr (X + 1) 4 v (l.map Value.bool)) (hg4 : wr.drew.grownBy w4 (some b))
    (A5 : App (w4.alloc (.cells #[.bool c] 4)) (X + 1) 4 v (l.map Value.bool) (.bool c) g cap w5)
    (E5 : w5.heap[X]? = some (.cells #[.int .i64 x, .int .i64 y, v] 25 (0, 0))) (hl : l.length = k) (hk : ((k + 1 : Nat) : Int) ≤ x * y) :
    LoopC w b sl ys N x y X (.int .i64 ((k : Int) + 1)) (w5.setCell ⟨X, 2, none⟩ (.slice (some ⟨g, 0, none⟩) (l.length + 1) cap)) := by
  have s4 : wr.heap.size ≤ w4.heap.size := hg4.size
  have so : ∀ i, v.ownBlock = some i → X + 1 ≤ i := fun i hi => (World.ownsRow.lt ho i hi).1
  have g5 : w.grownBy w5 (some b) := grown_new (grown_alloc (grown_trans (grown_drew hg) hg4) _) A5.grown (fun i hi _ => by have := so i hi; omega)
  have s5 : (w4.alloc (.cells #[.bool c] 4)).heap.size ≤ w5.heap.size := A5.grown.size
  simp at s5
  have lenE : (l.map Value.bool ++ [Value.bool c]).length = l.length + 1 := by simp
  refine ⟨k + 1, .slice (some ⟨g, 0, none⟩) (l.length + 1) cap, l ++ [c], by simp, by simp [hl], hk, ?_, ?_, ?_, ?_, ?_, by simp; omega⟩
  · exact grown_new g5 (grown_setCell w5 X 2 none _) (fun i hi _ => by simp at hi; omega)
  · refine rdN_grown (row := some X) (rdN_grown (rdN_alloc hr4 _) A5.grown ?_ ?_) (grown_setCell w5 X 2 none _) (by simp; omega) ?_
    · intro e; have := so b e.symm; omega
    · rcases rd_low h0 with h | h
      · exact .inl h
      · cases hs : sl.ownBlock with
        | none => exact .inr (.inl rfl)
        | some i => exact .inr (.inr (by intro e; have := so i e.symm; have := h i hs; omega))
    · rcases rd_low h0 with h | h
      · exact .inl h
      · cases hs : sl.ownBlock with
        | none => exact .inr (.inl rfl)
        | some i => exact .inr (.inr (by intro e; simp at e; have := h i hs; omega))
  · have h1 := A5.block (Own.alloc (Own.grown ho.drew hg4 (by simp; omega)) _) (X := w.heap.size) (by omega) (by simp; omega)
    rw [heap_setCell_other _ _ _ _ (by simp; omega), h1, heap_alloc_old _ _ (by omega), hg4.block _ (by show _ < wr.heap.size; omega) (by simp; omega)]
    exact hA
  · rw [heap_setCell_same w5 X 2 _ _ _ E5]; rfl
  · have := A5.own
    unfold Own
    rw [List.map_append, List.map_cons, List.map_nil]
    have h2 := Own.setCell (e := 4) (B := X + 1) (b := X) (o := 2) (s := none) (v := .slice (some ⟨g, 0, none⟩) (l.length + 1) cap) (xs := l.map Value.bool ++ [Value.bool c]) (w := w5) (by simpa [Own] using this) (by omega) (.slice (some ⟨g, 0, none⟩) (l.length + 1) cap)
    exact h2

/-- Both blocks, as they are behind the first loop. -/
structure Far (w : World) (b : Nat) (x y : Int) (X : Nat) (v : Value) (l : List Bool) (wr : World) : Prop where
  g : w.grownBy wr (some b)
  a : wr.heap[w.heap.size]? = some (.cells #[.int .i64 0, .int .i64 0, .slice none 0 0] 25 (0, 0))
  x : wr.heap[X]? = some (.cells #[.int .i64 x, .int .i64 y, v] 25 (0, 0))
  o : Own wr (X + 1) 4 v (l.map Value.bool)
  lt : w.heap.size < X
  b : b < w.heap.size
theorem loopC_far {w wr w4 : World} {b : Nat} {x y : Int} {X : Nat} {v : Value} {l : List Bool} (hg : w.grownBy wr (some b))
    (hA : wr.heap[w.heap.size]? = some (.cells #[.int .i64 0, .int .i64 0, .slice none 0 0] 25 (0, 0)))
    (hX : wr.heap[X]? = some (.cells #[.int .i64 x, .int .i64 y, v] 25 (0, 0))) (ho : Own wr (X + 1) 4 v (l.map Value.bool)) (hg4 : wr.grownBy w4 (some b))
    (hlt : w.heap.size < X) (hb : b < w.heap.size) (hXl : X < wr.heap.size) : Far w b x y X v l w4 :=
  ⟨grown_trans hg hg4, by rw [hg4.block _ (by omega) (by simp; omega)]; exact hA, by rw [hg4.block _ hXl (by simp; omega)]; exact hX, Own.grown ho hg4 (by simp; omega), hlt, hb⟩

theorem region_done {w wr : World} {b : Nat} {sl : Value} {ys : List Int} {N M K : Nat} {x y : Int} {X : Nat} {v : Value} {l : List Bool} (hg : w.grownBy wr (some b)) (ho : Own wr (X + 1) 4 v (l.map Value.bool)) (hlt : w.heap.size < X) (hb : b < w.heap.size) (h0 : RdN w b sl ys K) (hr : RdN wr b sl ys M) (hM : M ≤ N + 100)
    (hx0 : 0 ≤ x) (hx6 : x ≤ 6) (hy0 : 0 ≤ y) (hy6 : y ≤ 6) (hl : l.length ≤ 37) :
    RegionN w b sl ys N (.returned (.agg #[.int .i64 x, .int .i64 y, v])) (((wr.setCell ⟨w.heap.size, 0, none⟩ (.int .i64 x)).setCell ⟨w.heap.size, 1, none⟩ (.int .i64 y)).setCell ⟨w.heap.size, 2, none⟩ v) := by
  have g1 : ∀ (u : World) (o : Nat) (z : Value), w.grownBy u (some b) → w.grownBy (u.setCell ⟨w.heap.size, o, none⟩ z) (some b) := fun u o z h => grown_new h (grown_setCell u _ o none z) (fun i hi _ => by simp at hi; omega)
  have r1 : ∀ (u : World) (o : Nat) (z : Value), RdN u b sl ys M → RdN (u.setCell ⟨w.heap.size, o, none⟩ z) b sl ys M := fun u o z h => by
    refine rdN_grown h (grown_setCell u _ o none z) (by simp; omega) ?_
    rcases rd_low h0 with h | h
    · exact .inl h
    · cases hs : sl.ownBlock with
      | none => exact .inr (.inl rfl)
      | some i => exact .inr (.inr (by intro e; simp at e; have := h i hs; omega))
  have o1 : ∀ (u : World) (o : Nat) (z : Value), Own u (X + 1) 4 v (l.map Value.bool) → Own (u.setCell ⟨w.heap.size, o, none⟩ z) (X + 1) 4 v (l.map Value.bool) := fun u o z h => Own.setCell h (by omega) z
  refine ⟨_, ⟨x, y, l⟩, rfl, Own.mono (o1 _ _ _ (o1 _ _ _ (o1 _ _ _ ho))) (by omega), ⟨hx0, hx6, hy0, hy6, hl⟩, g1 _ _ _ (g1 _ _ _ (g1 _ _ _ hg)), rdN_mono (r1 _ _ _ (r1 _ _ _ (r1 _ _ _ hr))) hM⟩

theorem far_step {w wr w4 : World} {b : Nat} {x y : Int} {X : Nat} {v : Value} {l : List Bool} (F : Far w b x y X v l wr) (hg4 : wr.grownBy w4 (some b)) : Far w b x y X v l w4 :=
  loopC_far F.g F.a F.x F.o hg4 F.lt F.b (lt_of_heap F.x)
/-- The same but for the slice, which the append may have moved. -/
structure FarApp (w : World) (b : Nat) (x y : Int) (X : Nat) (v : Value) (l : List Bool) (c : Bool) (g cap : Nat) (wr : World) : Prop where
  gr : w.grownBy wr (some b)
  a : wr.heap[w.heap.size]? = some (.cells #[.int .i64 0, .int .i64 0, .slice none 0 0] 25 (0, 0))
  x : wr.heap[X]? = some (.cells #[.int .i64 x, .int .i64 y, v] 25 (0, 0))
  o : Own wr (X + 1) 4 (.slice (some ⟨g, 0, none⟩) (l.length + 1) cap) ((l ++ [c]).map Value.bool)
theorem far_app {w w5 w6 : World} {b : Nat} {x y : Int} {X : Nat} {v : Value} {l : List Bool} {c : Bool} {g cap : Nat} {o : Obj} (F : Far w b x y X v l w5)
    (A : App (w5.alloc o) (X + 1) 4 v (l.map Value.bool) (.bool c) g cap w6) : FarApp w b x y X v l c g cap w6 := by
  have hx := lt_of_heap F.x
  have ha := lt_of_heap F.a
  have hlt := F.lt
  have ho := Own.alloc F.o o
  refine ⟨grown_new (grown_alloc F.g _) A.grown (fun i hi _ => by have := (World.ownsRow.lt ho i hi).1; omega), ?_, ?_, ?_⟩
  · rw [A.block ho (by omega) (by simp; omega), heap_alloc_old _ _ ha]; exact F.a
  · rw [A.block ho (by omega) (by simp; omega), heap_alloc_old _ _ hx]; exact F.x
  · have := A.own
    simpa [Own] using this

theorem far_put {w w6 : World} {b : Nat} {x y : Int} {X : Nat} {v : Value} {l : List Bool} {c : Bool} {g cap : Nat} (F : FarApp w b x y X v l c g cap w6) (hlt : w.heap.size < X) (hb : b < w.heap.size) :
    Far w b x y X (.slice (some ⟨g, 0, none⟩) (l.length + 1) cap) (l ++ [c]) (w6.setCell ⟨X, 2, none⟩ (.slice (some ⟨g, 0, none⟩) (l.length + 1) cap)) := by
  refine ⟨grown_new F.gr (grown_setCell w6 X 2 none _) (fun i hi _ => by simp at hi; omega), ?_, ?_, Own.setCell F.o (by omega) _, hlt, hb⟩
  · rw [heap_setCell_other _ _ _ _ (by simp; omega)]; exact F.a
  · rw [heap_setCell_same w6 X 2 _ _ _ F.x]; rfl
theorem rd_put {w w5 w6 : World} {b : Nat} {sl : Value} {ys : List Int} {K M : Nat} {X : Nat} {v : Value} {xs : List Value} {u : Value} {g cap : Nat} {o : Obj} {v' : Value} (h0 : RdN w b sl ys K) (hr : RdN w5 b sl ys M)
    (ho : Own w5 (X + 1) 4 v xs) (A : App (w5.alloc o) (X + 1) 4 v xs u g cap w6) (hlt : w.heap.size < X) : RdN (w6.setCell ⟨X, 2, none⟩ v') b sl ys M := by
  have so : ∀ i, v.ownBlock = some i → X + 1 ≤ i := fun i hi => (World.ownsRow.lt ho i hi).1
  have hb : b < w.heap.size := by obtain ⟨p, _, h⟩ := h0; exact lt_of_heap h.heap
  refine rdN_grown (row := some X) (rdN_grown (rdN_alloc hr _) A.grown ?_ ?_) (grown_setCell w6 X 2 none _) (by simp; omega) ?_
  · intro e; have := so b e.symm; omega
  · rcases rd_low h0 with h | h
    · exact .inl h
    · cases hs : sl.ownBlock with
      | none => exact .inr (.inl rfl)
      | some i => exact .inr (.inr (by intro e; have := so i e.symm; have := h i hs; omega))
  · rcases rd_low h0 with h | h
    · exact .inl h
    · cases hs : sl.ownBlock with
      | none => exact .inr (.inl rfl)
      | some i => exact .inr (.inr (by intro e; simp at e; have := h i hs; omega))
theorem loopC_six {w wr : World} {b : Nat} {sl : Value} {ys : List Int} {K M : Nat} {x y : Int} {X : Nat} {v : Value} {l : List Bool} (h0 : RdN w b sl ys K) (F : Far w b x y X v l wr) (hr : RdN wr b sl ys M) :
    LoopC w b sl ys M 6 6 X (.int .i64 0) (((wr.setCell ⟨X, 0, none⟩ (.int .i64 6)).setCell ⟨X, 1, none⟩ (.int .i64 6)).setCell ⟨X, 2, none⟩ (.slice none 0 0)) := by
  have hlt := F.lt
  have hb := F.b
  have g1 : ∀ (u : World) (o : Nat) (z : Value), w.grownBy u (some b) → w.grownBy (u.setCell ⟨X, o, none⟩ z) (some b) := fun u o z h => grown_new h (grown_setCell u _ o none z) (fun i hi _ => by simp at hi; omega)
  have r1 : ∀ (u : World) (o : Nat) (z : Value), RdN u b sl ys M → RdN (u.setCell ⟨X, o, none⟩ z) b sl ys M := fun u o z h => by
    refine rdN_grown h (grown_setCell u _ o none z) (by simp; omega) ?_
    rcases rd_low h0 with h | h
    · exact .inl h
    · cases hs : sl.ownBlock with
      | none => exact .inr (.inl rfl)
      | some i => exact .inr (.inr (by intro e; simp at e; have := h i hs; omega))
  have hx := lt_of_heap F.x
  refine ⟨0, .slice none 0 0, [], rfl, rfl, by omega, g1 _ _ _ (g1 _ _ _ (g1 _ _ _ F.g)), r1 _ _ _ (r1 _ _ _ (r1 _ _ _ hr)), ?_, put3 F.x, Own.nil _ _ _, by simpa using hx⟩
  rw [heap_setCell_other _ _ _ _ (by simp; omega), heap_setCell_other _ _ _ _ (by simp; omega), heap_setCell_other _ _ _ _ (by simp; omega)]
  exact F.a

theorem loopE_next {w wr w6 : World} {b : Nat} {sl : Value} {ys : List Int} {K M j : Nat} {x y : Int} {X : Nat} {v : Value} {m : List Bool} {c : Bool} {g cap : Nat} {o : Obj} (h0 : RdN w b sl ys K) (F : Far w b x y X v m wr) (hr : RdN wr b sl ys (M + j))
    (A : App (wr.alloc o) (X + 1) 4 v (m.map Value.bool) (.bool c) g cap w6) (FA : FarApp w b x y X v m c g cap w6) (hm : m.length = j) (hj : ((j + 1 : Nat) : Int) ≤ x * y) :
    LoopC w b sl ys M x y X (.int .i64 ((j : Int) + 1)) (w6.setCell ⟨X, 2, none⟩ (.slice (some ⟨g, 0, none⟩) (m.length + 1) cap)) := by
  have G := far_put FA F.lt F.b
  have hx := lt_of_heap G.x
  exact ⟨j + 1, _, m ++ [c], by simp, by simp [hm], hj, G.g, rdN_mono (rd_put h0 hr F.o A F.lt) (by omega), G.a, G.x, G.o, hx⟩

set_option maxRecDepth 100000 in
set_option maxHeartbeats 1000000 in
theorem region_n (b : Nat) (sl : Value) (ys : List Int) (N : Nat) (n : Int) (w : World) (h : RdN w b sl ys N) (hN : N < 100000) (hn : n ≤ 1000000) (hb : b < w.heap.size) :
    Calls Tryd.prog 38 #[.pointer (some ⟨b, 0, none⟩), .int .i64 n] w (RegionN w b sl ys N) := by
  have H := Lib.hid h
  clear h
  go_enter Tryd.func38, Tryd.ntmps38
  go_wp2_with (fail)
  refine (pick_n b sl ys N 6 _ ?_ (by omega)).mono ?_
  · exact rdN_alloc H.out _
  rintro e w1 ⟨k1, rfl, ⟨hk1, hk1'⟩, hg1, hr1⟩
  have hk1'' : k1 ≤ 5 := by omega
  have hA1 : w1.heap[w.heap.size]? = some (.cells #[.int .i64 0, .int .i64 0, .slice none 0 0] 25 (0, 0)) := by
    rw [hg1.block _ (by simp) (by simp; omega)]; exact heap_alloc_new w _
  have G1 := Lib.hid hg1
  have R1 := Lib.hid hr1
  have A1 := Lib.hid hA1
  clear hg1 hr1 hA1 hk1'
  go_wp2_with (fail)
  refine (pick_n b sl ys (N + 1) 6 _ R1.out (by omega)).mono ?_
  rintro e w2 ⟨k2, rfl, ⟨hk2, hk2'⟩, hg2, hr2⟩
  have hk2'' : k2 ≤ 5 := by omega
  have C1 : CutA w b sl ys (N + 2) (1 + k1) (1 + k2) w2 := ⟨grown_trans (grown_trans (World.grownBy_alloc w _ _) G1.out) hg2, hr2, by rw [hg2.block _ (lt_of_heap A1.out) (by simp; omega)]; exact A1.out⟩
  clear hg2 hr2 hk2'
  have hm := area_in (x := 1 + k1) (y := 1 + k2) (by omega) (by omega)
  go_upto_if 21 with fail
  go_cut [] (fun wx => CutB w b sl ys (N + 2) (1 + k1) w2.heap.size wx)
  case first =>
    by_cases h24 : 24 < (1 + k1) * (1 + k2)
    · go_wp2
      go_meet
      obtain ⟨q1, q2, q3⟩ := cut24 hk1 hk1'' hk2 hk2'' h24
      exact cutB_mk' (y := 24 / (1 + k1)) ⟨C1.g, C1.r, C1.a⟩ q1 q2 q3
    · go_wp2
      go_meet
      exact cutB_mk' C1 (by omega) (by omega) (by omega)
  case rest =>
    obtain ⟨y, hy1, hy6, hxy, hg, hr, hA, hlt, hX⟩ := hcut
    have hxy1 := area_in (x := 1 + k1) (y := y) (by omega) (by omega)
    clear hm C1 G1 R1 A1
    generalize w2.heap.size = X at *
    clear hk2 hk2''
    have Gc := Lib.hid hg
    have Rc := Lib.hid hr
    have Ac := Lib.hid hA
    have Xc := Lib.hid hX
    clear hg hr hA hX
    go_wp2_with (fail)
    refine (pick_n b sl ys (N + 2) 8 _ Rc.out (by omega)).mono ?_
    rintro e w3 ⟨k3, rfl, ⟨hk3, hk3'⟩, hg3, hr3⟩
    have hk3'' : k3 ≤ 7 := by omega
    have L0 : LoopC w b sl ys (N + 3) (1 + k1) y X (.int .i64 0) w3 := loopC_start hg3 hr3 Gc.out Ac.out Xc.out hlt hb (by omega)
    clear hg3 hr3 Gc Ac Xc hk3'
    have hloc := Lib.hid L0
    clear L0
    go_wp2_with (fail)
    go_loopw [7] (fun i wr => LoopC w b sl ys (N + 3) (1 + k1) y X i wr) (fun i _ => (36 - intOf i).toNat)
    case atStart => exact hloc.out
    case round =>
      clear hloc Rc
      obtain ⟨k, v, l, rfl, hl, hkx, hg, hr, hA, hX, hown, hXl⟩ := hrel
      obtain ⟨c0, c1, c2, f0, f1, f2⟩ := three_cells hX
      by_cases hlt2 : (k : Int) < (1 + k1) * y
      · have L := Lib.hid (show LoopC w b sl ys (N + 3) (1 + k1) y X (.int .i64 k) wr from ⟨k, v, l, rfl, hl, hkx, hg, hr, hA, hX, hown, hXl⟩)
        have hr' := Lib.hid hr
        have hg' := Lib.hid hg
        have ho' := Lib.hid hown
        have hX' := Lib.hid hX
        have hA' := Lib.hid hA
        have hl' := Lib.hid hl
        clear hg hr hA hX hown hl
        have hXb : X ≠ b := by omega
        go_wp2_with (fail)
        go_region_law (first | (go_simp; go_at_call 36; refine (pick_n b sl ys (N + 3 + k) 10 _ (rdN_drew hr'.out) (by omega)).mono ?_; rintro e w4 ⟨k4, rfl, hk4, hg4, hr4⟩; (have d4 : X < w4.heap.size := Nat.lt_of_lt_of_le hXl hg4.size); (have d2 := (hg4.cell_far ⟨X, 2, none⟩ (by simpa using hXl) (by simp; omega)).trans c2); have hg4' := Lib.hid hg4; have hr4' := Lib.hid hr4; clear hg4 hr4) | (refine step_app elem_bools (X + 1) v (l.map Value.bool) ?_ w4.heap.size (.bool (decide (k4 ≤ 2 + k3))) (.tmp 39) (.tmp 44) (by rfl) (by rfl) (by rfl) (by rfl) (heap_alloc_new _ _) (by rfl) ?_ ?_ ?_; exact Own.alloc (Own.grown ho'.out.drew hg4'.out (by simp; omega)) _; (rw [List.length_map, hl'.out]; omega); (have := hg4'.out.size; simp at this; simp; omega); intro g cap w5 A5; (have E5 := loopC_app ho'.out hX'.out hg4'.out A5 hXl hXb); (have d5 := (three_cells E5).2.2.1); (have f5 := (three_cells E5).2.2.2.2.2); have A5' := Lib.hid A5; have E5' := Lib.hid E5; clear A5 E5))
        all_goals
          have NX := Lib.hid (loopC_next H.out hlt hb hg'.out hr4'.out hA'.out hXl ho'.out hg4'.out A5'.out E5'.out hl'.out (by omega))
          go_wp2
          go_roundw
          case rel => exact NX.out
          case measure => simp [intOf]; omega
      · have hg' := Lib.hid hg
        have ho' := Lib.hid hown
        have hr' := Lib.hid hr
        have hX' := Lib.hid hX
        have hA' := Lib.hid hA
        have hl' := Lib.hid hl
        clear hg hA hX hown hl hr
        have hkN : k ≤ 24 := by omega
        go_wp2_with (fail)
        refine (odd_n b sl ys (N + 3 + k) n _ hr'.out (by omega) hn).mono ?_
        rintro e w4 ⟨β, rfl, hg4, hr4⟩
        have FC := Lib.hid (loopC_far hg'.out hA'.out hX'.out ho'.out hg4 hlt hb hXl)
        have hr4' := Lib.hid hr4
        clear hg4 hr4 hg' hA' hX' ho' hr' c0 c1 c2 f0 f1 f2
        obtain ⟨va, vc, rfl⟩ : ∃ a c, v = .slice a l.length c := by obtain ⟨a, c, h, _⟩ := FC.out.o.sl; exact ⟨a, c, by simpa using h⟩
        obtain ⟨c0, c1, c2, f0, f1, f2⟩ := three_cells FC.out.x
        obtain ⟨a0, a1, a2, e0, e1, e2⟩ := three_cells FC.out.a
        cases β with
        | false =>
          have DN := Lib.hid (region_done (N := N) (x := 1 + k1) (y := y) FC.out.g FC.out.o hlt hb H.out hr4'.out (by omega) (by omega) (by omega) (by omega) (by omega) (by have := hl'.out; omega))
          obtain ⟨q0, q1, q2, _⟩ := three_cells (put3 (x' := .int .i64 (1 + k1)) (y' := .int .i64 y) (z' := .slice va l.length vc) FC.out.a)
          have Q0 := Lib.hid q0
          have Q1 := Lib.hid q1
          have Q2 := Lib.hid q2
          clear q0 q1 q2
          go_wp2_with (fail)
          exact bodyPost_ret (by simp [results, Tryd.results38, go_sem, Q0.out, Q1.out, Q2.out]) rfl DN.out
        | true =>
          go_wp2_with (fail)
          refine (pick_n b sl ys (N + 3 + k + 1) 3 _ hr4'.out (by omega)).mono ?_
          rintro e w5 ⟨k5, rfl, hk5, hg5, hr5⟩
          have FD := Lib.hid (far_step FC.out hg5)
          have hr5' := Lib.hid hr5
          clear hg5 hr5 FC hr4' c0 c1 c2 f0 f1 f2 a0 a1 a2 e0 e1 e2
          obtain ⟨c0, c1, c2, f0, f1, f2⟩ := three_cells FD.out.x
          obtain ⟨a0, a1, a2, e0, e1, e2⟩ := three_cells FD.out.a
          by_cases hk0 : k5 = 0
          · subst hk0
            clear hk5
            go_wp2_with (at_builtin; refine list_app elem_bools (X + 1) (.slice va l.length vc) (l.map Value.bool) ?_ w5.heap.size (.bool true) (.tmp 65) (.tmp 66) rfl rfl rfl rfl (heap_alloc_new _ _) rfl ?_ ?_ ?_; exact Own.alloc FD.out.o _; (rw [List.length_map, hl'.out]; omega); (have := lt_of_heap FD.out.x; simp; omega); intro g cap w6 A6; (have d6 := far_app FD.out A6); (have A6' := Lib.hid A6); (have d6' := Lib.hid d6); (obtain ⟨c0', c1', c2', f0', f1', f2'⟩ := three_cells d6.x); (obtain ⟨a0', a1', a2', e0', e1', e2'⟩ := three_cells d6.a); clear A6 d6)
            have FE := Lib.hid (far_put d6'.out hlt hb)
            have RE := Lib.hid (rd_put (M := N + 3 + k + 1 + 1) H.out hr5'.out FD.out.o A6'.out (v' := .slice (some ⟨g, 0, none⟩) (l.length + 1) cap) hlt)
            have DN := Lib.hid (region_done (N := N) (x := 1 + k1) (y := y) FE.out.g FE.out.o hlt hb H.out RE.out (by omega) (by omega) (by omega) (by omega) (by omega) (by have := hl'.out; simp; omega))
            obtain ⟨q0, q1, q2, _⟩ := three_cells (put3 (x' := .int .i64 (1 + k1)) (y' := .int .i64 y) (z' := .slice (some ⟨g, 0, none⟩) (l.length + 1) cap) FE.out.a)
            exact bodyPost_ret (by simp [results, Tryd.results38, go_sem, q0, q1, q2]) rfl DN.out
          · by_cases hk51 : k5 = 1
            · subst hk51
              have DN := Lib.hid (region_done (N := N) (v := .slice none 0 0) (l := []) (x := 0) (y := 0) FD.out.g (Own.nil _ _ _) hlt hb H.out hr5'.out (by omega) (by omega) (by omega) (by omega) (by omega) (by simp))
              obtain ⟨q0, q1, q2, _⟩ := three_cells (put3 (x' := .int .i64 0) (y' := .int .i64 0) (z' := .slice none 0 0) FD.out.a)
              have Q0 := Lib.hid q0
              have Q1 := Lib.hid q1
              have Q2 := Lib.hid q2
              clear q0 q1 q2 hk5
              go_wp2
              exact bodyPost_ret (by simp [results, Tryd.results38, go_sem, Q0.out, Q1.out, Q2.out]) rfl DN.out
            · have hk0b : (k5 == 0) = false := by simpa using hk0
              have hk1b : (k5 == 1) = false := by simpa using hk51
              have L0 := Lib.hid (loopC_six H.out FD.out hr5'.out)
              clear hk5
              go_wp2_with (fail)
              go_loopw [8] (fun i wr => LoopC w b sl ys (N + 3 + k + 1 + 1) 6 6 X i wr) (fun i _ => (36 - intOf i).toNat)
              case atStart => exact L0.out
              case round =>
                clear L0 c0 c1 c2 f0 f1 f2 a0 a1 a2 e0 e1 e2 FD hr5'
                obtain ⟨j, v, m, rfl, hm, hjx, hg, hr, hA, hX, hown, hXl⟩ := hrel
                have FD := Lib.hid (Far.mk hg hA hX hown hlt hb)
                have hr' := Lib.hid hr
                have hm' := Lib.hid hm
                clear hg hr hA hX hown hm
                obtain ⟨ua, uc, rfl⟩ : ∃ a c, v = .slice a m.length c := by obtain ⟨a, c, h, _⟩ := FD.out.o.sl; exact ⟨a, c, by simpa using h⟩
                obtain ⟨c0, c1, c2, f0, f1, f2⟩ := three_cells FD.out.x
                obtain ⟨a0, a1, a2, e0, e1, e2⟩ := three_cells FD.out.a
                by_cases hj36 : (j : Int) < 36
                · go_wp2_with (at_builtin; refine list_app elem_bools (X + 1) (.slice ua m.length uc) (m.map Value.bool) ?_ wr.heap.size (.bool true) (.tmp 58) (.tmp 59) rfl rfl rfl rfl (heap_alloc_new _ _) rfl ?_ ?_ ?_; exact Own.alloc FD.out.o _; (rw [List.length_map, hm'.out]; omega); (have := lt_of_heap FD.out.x; simp; omega); intro g cap w6 A6; (have d6 := far_app FD.out A6); (have A6' := Lib.hid A6); (have d6' := Lib.hid d6); (obtain ⟨c0', c1', c2', f0', f1', f2'⟩ := three_cells d6.x); clear A6 d6)
                  have NX := Lib.hid (loopE_next H.out FD.out hr'.out A6'.out d6'.out hm'.out (by omega))
                  go_roundw
                  case rel => first | exact NX.out | ((repeat apply Exists.intro); exact ⟨NX.out, rfl⟩)
                  case measure => simp [intOf]; omega
                · have DN := Lib.hid (region_done (N := N) (x := 6) (y := 6) FD.out.g FD.out.o hlt hb H.out hr'.out (by omega) (by omega) (by omega) (by omega) (by omega) (by have := hm'.out; omega))
                  obtain ⟨q0, q1, q2, _⟩ := three_cells (put3 (x' := .int .i64 6) (y' := .int .i64 6) (z' := .slice ua m.length uc) FD.out.a)
                  have Q0 := Lib.hid q0
                  have Q1 := Lib.hid q1
                  have Q2 := Lib.hid q2
                  clear q0 q1 q2
                  go_wp2
                  exact bodyPost_ret (by simp [results, Tryd.results38, go_sem, Q0.out, Q1.out, Q2.out]) rfl DN.out

end Go.Proofs.YtklifibiadiinaaDoor
