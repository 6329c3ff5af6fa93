/- Plain words on memory and on regions, for the walks over the program of tilings. No program is named here. -/
import Derived.WalkKit
import Derived.WalkSpells
import Derived.WalkLawsBesides
import Derived.Lib.Hide
import Derived.Handy
set_option linter.unusedVariables false
namespace Domi
open Go Go.RowKit

theorem ret_bool {a b : Bool} (h : a = b) : Ending.returned (.bool a) = .returned (.bool b) := by rw [h]
theorem ret_int {k : IntKind} {a b : Int} (h : a = b) : Ending.returned (.int k a) = .returned (.int k b) := by rw [h]
theorem get_at {α : Type} (l : List α) (d : α) (i : Nat) (h : i < l.length) : l[i] = l.getD i d := by simp [List.getD_eq_getElem?_getD, h]

/-- The slice value v reads, in the world w, as the one-cell values xs. -/
def Sl (w : World) (v : Value) (xs : List Value) : Prop :=
  ∃ a cap, v = .slice a xs.length cap ∧ xs.length ≤ cap ∧ cap ≤ 9223372036854775807 ∧
    (xs = [] ∨ ∃ b off, a = some ⟨b, off, none⟩ ∧ b < w.heap.size ∧ ∀ i, (h : i < xs.length) → w.cell? ⟨b, off + i, none⟩ = some xs[i])

theorem Sl.below {w w' : World} {v : Value} {xs : List Value} (h : Sl w v xs) (hb : Below w.heap.size w w') : Sl w' v xs := by
  obtain ⟨a, cap, rfl, h1, h2, h3⟩ := h
  refine ⟨a, cap, rfl, h1, h2, ?_⟩
  rcases h3 with h3 | ⟨b, off, rfl, hl, hc⟩
  · exact .inl h3
  · exact .inr ⟨b, off, rfl, Nat.lt_of_lt_of_le hl hb.size, fun i hi => (hb.cell (p := ⟨b, off + i, none⟩) hl).trans (hc i hi)⟩

theorem Sl.nil (w : World) : Sl w (.slice none 0 0) [] := ⟨none, 0, rfl, by simp, by omega, .inl rfl⟩

/-- As Sl, and the slice begins a block from B on that is not frozen (of element type e). -/
def Ow (w : World) (B : Nat) (e : TypeId) (v : Value) (xs : List Value) : Prop :=
  (v = .slice none 0 0 ∧ xs = []) ∨
    ∃ g cap cur, v = .slice (some ⟨g, 0, none⟩) xs.length cap ∧ B ≤ g ∧ w.heap[g]? = some (.cells cur e (0, 0)) ∧ xs.length ≤ cap ∧ cap ≤ 9223372036854775807 ∧ cur.toList.take xs.length = xs

theorem lt_of_heap {w : World} {g : Nat} {o : Obj} (h : w.heap[g]? = some o) : g < w.heap.size := (Array.getElem?_eq_some_iff.1 h).1

theorem take_getElem {α : Type} {l xs : List α} (h : l.take xs.length = xs) (i : Nat) (hi : i < xs.length) : l[i]? = some xs[i] := by
  have h1 : (l.take xs.length)[i]? = l[i]? := by rw [List.getElem?_take, if_pos hi]
  rw [← h1, h]; simp [hi]

theorem Ow.sl {w : World} {B : Nat} {e : TypeId} {v : Value} {xs : List Value} (h : Ow w B e v xs) : Sl w v xs := by
  rcases h with ⟨rfl, rfl⟩ | ⟨g, cap, cur, rfl, hB, hg, h1, h2, h3⟩
  · exact Sl.nil w
  · refine ⟨_, cap, rfl, h1, h2, .inr ⟨g, 0, rfl, lt_of_heap hg, fun i hi => ?_⟩⟩
    rw [Nat.zero_add, cell_of_row w g i cur e (0, 0) hg]
    have := take_getElem h3 i hi
    simpa using this

theorem Ow.mono {w : World} {B B' : Nat} {e : TypeId} {v : Value} {xs : List Value} (h : Ow w B e v xs) (hB : B' ≤ B) : Ow w B' e v xs := by
  rcases h with h | ⟨g, cap, cur, rfl, hb, r⟩
  · exact .inl h
  · exact .inr ⟨g, cap, cur, rfl, by omega, r⟩

theorem Ow.below {w w' : World} {B : Nat} {e : TypeId} {v : Value} {xs : List Value} (h : Ow w B e v xs) (hb : Below w.heap.size w w') : Ow w' B e v xs := by
  rcases h with h | ⟨g, cap, cur, rfl, hB, hg, r⟩
  · exact .inl h
  · exact .inr ⟨g, cap, cur, rfl, hB, by rw [hb.block g (lt_of_heap hg)]; exact hg, r⟩

theorem Ow.of_owns {w : World} {B : Nat} {e : TypeId} {v : Value} {n : Nat} {xs : List Value} (h : w.ownsRow B e 1 v n xs) : Ow w B e v xs := by
  obtain ⟨h0, h⟩ := h
  simp only [Nat.mul_one] at h0 h
  rcases h with ⟨rfl, rfl⟩ | ⟨g, cap, cur, rfl, hb, hg, h1, h2, h3, h4⟩
  · exact .inl ⟨rfl, List.eq_nil_of_length_eq_zero h0⟩
  · subst h0
    exact .inr ⟨g, cap, cur, rfl, hb, hg, h1, by unfold maxLen at h2; omega, h4⟩

/-- The xor of two numbers from 0 on is such a number. -/
theorem xor_nonneg (a b : Int) (ha : 0 ≤ a ∧ a < 4611686018427387904) (hb : 0 ≤ b ∧ b < 4611686018427387904) : 0 ≤ bits .xor .i64 a b := by
  obtain ⟨A, rfl⟩ := Int.eq_ofNat_of_zero_le ha.1
  obtain ⟨B, rfl⟩ := Int.eq_ofNat_of_zero_le hb.1
  have hx : A ^^^ B < 2 ^ 62 := Nat.xor_lt_two_pow (by omega) (by omega)
  have h1 : (BitVec.ofInt 64 (A : Int)).toNat = A := by
    rw [BitVec.ofInt_natCast, BitVec.toNat_ofNat]; exact Nat.mod_eq_of_lt (by omega)
  have h2 : (BitVec.ofInt 64 (B : Int)).toNat = B := by
    rw [BitVec.ofInt_natCast, BitVec.toNat_ofNat]; exact Nat.mod_eq_of_lt (by omega)
  have h3 : bits .xor .i64 (A : Int) (B : Int) = IntKind.i64.wrap ((A ^^^ B : Nat) : Int) := by
    show IntKind.i64.wrap ((BitVec.ofInt 64 (A : Int) ^^^ BitVec.ofInt 64 (B : Int)).toNat : Int) = _
    rw [BitVec.toNat_xor, h1, h2]
  rw [h3, IntWalk.i64_in _ (by omega)]
  omega

/-! ### bools and numbers -/
def Bl (w : World) (v : Value) (l : List Bool) : Prop := Sl w v (l.map Value.bool)
def Il (w : World) (v : Value) (l : List Int) : Prop := Sl w v (l.map (Value.int .i64))
def Yl (w : World) (v : Value) (l : List Int) : Prop := Sl w v (l.map (Value.int .u8))

theorem Bl.below {w w' : World} {v : Value} {l : List Bool} (h : Bl w v l) (hb : Below w.heap.size w w') : Bl w' v l := Sl.below h hb
theorem Il.below {w w' : World} {v : Value} {l : List Int} (h : Il w v l) (hb : Below w.heap.size w w') : Il w' v l := Sl.below h hb
theorem Yl.below {w w' : World} {v : Value} {l : List Int} (h : Yl w v l) (hb : Below w.heap.size w w') : Yl w' v l := Sl.below h hb

theorem Sl.opened {α : Type} {w : World} {v : Value} {l : List α} {f : α → Value} (d : α) (h : Sl w v (l.map f)) :
    ∃ a cap, v = .slice a l.length cap ∧ l.length ≤ cap ∧ cap ≤ 9223372036854775807 ∧
      (l = [] ∨ ∃ b off, a = some ⟨b, off, none⟩ ∧ b < w.heap.size ∧ ∀ i, i < l.length → w.cell? ⟨b, off + i, none⟩ = some (f (l.getD i d))) := by
  obtain ⟨a, cap, rfl, h1, h2, h3⟩ := h
  rw [List.length_map] at *
  refine ⟨a, cap, rfl, h1, h2, ?_⟩
  rcases h3 with h3 | ⟨b, off, rfl, hl, hc⟩
  · exact .inl (by simpa using h3)
  · refine .inr ⟨b, off, rfl, hl, fun i hi => ?_⟩
    rw [hc i (by simpa using hi)]
    simp [hi]
theorem Bl.opened {w : World} {v : Value} {l : List Bool} (h : Bl w v l) :
    ∃ a cap, v = .slice a l.length cap ∧ l.length ≤ cap ∧ cap ≤ 9223372036854775807 ∧
      (l = [] ∨ ∃ b off, a = some ⟨b, off, none⟩ ∧ b < w.heap.size ∧ ∀ i, i < l.length → w.cell? ⟨b, off + i, none⟩ = some (.bool (l.getD i false))) := Sl.opened false h
theorem Il.opened {w : World} {v : Value} {l : List Int} (h : Il w v l) :
    ∃ a cap, v = .slice a l.length cap ∧ l.length ≤ cap ∧ cap ≤ 9223372036854775807 ∧
      (l = [] ∨ ∃ b off, a = some ⟨b, off, none⟩ ∧ b < w.heap.size ∧ ∀ i, i < l.length → w.cell? ⟨b, off + i, none⟩ = some (.int .i64 (l.getD i 0))) := Sl.opened 0 h
theorem Yl.opened {w : World} {v : Value} {l : List Int} (h : Yl w v l) :
    ∃ a cap, v = .slice a l.length cap ∧ l.length ≤ cap ∧ cap ≤ 9223372036854775807 ∧
      (l = [] ∨ ∃ b off, a = some ⟨b, off, none⟩ ∧ b < w.heap.size ∧ ∀ i, i < l.length → w.cell? ⟨b, off + i, none⟩ = some (.int .u8 (l.getD i 0))) := Sl.opened 0 h

/-! ### counting -/
def inB (n lo hi : Int) : Bool := decide (lo ≤ n) && decide (n ≤ hi)
def cnt (l : List Bool) : Int := (l.filter id).length
theorem cnt_le (l : List Bool) : 0 ≤ cnt l ∧ cnt l ≤ l.length := by
  unfold cnt; exact ⟨by omega, by have := List.length_filter_le id l; omega⟩
theorem cnt_snoc (l : List Bool) (b : Bool) : cnt (l ++ [b]) = cnt l + if b then 1 else 0 := by
  unfold cnt; cases b <;> simp [List.filter_append]
theorem take_snoc {α : Type} (l : List α) (d : α) (k : Nat) (h : k < l.length) : l.take (k + 1) = l.take k ++ [l.getD k d] := by
  rw [List.take_succ_eq_append_getElem h]; simp [List.getD_eq_getElem?_getD, h]

/-! ### regions -/
structure Reg where
  wide : Int
  tall : Int
  cells : List Bool
  deriving DecidableEq
def RegV (w : World) (v : Value) (r : Reg) : Prop := ∃ s, v = .agg #[.int .i64 r.wide, .int .i64 r.tall, s] ∧ Bl w s r.cells
theorem RegV.below {w w' : World} {v : Value} {r : Reg} (h : RegV w v r) (hb : Below w.heap.size w w') : RegV w' v r := by
  obtain ⟨s, rfl, hs⟩ := h; exact ⟨s, rfl, hs.below hb⟩
def Reg.valid (r : Reg) : Bool := inB r.wide 1 6 && inB r.tall 1 6 && decide ((r.cells.length : Int) = r.wide * r.tall) && decide (cnt r.cells ≤ 24)
theorem inB_iff {n lo hi : Int} : inB n lo hi = true ↔ lo ≤ n ∧ n ≤ hi := by simp [inB]
theorem area_in {x y : Int} (hx : 1 ≤ x ∧ x ≤ 6) (hy : 1 ≤ y ∧ y ≤ 6) : 1 ≤ x * y ∧ x * y ≤ 36 := by
  obtain ⟨a, b⟩ := hx
  have h : x = 1 ∨ x = 2 ∨ x = 3 ∨ x = 4 ∨ x = 5 ∨ x = 6 := by omega
  rcases h with rfl | rfl | rfl | rfl | rfl | rfl <;> omega
theorem Reg.valid_iff {r : Reg} : r.valid = true ↔ (1 ≤ r.wide ∧ r.wide ≤ 6) ∧ (1 ≤ r.tall ∧ r.tall ≤ 6) ∧ (r.cells.length : Int) = r.wide * r.tall ∧ cnt r.cells ≤ 24 := by
  simp [Reg.valid, inB_iff, and_assoc]
theorem area_wrap {x y : Int} (hx : inB x 1 6 = true) (hy : inB y 1 6 = true) : wrap64 (x * y) = x * y := by
  have := area_in (inB_iff.1 hx) (inB_iff.1 hy)
  exact IntWalk.wrap64_in _ (by omega)
def Reg.many (r : Reg) : Int := if r.valid then cnt r.cells else -1
theorem Reg.many_yes {r : Reg} (h : r.valid = true) : r.many = cnt r.cells := by simp [Reg.many, h]
theorem Reg.many_no {r : Reg} (h : r.valid = false) : r.many = -1 := by simp [Reg.many, h]
def Reg.zero : Reg := ⟨0, 0, []⟩
def zeroV : Value := .agg #[.int .i64 0, .int .i64 0, .slice none 0 0]
theorem zero_regV (w : World) : RegV w zeroV Reg.zero := ⟨_, rfl, Sl.nil w⟩

theorem bcell {W w1 : World} (hb : Below W.heap.size W w1) : (∀ b o, b < W.heap.size → w1.cell? ⟨b, o, none⟩ = W.cell? ⟨b, o, none⟩) ∧ (∀ b o, b < W.heap.size → w1.frozen? ⟨b, o, none⟩ = W.frozen? ⟨b, o, none⟩) :=
  ⟨fun b o h => hb.cell (p := ⟨b, o, none⟩) h, fun b o h => hb.frozen (p := ⟨b, o, none⟩) h⟩

/-! ### cells put elsewhere -/
/-- The list l with its first k entries put at the places 'to'. -/
def putL (to : Nat → Nat) (l : List Bool) : Nat → List Bool
  | 0 => List.replicate l.length false
  | k + 1 => (putL to l k).set (to k) (l.getD k false)
theorem putL_length (to : Nat → Nat) (l : List Bool) (k : Nat) : (putL to l k).length = l.length := by
  induction k with
  | zero => simp [putL]
  | succ k ih => simp [putL, ih]
/-- Where a cell is in the mirror. -/
def mirI (r : Reg) (c : Int) : Int := c / r.wide * r.wide + r.wide - 1 - c % r.wide
/-- Where a cell is in the turned field. -/
def turnI (r : Reg) (c : Int) : Int := c % r.wide * r.tall + r.tall - 1 - c / r.wide
theorem div_lt_of {c w t : Int} (hw : 1 ≤ w) (h : c < w * t) : c / w ≤ t - 1 := by
  have h1 := Int.mul_ediv_add_emod c w
  have h2 := Int.emod_nonneg c (b := w) (by omega)
  have h3 : w * (c / w) < w * t := by omega
  have h4 := Int.lt_of_mul_lt_mul_left h3 (by omega)
  omega
theorem mirI_in {r : Reg} {c : Int} (hw : 1 ≤ r.wide) (h0 : 0 ≤ c) (h : c < r.wide * r.tall) : 0 ≤ mirI r c ∧ mirI r c < r.wide * r.tall := by
  have m1 := Int.emod_nonneg c (b := r.wide) (by omega)
  have m2 := Int.emod_lt_of_pos c (b := r.wide) (by omega)
  have m3 := Int.ediv_nonneg (a := c) (b := r.wide) (by omega) (by omega)
  have m4 := div_lt_of hw h
  have m5 := Int.mul_nonneg m3 (show 0 ≤ r.wide by omega)
  have m6 := Int.mul_le_mul_of_nonneg_right m4 (show 0 ≤ r.wide by omega)
  rw [Int.sub_mul, Int.mul_comm r.tall] at m6
  unfold mirI; omega
theorem turnI_in {r : Reg} {c : Int} (hw : 1 ≤ r.wide) (ht : 1 ≤ r.tall) (h0 : 0 ≤ c) (h : c < r.wide * r.tall) : 0 ≤ turnI r c ∧ turnI r c < r.wide * r.tall := by
  have m1 := Int.emod_nonneg c (b := r.wide) (by omega)
  have m2 := Int.emod_lt_of_pos c (b := r.wide) (by omega)
  have m3 := Int.ediv_nonneg (a := c) (b := r.wide) (by omega) (by omega)
  have m4 := div_lt_of hw h
  have m5 := Int.mul_nonneg m1 (show 0 ≤ r.tall by omega)
  have m6 := Int.mul_le_mul_of_nonneg_right (show c % r.wide ≤ r.wide - 1 by omega) (show 0 ≤ r.tall by omega)
  rw [Int.sub_mul] at m6
  unfold turnI; omega
def Reg.mir (r : Reg) : Reg := ⟨r.wide, r.tall, putL (fun k => (mirI r k).toNat) r.cells r.cells.length⟩
def Reg.turn (r : Reg) : Reg := ⟨r.tall, r.wide, putL (fun k => (turnI r k).toNat) r.cells r.cells.length⟩

def Reg.flipR (r : Reg) : Reg := if r.valid then r.mir else Reg.zero
def Reg.turnR (r : Reg) : Reg := if r.valid then r.turn else Reg.zero

/-! ### what a call leaves: its result, and what was there as it was -/
def Ret (v : Value) (w : World) (e : Ending) (w' : World) : Prop := e = .returned v ∧ Below w.heap.size w w'
def RetR (r : Reg) (w : World) (e : Ending) (w' : World) : Prop := ∃ v, e = .returned v ∧ RegV w' v r ∧ Below w.heap.size w w'
def RetRB (r : Reg × Bool) (w : World) (e : Ending) (w' : World) : Prop := ∃ v, e = .returned (.tuple #[v, .bool r.2]) ∧ RegV w' v r.1 ∧ Below w.heap.size w w'
def RetI (l : List Int) (w : World) (e : Ending) (w' : World) : Prop := ∃ v, e = .returned v ∧ Il w' v l ∧ Below w.heap.size w w'
def RetIB (l : List Int × Bool) (w : World) (e : Ending) (w' : World) : Prop := ∃ v, e = .returned (.tuple #[v, .bool l.2]) ∧ Il w' v l.1 ∧ Below w.heap.size w w'

/-- A cell of a new block, behind a call. -/
theorem cell_behind {w w1 : World} {o : Nat} {b : Nat} (hb : Below w.heap.size w w1) (h : b < w.heap.size) : w1.cell? ⟨b, o, none⟩ = w.cell? ⟨b, o, none⟩ := (bcell hb).1 b o h
theorem frozen_behind {w w1 : World} {o : Nat} {b : Nat} (hb : Below w.heap.size w w1) (h : b < w.heap.size) : w1.frozen? ⟨b, o, none⟩ = w.frozen? ⟨b, o, none⟩ := (bcell hb).2 b o h
/-- A region's value, opened. -/
theorem RegV.opened {w : World} {v : Value} {r : Reg} (h : RegV w v r) :
    ∃ a cap, v = .agg #[.int .i64 r.wide, .int .i64 r.tall, .slice a r.cells.length cap] ∧ Bl w (.slice a r.cells.length cap) r.cells ∧ r.cells.length ≤ cap ∧ cap ≤ 9223372036854775807 := by
  obtain ⟨s, rfl, hs⟩ := h
  obtain ⟨a, cap, rfl, h1, h2, _⟩ := hs.opened
  exact ⟨a, cap, rfl, hs, h1, h2⟩

/-- A valid region's value, opened: its cells lie in a block, also later. -/
theorem RegV.valid_opened {w : World} {v : Value} {r : Reg} (h : RegV w v r) (hv : r.valid = true) :
    ∃ b off cap, v = .agg #[.int .i64 r.wide, .int .i64 r.tall, .slice (some ⟨b, off, none⟩) r.cells.length cap] ∧ Bl w (.slice (some ⟨b, off, none⟩) r.cells.length cap) r.cells ∧ b < w.heap.size ∧
      (∀ w', Below w.heap.size w w' → ∀ i, i < r.cells.length → w'.cell? ⟨b, off + i, none⟩ = some (.bool (r.cells.getD i false))) ∧
      r.cells.length ≤ cap ∧ cap ≤ 9223372036854775807 ∧ 1 ≤ r.cells.length ∧ r.cells.length ≤ 36 ∧ (r.cells.length : Int) = r.wide * r.tall ∧ (1 ≤ r.wide ∧ r.wide ≤ 6) ∧ (1 ≤ r.tall ∧ r.tall ≤ 6) := by
  obtain ⟨s, rfl, hs⟩ := h
  obtain ⟨b1, b2, b3, b4⟩ := Reg.valid_iff.1 hv
  have ha := area_in b1 b2
  have hs' := hs
  obtain ⟨a, cap, rfl, h1, h2, h3⟩ := hs.opened
  rcases h3 with h3 | ⟨b, off, rfl, hb, hc⟩
  · rw [h3] at b3; simp at b3; omega
  · exact ⟨b, off, cap, rfl, hs', hb, fun w' hw i hi => (hw.cell (p := ⟨b, off + i, none⟩) hb).trans (hc i hi), h1, h2, by omega, by omega, b3, b1, b2⟩

end Domi
