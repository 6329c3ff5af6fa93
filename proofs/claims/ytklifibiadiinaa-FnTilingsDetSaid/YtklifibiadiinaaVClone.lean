/- Walks: slices.Clone, slices.Clip, clone. -/
import Derived.Test.YtklifibiadiinaaVWb
import Derived.Test.YtklifibiadiinaaZa
import Derived.Lib.SliceRun
set_option linter.unusedVariables false
namespace Go.Proofs.Ytklifibiadiinaa
open Go.RowKit Domi

/-- A slice without room behind it, of a block from B on. -/
def Cl (w : World) (B : Nat) (e : TypeId) (v : Value) (xs : List Value) : Prop :=
  ∃ g cur, v = .slice (some ⟨g, 0, none⟩) xs.length xs.length ∧ B ≤ g ∧ w.heap[g]? = some (.cells cur e (0, 0)) ∧ cur.toList.take xs.length = xs ∧ xs.length ≤ 1000
def RetCl (e : TypeId) (xs : List Value) (w : World) (x : Ending) (w' : World) : Prop := ∃ v, x = .returned v ∧ Cl w' w.heap.size e v xs ∧ Below w.heap.size w w'
theorem Cl.sl {w : World} {B : Nat} {e : TypeId} {v : Value} {xs : List Value} (h : Cl w B e v xs) : Sl w v xs := by
  obtain ⟨g, cur, rfl, hB, hg, ht, hl⟩ := h
  refine ⟨_, _, rfl, Nat.le_refl _, by omega, .inr ⟨g, 0, rfl, lt_of_heap hg, fun i hi => ?_⟩⟩
  rw [Nat.zero_add, cell_of_row w g i cur e (0, 0) hg]
  have := take_getElem ht i hi
  simpa using this
theorem Own.cl {w : World} {B : Nat} {e : TypeId} {g n c : Nat} {xs : List Value} (h : Own w B e (.slice (some ⟨g, 0, none⟩) n c) xs) (hl : xs.length ≤ 1000) : Cl w B e (.slice (some ⟨g, 0, none⟩) n n) xs := by
  obtain ⟨cur, hg, hb, hn, ht⟩ := h.block
  subst hn
  exact ⟨g, cur, rfl, hb, hg, ht, hl⟩

set_option maxHeartbeats 400000 in
theorem Clone_bool (v : Value) (l : List Bool) (w : World) (h : Bl w v l) (hne : 0 < l.length) (hl : l.length ≤ 1000) :
    Calls Try.prog 105 #[v] w (RetO 4 (l.map Value.bool) w) := by
  have H := Lib.hid h
  have hk : 0 < (l.map Value.bool).length := by simpa using hne
  obtain ⟨b, off, cap, rfl, hb, hc⟩ := Sl.form h hk
  have S0 := Lib.hid ((Sep.start w none).empty 4)
  have hnil := Lib.run_eql_slice_nil (P := Try.prog) w 22 4 (some ⟨b, off, none⟩) l.length cap 0 0 Try.underlying22
  clear h hc
  go_enter Try.func105, Try.ntmps105
  go_wp2_with (at_builtin; refine list_appN elem_bools 0 (.slice (some ⟨w.heap.size, 0, none⟩) 0 0) [] (S0.out.own 0 rfl) _ (l.map Value.bool) ?_ hk (.tmp 5) (.tmp 6) rfl rfl rfl rfl ?_ ?_ (Nat.zero_le _) ?_; exact H.out.below (by go_grown); (intro x hx; obtain ⟨y, _, rfl⟩ := List.mem_map.1 hx; rfl); (simp; omega); intro g c2 w5 A5; (have S5 := Lib.hid (S0.out.appN 0 rfl A5)); clear A5)
  go_ret
  exact ⟨_, rfl, by simpa using S5.out.high 0 rfl, S5.out.bel⟩

set_option maxHeartbeats 400000 in
theorem Clone_int (v : Value) (l : List Int) (w : World) (h : Il w v l) (hne : 0 < l.length) (hl : l.length ≤ 1000) :
    Calls Try.prog 91 #[v] w (RetO 3 (l.map (Value.int .i64)) w) := by
  have H := Lib.hid h
  have hk : 0 < (l.map (Value.int .i64)).length := by simpa using hne
  obtain ⟨b, off, cap, rfl, hb, hc⟩ := Sl.form h hk
  have S0 := Lib.hid ((Sep.start w none).empty 3)
  have hnil := Lib.run_eql_slice_nil (P := Try.prog) w 39 3 (some ⟨b, off, none⟩) l.length cap 0 0 Try.underlying39
  clear h hc
  go_enter Try.func91, Try.ntmps91
  go_wp2_with (at_builtin; refine list_appN elem_ints 0 (.slice (some ⟨w.heap.size, 0, none⟩) 0 0) [] (S0.out.own 0 rfl) _ (l.map (Value.int .i64)) ?_ hk (.tmp 5) (.tmp 6) rfl rfl rfl rfl ?_ ?_ (Nat.zero_le _) ?_; exact H.out.below (by go_grown); (intro x hx; obtain ⟨y, _, rfl⟩ := List.mem_map.1 hx; rfl); (simp; omega); intro g c2 w5 A5; (have S5 := Lib.hid (S0.out.appN 0 rfl A5)); clear A5)
  go_ret
  exact ⟨_, rfl, by simpa using S5.out.high 0 rfl, S5.out.bel⟩

end Go.Proofs.Ytklifibiadiinaa
