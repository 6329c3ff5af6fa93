/- Walks: the reference's RegionBox, and the drawer of two sides. -/
import Derived.Test.YtklifibiadiinaaDoorVWc
import Derived.Test.YtklifibiadiinaaDoorZa
import Derived.Test.YtklifibiadiinaaDoorVDrawC
set_option linter.unusedVariables false
namespace Go.Proofs.YtklifibiadiinaaDoor
open Go.RowKit Domi

/-- A region whose cells are of the call's own. -/
def RetRO (r : Reg) (w : World) (e : Ending) (w' : World) : Prop := ∃ s, e = .returned (.agg #[.int .i64 r.wide, .int .i64 r.tall, s]) ∧ Own w' w.heap.size 4 s (r.cells.map Value.bool) ∧ Below w.heap.size w w'
theorem RetRO.reg {r : Reg} {w w' : World} {e : Ending} (h : RetRO r w e w') : RetR r w e w' := by
  obtain ⟨s, rfl, ho, hb⟩ := h
  exact ⟨_, rfl, ⟨s, rfl, ho.sl⟩, hb⟩
/-- The variables of the reference's RegionBox. -/
def BxS (w : World) (x y : Int) (X : Nat) (v : Value) (k : Nat) : List It :=
  [.box w.heap.size #[.int .i64 0, .int .i64 0, .slice none 0 0] 25, .box X #[.int .i64 x, .int .i64 y, v] 25, .row 4 v ((List.replicate k true).map Value.bool)]
theorem bxS_start (w : World) (x y : Int) : Sep w none ((w.alloc (.cells #[.int .i64 0, .int .i64 0, .slice none 0 0] 25)).alloc (.cells #[.int .i64 x, .int .i64 y, .slice none 0 0] 25)) (BxS w x y (w.heap.size + 1) (.slice none 0 0) 0) := by
  have := (Sep.two w none #[.int .i64 0, .int .i64 0, .slice none 0 0] #[.int .i64 x, .int .i64 y, .slice none 0 0] 25 25).nil 4
  simpa [BxS] using this
theorem bxS_next {w wr w5 : World} {x y : Int} {X : Nat} {v : Value} {k g c : Nat} (h : Sep w none wr (BxS w x y X v k)) (A : App wr 0 4 v ((List.replicate k true).map Value.bool) (.bool true) g c w5) :
    Sep w none w5 [.box w.heap.size #[.int .i64 0, .int .i64 0, .slice none 0 0] 25, .box X #[.int .i64 x, .int .i64 y, v] 25, .row 4 (.slice (some ⟨g, 0, none⟩) (k + 1) c) ((List.replicate (k + 1) true).map Value.bool)] := by
  have := h.app 2 rfl A
  rw [show (List.replicate k true).map Value.bool ++ [Value.bool true] = (List.replicate (k + 1) true).map Value.bool by simp [List.replicate_succ'], List.length_map, List.length_replicate] at this
  exact this

set_option maxRecDepth 100000 in
set_option maxHeartbeats 1000000 in
theorem sRegionBox_yes (x y : Int) (w : World) (hx : inB x 1 6 = true) (hy : inB y 1 6 = true) (h24 : x * y ≤ 24) (n : Nat) (hn : x * y = (n : Int)) :
    Calls Tryd.prog 62 #[.int .i64 x, .int .i64 y] w (RetRO ⟨x, y, List.replicate n true⟩ w) := by
  have ha := area_in (inB_iff.1 hx) (inB_iff.1 hy)
  have S0 := Lib.hid (bxS_start w x y)
  have h24' : ¬ 24 < (n : Int) := by omega
  have hn36 : n ≤ 36 := by omega
  have hn1 : 1 ≤ n := by omega
  have HN := Lib.hid hn
  have wr0 : wrap64 (x * y) = (n : Int) := by rw [area_wrap hx hy]; exact hn
  clear h24 ha
  go_enter Tryd.func62, Tryd.ntmps62
  go_wp2_with (go_at_call 53; refine (l1In_any _ _ _ _).mono ?_; rintro e w' ⟨rfl, rfl⟩)
  go_loopw [6] (fun i wr => ∃ (k : Nat) (a : Option Addr) (c : Nat), k ≤ n ∧ i = .int .i64 k ∧ Sep w none wr (BxS w x y (w.heap.size + 1) (.slice a k c) k)) (fun i _ => n - (intOf i).toNat)
  case atStart => exact ⟨0, none, 0, Nat.zero_le _, rfl, S0.out⟩
  case round =>
    clear S0
    obtain ⟨k, a, c, hk, rfl, S⟩ := hrel
    have HS := Lib.hid S
    clear S
    obtain ⟨x0, x1, x2, f0, f1, f2⟩ := three_cells (HS.out.blk 1 rfl)
    obtain ⟨z0, z1, z2, e0, e1, e2⟩ := three_cells (HS.out.blk 0 rfl)
    have sX := HS.out.lt 1 rfl rfl
    by_cases hlt : k < n
    · have hlz : (k : Int) < n := by omega
      go_wp2_with (at_builtin; refine list_app elem_bools 0 (.slice a k c) ((List.replicate k true).map Value.bool) ?_ wr.heap.size (.bool true) (.tmp 33) (.tmp 34) rfl rfl rfl rfl (heap_alloc_new _ _) rfl ?_ ?_ ?_; exact Own.alloc (HS.out.own 2 rfl) _; (rw [List.length_map, List.length_replicate]; omega); (exact Nat.zero_le _); intro g c2 w5 A5; (have S5' := Lib.hid (bxS_next (HS.out.alloc _) A5)); clear A5; (have S5 := three_cells (S5'.out.blk 1 rfl)); obtain ⟨y0, y1, y2, g0, g1, g2⟩ := S5)
      have S6 := Lib.hid (S5'.out.put 1 rfl 2 (.slice (some ⟨g, 0, none⟩) (k + 1) c2))
      go_roundw
      case rel => exact ⟨k + 1, some ⟨g, 0, none⟩, c2, by omega, by go_num, by simpa [BxS] using S6.out⟩
      case measure => simp [intOf]; omega
    · have e : k = n := by omega
      subst e
      have hlz : ¬ (k : Int) < k := by omega
      have E1 := Lib.hid (HS.out.put3 0 rfl (.int .i64 x) (.int .i64 y) (.slice a k c))
      obtain ⟨q0, q1, q2, _⟩ := three_cells (E1.out.blk 0 rfl)
      have Q0 := Lib.hid q0
      have Q1 := Lib.hid q1
      have Q2 := Lib.hid q2
      have DN : Hid (RetRO ⟨x, y, List.replicate k true⟩ w (.returned (.agg #[.int .i64 x, .int .i64 y, .slice a k c])) _) := Lib.hid ⟨_, rfl, E1.out.high 2 rfl, E1.out.bel⟩
      clear q0 q1 q2
      go_wp2
      exact bodyPost_ret (by simp [results, Tryd.results62, go_sem, Q0.out, Q1.out, Q2.out]) rfl DN.out

theorem sbox_zero (w : World) : RetRO Reg.zero w (.returned (.agg #[.int .i64 0, .int .i64 0, .slice none 0 0])) (w.alloc (.cells #[.int .i64 0, .int .i64 0, .slice none 0 0] 25)) :=
  ⟨_, rfl, Own.nil _ _ _, by go_grown⟩
set_option maxHeartbeats 1000000 in
theorem sRegionBox_no (x y : Int) (w : World) (h : boxOk x y = false) :
    Calls Tryd.prog 62 #[.int .i64 x, .int .i64 y] w (RetRO Reg.zero w) := by
  have DN := Lib.hid (sbox_zero w)
  by_cases hx : inB x 1 6 = true
  · by_cases hy : inB y 1 6 = true
    · have ha := area_in (inB_iff.1 hx) (inB_iff.1 hy)
      have h24 : ¬ x * y ≤ 24 := by simpa [boxOk, hx, hy] using h
      clear h
      go_enter Tryd.func62, Tryd.ntmps62
      go_wp2_with (go_at_call 53; refine (l1In_any _ _ _ _).mono ?_; rintro e w' ⟨rfl, rfl⟩)
      exact bodyPost_ret (by simp [results, Tryd.results62, go_sem]) rfl DN.out
    · have hy' : inB y 1 6 = false := by simpa using hy
      clear h hy
      go_enter Tryd.func62, Tryd.ntmps62
      go_wp2_with (go_at_call 53; refine (l1In_any _ _ _ _).mono ?_; rintro e w' ⟨rfl, rfl⟩)
      exact bodyPost_ret (by simp [results, Tryd.results62, go_sem]) rfl DN.out
  · have hx' : inB x 1 6 = false := by simpa using hx
    clear h hx
    go_enter Tryd.func62, Tryd.ntmps62
    go_wp2_with (go_at_call 53; refine (l1In_any _ _ _ _).mono ?_; rintro e w' ⟨rfl, rfl⟩)
    exact bodyPost_ret (by simp [results, Tryd.results62, go_sem]) rfl DN.out
theorem sRegionBox_any (x y : Int) (w : World) : Calls Tryd.prog 62 #[.int .i64 x, .int .i64 y] w (RetRO (boxReg x y) w) := by
  cases hb : boxOk x y
  · rw [boxReg, hb]; exact sRegionBox_no x y w hb
  · have hb' := hb
    simp [boxOk] at hb'
    have ha := area_in (inB_iff.1 hb'.1.1) (inB_iff.1 hb'.1.2)
    rw [boxReg, hb]
    exact sRegionBox_yes x y w hb'.1.1 hb'.1.2 hb'.2 _ (by omega)
end Go.Proofs.YtklifibiadiinaaDoor
