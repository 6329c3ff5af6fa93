/- Walks: at, l1At, RegionAt, step, l2Step. -/
import Derived.Test.YtklifibiadiinaaDoorVWd
import Derived.Test.YtklifibiadiinaaDoorVWf
import Derived.Test.YtklifibiadiinaaDoorZa
set_option linter.unusedVariables false
namespace Go.Proofs.YtklifibiadiinaaDoor
open Go.RowKit Domi

set_option maxHeartbeats 1000000 in
theorem l1At_any (v : Value) (r : Reg) (x y : Int) (w : World) (h : RegV w v r) (hv : r.valid = true) (hx : -100 ≤ x ∧ x ≤ 100) (hy : -100 ≤ y ∧ y ≤ 100) :
    Calls Tryd.prog 41 #[v, .int .i64 x, .int .i64 y] w (Ret (.bool (r.at_ x y)) w) := by
  obtain ⟨ba, oa, cap, rfl, hs, hba, hcs, hlc, hcm, hl1, hlen, b3, b1, b2⟩ := h.valid_opened hv
  by_cases hin : inB x 0 (r.wide - 1) = true ∧ inB y 0 (r.tall - 1) = true
  · obtain ⟨ix, iy⟩ := hin
    have ix' := inB_iff.1 ix
    have iy' := inB_iff.1 iy
    have hl := xy_lt (w := r.wide) (t := r.tall) (x := x) (y := y) (by omega) (by omega) (by omega) (by omega)
    have hm := xy_lt (w := r.wide) (t := r.tall) (x := 0) (y := y) (by omega) (by omega) (by omega) (by omega)
    have ha := area_in b1 b2
    obtain ⟨k, hk⟩ : ∃ k : Nat, y * r.wide + x = (k : Int) := ⟨(y * r.wide + x).toNat, by omega⟩
    have hkl : k < r.cells.length := by omega
    have hck : ∀ w', Below w.heap.size w w' → w'.cell? ⟨ba, oa + k, none⟩ = some (.bool (r.at_ x y)) := fun w' hw => by
      rw [at_cell ix iy, hcs w' hw k hkl, hk, Int.toNat_natCast]
    have Hck := Lib.hid hck
    have hin1 : inB x 0 (r.wide - 1) = true := ix
    have hmul : 0 ≤ y * r.wide ∧ y * r.wide ≤ 36 := by omega
    have hk0 : 0 ≤ y * r.wide + x ∧ y * r.wide + x < (r.cells.length : Int) := by omega
    have c0 := hck (w.alloc (.cells #[.int .i64 r.wide, .int .i64 r.tall, .slice (some ⟨ba, oa, none⟩) r.cells.length cap] 25)) (by go_grown)
    have hkk : (y * r.wide + x).toNat = k := by omega
    rw [← hkk] at c0
    clear hs hcs hck h hk b3 hkk
    generalize r.at_ x y = A at *
    go_enter Tryd.func41, Tryd.ntmps41
    go_wp2_with (go_at_call 53; refine (l1In_any _ _ _ _).mono ?_; rintro e w' ⟨rfl, rfl⟩)
    all_goals (go_ret; exact ⟨rfl, by go_grown⟩)
  · have hf : r.at_ x y = false := by
      unfold Reg.at_
      cases hx' : inB x 0 (r.wide - 1) <;> cases hy' : inB y 0 (r.tall - 1) <;> simp_all
    rw [hf]
    clear hs hcs h b3
    cases hx' : inB x 0 (r.wide - 1)
    · go_enter Tryd.func41, Tryd.ntmps41
      go_wp2_with (go_at_call 53; refine (l1In_any _ _ _ _).mono ?_; rintro e w' ⟨rfl, rfl⟩)
      all_goals (go_ret; exact ⟨rfl, by go_grown⟩)
    · have hy' : inB y 0 (r.tall - 1) = false := by
        cases hy' : inB y 0 (r.tall - 1)
        · rfl
        · exact absurd ⟨hx', hy'⟩ hin
      clear hin
      go_enter Tryd.func41, Tryd.ntmps41
      go_wp2_with (go_at_call 53; refine (l1In_any _ _ _ _).mono ?_; rintro e w' ⟨rfl, rfl⟩)
      all_goals (go_ret; exact ⟨rfl, by go_grown⟩)

end Go.Proofs.YtklifibiadiinaaDoor
