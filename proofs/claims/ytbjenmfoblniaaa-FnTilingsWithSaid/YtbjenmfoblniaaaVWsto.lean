/- Walks: StepTo of the program. -/
import Derived.Test.YtbjenmfoblniaaaVWwith
import Derived.Test.YtbjenmfoblniaaaVWwithS
import Derived.Test.YtbjenmfoblniaaaVWlift
import Derived.Test.YtbjenmfoblniaaaVLaw
set_option linter.unusedVariables false
namespace Go.Proofs.Ytbjenmfoblniaaa
open Go.RowKit Domi

theorem stepTo_I {r : Reg} {c way : Int} (hv : r.valid = true) (hc : inB c 0 (r.cells.length - 1) = true) : stepTo r c way = stepI r c way := by
  by_cases hw : 1 ≤ way ∧ way ≤ 4
  · exact stepTo_yes hv hc (inB_iff.2 hw)
  · rw [stepTo_no (.inr (.inr (by cases h : inB way 1 4; rfl; exact absurd (inB_iff.1 h) hw))), stepI_other (by omega)]
set_option maxHeartbeats 1000000 in
theorem iStepTo_any (v : Value) (r : Reg) (c way : Int) (w : World) (h : RegV w v r) :
    Calls Try.prog 32 #[v, .int .i64 c, .int .i64 way] w (Ret (.int .i64 (stepTo r c way)) w) := by
  obtain ⟨a, cap, rfl, hs, hlc, hcm⟩ := h.opened
  have R0 := Lib.hid (RB.new hs)
  have B0 := Lib.hid (below_alloc w (.cells #[.int .i64 r.wide, .int .i64 r.tall, .slice a r.cells.length cap] 29))
  clear hs h
  cases hv : r.valid
  · have HT := Lib.hid (stepTo_no (r := r) (c := c) (way := way) (.inl hv))
    have HV := Lib.hid hv
    clear hv
    go_enter Try.func32, Try.ntmps32
    go_wp2_with (fail)
    refine (RegionValid_any _ r _ R0.out.v).mono ?_
    rw [HV.out]
    rintro e w1 ⟨rfl, hb⟩
    have HB := Lib.hid (B0.out.trans (hb.mono B0.out.size))
    clear hb
    go_wp2
    go_ret
    exact ⟨ret_int HT.out.symm, HB.out⟩
  · have HV := Lib.hid hv
    clear hv
    cases hc : inB c 0 (r.cells.length - 1)
    · have HT := Lib.hid (stepTo_no (r := r) (c := c) (way := way) (.inr (.inl hc)))
      go_enter Try.func32, Try.ntmps32
      go_wp2_with (fail)
      refine (RegionValid_any _ r _ R0.out.v).mono ?_
      rw [HV.out]
      rintro e w1 ⟨rfl, hb⟩
      have R1 := Lib.hid (R0.out.on hb)
      have HB := Lib.hid (B0.out.trans (hb.mono B0.out.size))
      obtain ⟨x0, x1, x2⟩ := R1.out.c3
      clear hb
      go_wp2_with (fail)
      refine (has_is _ r _ _ R1.out.v false hc).mono ?_
      rintro e w2 ⟨rfl, hb⟩
      have HB := Lib.hid (HB.out.trans (hb.mono HB.out.size))
      clear hb x0 x1 x2
      go_wp2
      go_ret
      exact ⟨ret_int HT.out.symm, HB.out⟩
    · have HT := Lib.hid (stepTo_I (way := way) HV.out hc)
      have hcl : 0 ≤ c ∧ c < r.wide * r.tall := by have h1 := inB_iff.1 hc; have h2 := (Reg.valid_iff.1 HV.out).2.2.1; omega
      have HCL := Lib.hid hcl
      clear hcl
      go_enter Try.func32, Try.ntmps32
      go_wp2_with (fail)
      refine (RegionValid_any _ r _ R0.out.v).mono ?_
      rw [HV.out]
      rintro e w1 ⟨rfl, hb⟩
      have R1 := Lib.hid (R0.out.on hb)
      have HB := Lib.hid (B0.out.trans (hb.mono B0.out.size))
      obtain ⟨x0, x1, x2⟩ := R1.out.c3
      clear hb
      go_wp2_with (fail)
      refine (has_is _ r _ _ R1.out.v true hc).mono ?_
      rintro e w2 ⟨rfl, hb⟩
      have R2 := Lib.hid (R1.out.on hb)
      have HB := Lib.hid (HB.out.trans (hb.mono HB.out.size))
      clear hb x0 x1 x2
      obtain ⟨x0, x1, x2⟩ := R2.out.c3
      go_wp2_with (fail)
      refine (step_any _ r c way _ R2.out.v HV.out HCL.out.1 HCL.out.2).mono ?_
      rintro e w3 ⟨rfl, hb⟩
      have HB := Lib.hid (HB.out.trans (hb.mono HB.out.size))
      clear hb x0 x1 x2
      go_wp2
      go_ret
      exact ⟨ret_int HT.out.symm, HB.out⟩
end Go.Proofs.Ytbjenmfoblniaaa
