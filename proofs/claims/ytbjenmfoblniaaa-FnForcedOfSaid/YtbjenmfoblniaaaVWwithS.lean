/- Walks: the reference's TilingsWith. -/
import Derived.Test.YtbjenmfoblniaaaVWfrontB
import Derived.Test.YtbjenmfoblniaaaVWless
import Derived.Test.YtbjenmfoblniaaaVWlay
import Derived.Test.YtbjenmfoblniaaaZc
set_option linter.unusedVariables false
namespace Go.Proofs.Ytbjenmfoblniaaa
open Go.RowKit Domi

theorem stepTo_pos {r : Reg} {c way : Int} (h : 0 ≤ stepTo r c way) : (0 ≤ c ∧ c < r.cells.length) ∧ stepTo r c way = stepI r c way := by
  unfold stepTo at h ⊢
  split at h
  · next hc =>
    rw [if_pos hc]
    simp only [Bool.and_eq_true, inB_iff] at hc
    exact ⟨by omega, rfl⟩
  · omega
theorem stepTo_neg {r : Reg} (hv : r.valid = true) {c way : Int} (h : stepTo r c way < 0) : free r (bareL r) c way = false := by
  cases hf : free r (bareL r) c way
  · rfl
  · obtain ⟨h1, h2, _⟩ := free_iff.1 hf
    have hw := stepI_way h2
    rw [stepTo_yes hv (inB_iff.2 (by omega)) (inB_iff.2 hw)] at h
    omega
set_option maxRecDepth 100000 in
set_option maxHeartbeats 2000000 in
theorem sTilingsWith_any (v : Value) (r : Reg) (c way : Int) (w : World) (h : RegV w v r) : Calls Try.prog 31 #[v, .int .i64 c, .int .i64 way] w (Ret (.int .i64 (withT r c way)) w) := by
  obtain ⟨a, cap, rfl, hlc, hcm, hcell⟩ := Bl.opened h.choose_spec.2 |>.elim fun a ⟨cap, e, h1, h2, h3⟩ => by
    have := h.choose_spec.1
    rw [e] at this
    exact (⟨a, cap, this, h1, h2, h3⟩ : ∃ a cap, v = .agg #[.int .i64 r.wide, .int .i64 r.tall, .slice a r.cells.length cap] ∧ r.cells.length ≤ cap ∧ cap ≤ 9223372036854775807 ∧ (r.cells = [] ∨ ∃ b off, a = some ⟨b, off, none⟩ ∧ b < w.heap.size ∧ ∀ i, i < r.cells.length → w.cell? ⟨b, off + i, none⟩ = some (.bool (r.cells.getD i false))))
  have RV : ∀ w', Below w.heap.size w w' → RegV w' (.agg #[.int .i64 r.wide, .int .i64 r.tall, .slice a r.cells.length cap]) r := fun w' hb => h.below hb
  have RV := Lib.hid RV
  have S0 := Lib.hid ((Sep.start w none).box #[.int .i64 r.wide, .int .i64 r.tall, .slice a r.cells.length cap] 29)
  have HCL := Lib.hid hcell
  clear h hcell
  cases hv : r.valid
  · have HW := Lib.hid (withT_no (c := c) (way := way) hv)
    have HV := Lib.hid hv
    clear hv
    go_enter Try.func31, Try.ntmps31
    go_wp2_with (fail)
    refine (sRegionValid_is _ r _ (RV.out _ S0.out.bel) false HV.out).mono ?_
    rintro e w1 ⟨rfl, hb⟩
    have S1 := Lib.hid (S0.out.below hb)
    clear hb S0
    go_wp2
    go_ret
    exact ⟨ret_int (by rw [HW.out]), S1.out.bel⟩
  · have hl36 : 0 < r.cells.length ∧ r.cells.length ≤ 36 := by
      obtain ⟨b1, b2, b3, b4⟩ := Reg.valid_iff.1 hv
      have := area_in b1 b2
      omega
    have HV := Lib.hid hv
    clear hv
    go_enter Try.func31, Try.ntmps31
    go_wp2_with (fail)
    refine (sRegionValid_is _ r _ (RV.out _ S0.out.bel) true HV.out).mono ?_
    rintro e w1 ⟨rfl, hb⟩
    have S1 := Lib.hid (S0.out.below hb)
    clear hb S0
    obtain ⟨x0, x1, x2⟩ := S1.out.c3 0 rfl
    have x3 := S1.out.lt 0 rfl rfl
    go_wp2_with (fail)
    refine (StepTo_any _ r c way _ (RV.out _ S1.out.bel)).mono ?_
    rintro e w2 ⟨rfl, hb⟩
    have S2 := Lib.hid (S1.out.below hb)
    clear hb S1 x0 x1 x2 x3
    obtain ⟨x0, x1, x2⟩ := S2.out.c3 0 rfl
    have x3 := S2.out.lt 0 rfl rfl
    rcases Int.lt_or_le (stepTo r c way) 0 with hneg | hpos
    · have HW := Lib.hid (withT_zero HV.out (stepTo_neg HV.out hneg))
      generalize stepTo r c way = E at *
      go_wp2
      go_ret
      exact ⟨ret_int (by rw [HW.out]), S2.out.bel⟩
    · obtain ⟨hc, hst⟩ := stepTo_pos hpos
      obtain ⟨k, rfl⟩ := Int.eq_ofNat_of_zero_le hc.1
      rw [hst] at hpos ⊢
      have hE := stepI_in (r := r) (c := (k : Int)) (way := way) (Reg.valid_iff.1 HV.out).1.1 (by omega) (by have := (Reg.valid_iff.1 HV.out).2.2.1; omega)
      have hEl : stepI r k way < r.cells.length := by have := (Reg.valid_iff.1 HV.out).2.2.1; omega
      obtain ⟨t, ht⟩ := Int.eq_ofNat_of_zero_le hpos
      have HT := Lib.hid ht
      rw [ht] at hEl ⊢
      have HCLk := HCL.out
      obtain ⟨ba, oa, rfl, hba, hcells⟩ := HCLk.resolve_left (fun e => by rw [e] at hl36; simp at hl36)
      have hkl : k < r.cells.length := by omega
      have htl : t < r.cells.length := by omega
      have y1 : w2.cell? ⟨ba, oa + k, none⟩ = some (.bool (r.f k)) := ((bcell S2.out.bel).1 ba (oa + k) hba).trans (hcells k hkl)
      have y2 : w2.cell? ⟨ba, oa + t, none⟩ = some (.bool (r.f t)) := ((bcell S2.out.bel).1 ba (oa + t) hba).trans (hcells t htl)
      have y3 : ba < w2.heap.size := Nat.lt_of_lt_of_le hba S2.out.bel.size
      clear hcells HCL hst hE hpos ht hc
      have hki : (k : Int) < (r.cells.length : Int) := by omega
      have HFR : Hid (free r (bareL r) k way = (r.f k && r.f t)) := Lib.hid (by
        rw [Bool.eq_iff_iff, free_iff, HT.out]
        simp only [bareL_get, Int.toNat_natCast, Bool.and_eq_true]
        constructor
        · rintro ⟨_, _, h3, h4, _⟩; exact ⟨h3, h4⟩
        · rintro ⟨h3, h4⟩; exact ⟨by omega, by omega, h3, h4, trivial, trivial⟩)
      cases hfk : r.f k
      · have HW : Hid (withT r k way = 0) := Lib.hid (withT_zero HV.out (by rw [HFR.out, hfk]; rfl))
        rw [hfk] at y1
        clear hfk
        go_wp2
        go_ret
        exact ⟨ret_int (by rw [HW.out]), S2.out.bel⟩
      · cases hft : r.f t
        · have HW : Hid (withT r k way = 0) := Lib.hid (withT_zero HV.out (by rw [HFR.out, hft, Bool.and_false]))
          rw [hfk] at y1
          rw [hft] at y2
          clear hfk hft
          go_wp2
          go_ret
          exact ⟨ret_int (by rw [HW.out]), S2.out.bel⟩
        · have hfree : free r (bareL r) k way = true := by rw [HFR.out, hfk, hft]; rfl
          have HW : Hid (withT r k way = manyT (r.lessN [k, t])) := Lib.hid (by
            rw [withT_yes HV.out hfree]
            obtain ⟨t', F⟩ := free_at (bare_laid HV.out) hfree
            have : t' = t := by have h1 := F.hst; rw [HT.out] at h1; omega
            subst this
            exact with_less HV.out F)
          rw [hfk] at y1
          rw [hft] at y2
          clear hfk hft hfree
          have S3 := Lib.hid (S2.out.lit 3 #[.int .i64 (k : Int), .int .i64 (t : Int)] 2 rfl (by omega))
          go_wp2_with (fail)
          refine (l3Less_any _ _ r [k, t] _ (RV.out _ S3.out.bel) (S3.out.own 1 rfl).sl hl36 (fun j hj => by
            have : j = 0 ∨ j = 1 := by simp at hj; omega
            rcases this with rfl | rfl
            · exact hkl
            · exact htl)).mono ?_
          rintro e w4 ⟨v4, rfl, hv4, hb⟩
          have S4 := Lib.hid (S3.out.below hb)
          have V4 := Lib.hid hv4
          clear hb hv4 x0 x1 x2 x3 y1 y2 y3
          go_wp2_with (fail)
          refine (sTilingsMany_any _ _ _ V4.out).mono ?_
          rintro e w5 ⟨rfl, hb⟩
          have S5 := Lib.hid (S4.out.below hb)
          clear hb
          go_wp2
          go_ret
          exact ⟨ret_int (by rw [HW.out]), S5.out.bel⟩
end Go.Proofs.Ytbjenmfoblniaaa
