/- Walks: TilingsWith of the program. -/
import Derived.Test.YtbjenmfoblniaaaVWcntB
import Derived.Test.YtbjenmfoblniaaaVWlift
import Derived.Test.YtbjenmfoblniaaaZc
set_option linter.unusedVariables false
namespace Go.Proofs.Ytbjenmfoblniaaa
open Go.RowKit Domi

set_option maxRecDepth 100000 in
set_option maxHeartbeats 2000000 in
theorem TilingsWith_any (v : Value) (r : Reg) (c way : Int) (w : World) (h : RegV w v r) : Calls Try.prog 27 #[v, .int .i64 c, .int .i64 way] w (Ret (.int .i64 (withT r c way)) w) := by
  obtain ⟨a, cap, rfl, hs, hlc, hcm⟩ := h.opened
  have RV : ∀ w', Below w.heap.size w w' → RegV w' (.agg #[.int .i64 r.wide, .int .i64 r.tall, .slice a r.cells.length cap]) r := fun w' hb => ⟨_, rfl, hs.below hb⟩
  have RV := Lib.hid RV
  have S0 := Lib.hid ((Sep.start w none).box #[.int .i64 r.wide, .int .i64 r.tall, .slice a r.cells.length cap] 29)
  clear hs h
  cases hv : r.valid
  · have HW := Lib.hid (withT_no (c := c) (way := way) hv)
    have HV := Lib.hid hv
    clear hv
    go_enter Try.func27, Try.ntmps27
    go_wp2_with (fail)
    refine (RegionValid_any _ r _ (RV.out _ S0.out.bel)).mono ?_
    rw [HV.out]
    rintro e w1 ⟨rfl, hb⟩
    have S1 := Lib.hid (S0.out.below hb)
    clear hb S0
    go_wp2
    go_ret
    exact ⟨ret_int (by rw [HW.out]), S1.out.bel⟩
  · have hl36 : r.cells.length ≤ 36 := by
      obtain ⟨b1, b2, b3, b4⟩ := Reg.valid_iff.1 hv
      have := area_in b1 b2
      omega
    have HV := Lib.hid hv
    clear hv
    go_enter Try.func27, Try.ntmps27
    go_wp2_with (fail)
    refine (RegionValid_any _ r _ (RV.out _ S0.out.bel)).mono ?_
    rw [HV.out]
    rintro e w1 ⟨rfl, hb⟩
    have S1 := Lib.hid (S0.out.below hb)
    clear hb S0
    obtain ⟨x0, x1, x2⟩ := S1.out.c3 0 rfl
    go_wp2_with (at_make; refine list_make elem_ints (.int .i64 0) zero_int rfl r.cells.length (.tmp 13) (.tmp 13) rfl rfl (r.cells.length : Int) ?_ ?_ rfl ?_ ?_ ?_; rfl; rfl; omega; omega; intro cs hcs; (have S2 := Lib.hid (S1.out.made (e := 3) hcs (by omega))); clear hcs x0 x1 x2; obtain ⟨x0, x1, x2⟩ := S2.out.c3 0 rfl)
    have U2 := Lib.hid (show Il _ _ (bareL r) from by
      have := (S2.out.own 1 rfl).sl
      rw [show List.replicate r.cells.length (Value.int .i64 0) = (bareL r).map (Value.int .i64) by rw [bareL_yes HV.out, List.map_replicate]] at this
      exact this)
    cases hf : free r (bareL r) c way
    · have HW := Lib.hid (withT_zero HV.out hf)
      refine (free_is _ _ r (bareL r) c way _ (RV.out _ S2.out.bel) U2.out HV.out (bareL_len HV.out) false hf).mono ?_
      rintro e w3 ⟨rfl, hb⟩
      have S3 := Lib.hid (S2.out.below hb)
      clear hb hf x0 x1 x2
      go_wp2
      go_ret
      exact ⟨ret_int (by rw [HW.out]), S3.out.bel⟩
    · have HW := Lib.hid (withT_yes HV.out hf)
      obtain ⟨k, t, rfl, F⟩ := free_bare HV.out hf
      have HF := Lib.hid hf
      clear hf F
      refine (free_is _ _ r (bareL r) k way _ (RV.out _ S2.out.bel) U2.out HV.out (bareL_len HV.out) true HF.out).mono ?_
      rintro e w3 ⟨rfl, hb⟩
      have S3 := Lib.hid (S2.out.below hb).drew
      have U3 := Lib.hid (Il.below U2.out hb)
      clear hb x0 x1 x2
      obtain ⟨x0, x1, x2⟩ := S3.out.c3 0 rfl
      go_wp2_with (fail)
      go_region_held3 (fun w' => w'.cell? ⟨w.heap.size, 0, none⟩ = some (.int .i64 r.wide) ∧ w'.cell? ⟨w.heap.size, 1, none⟩ = some (.int .i64 r.tall) ∧ w'.cell? ⟨w.heap.size, 2, none⟩ = some (.slice a r.cells.length cap))
        (first | with_reducible exact K5.out | with_reducible exact K4.out | (go_keep; done) | assumption)
        ((first
          | (go_at_call 76; refine (count_any _ _ r (layL r (bareL r) k way) _ (RV.out _ S4.out.bel) U4.out HV.out (by rw [layL_len, bareL_len HV.out])).mono ?_; rintro e w5 ⟨rfl, hb5⟩; (have S5 := Lib.hid (S4.out.below hb5)); (have K5 := Lib.hid (Sep.c3 S5.out 0 rfl)); clear hb5)
          | (go_at_call 77; refine (lay_any _ _ r (bareL r) k way _ (RV.out _ S3.out.bel) U3.out (bare_laid HV.out) HF.out).mono ?_; rintro e w4 ⟨v4, rfl, hu4, hb4⟩; (have S4 := Lib.hid (S3.out.below hb4)); (have U4 := Lib.hid hu4); (have K4 := Lib.hid (Sep.c3 S4.out 0 rfl)); clear hb4 hu4)))
      all_goals
        go_wp2
        go_ret
        exact ⟨ret_int (by rw [HW.out]), S5.out.bel⟩
end Go.Proofs.Ytbjenmfoblniaaa
