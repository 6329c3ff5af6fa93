/- Walks: Complete and TilingFirst of the reference. -/
import Derived.Test.YtklifibiadiinaaDoorVWcomp
import Derived.Test.YtklifibiadiinaaDoorVLaw
set_option linter.unusedVariables false
namespace Go.Proofs.YtklifibiadiinaaDoor
open Go.RowKit Domi

set_option maxRecDepth 100000 in
set_option maxHeartbeats 2000000 in
theorem sComplete_any (v u : Value) (r : Reg) (L : List Int) (w : World) (h : RegV w v r) (hu : Il w u L) : Calls Tryd.prog 49 #[v, u] w (RetLB (completeR r L) w) := by
  obtain ⟨a, cap, rfl, hs, hlc, hcm⟩ := h.opened
  have S0 := Lib.hid ((Sep.start w none).box #[.int .i64 r.wide, .int .i64 r.tall, .slice a r.cells.length cap] 25)
  have HS := Lib.hid hs
  have HU := Lib.hid hu
  obtain ⟨ua, uc, rfl, hul, hum, _⟩ := hu.opened
  have RV : Hid (∀ w', Below w.heap.size w w' → RegV w' (.agg #[.int .i64 r.wide, .int .i64 r.tall, .slice a r.cells.length cap]) r) := Lib.hid fun w' hb => ⟨_, rfl, HS.out.below hb⟩
  clear h hs hu
  cases hk : laidOk r L
  · go_enter Tryd.func49, Tryd.ntmps49
    go_wp2_with (fail)
    refine (sLaidOk_is _ _ r L _ (RV.out _ S0.out.bel) (HU.out.below S0.out.bel) false hk).mono ?_
    rintro e w1 ⟨rfl, hb⟩
    have S1 := Lib.hid (S0.out.below hb)
    clear hb
    go_wp2
    go_ret2
    exact boolp_one (P := True) _ _ _ (completeR_no hk) (own_empty S1.out.bel) (below_two S1.out.bel _)
  · have hv := (laidOk_iff.1 hk).1
    have hlen := (laidOk_iff.1 hk).2.1
    have hL1 : 0 < L.length := by
      obtain ⟨b1, b2, b3, b4⟩ := Reg.valid_iff.1 hv
      have := area_in b1 b2
      omega
    have hL36 : L.length ≤ 36 := by
      obtain ⟨b1, b2, b3, b4⟩ := Reg.valid_iff.1 hv
      have := area_in b1 b2
      omega
    have HK := Lib.hid hk
    have HOP := Lib.hid (show openN r L < 40 by have := openN_lt (r := r) L; omega)
    have H1c := Lib.hid (int_cells L)
    obtain ⟨q, hq⟩ : ∃ q, compl 40 r L = q := ⟨_, rfl⟩
    have HQ := Lib.hid hq
    have HR := Lib.hid ((completeR_yes hk).trans hq)
    clear hk hlen hq
    go_enter Tryd.func49, Tryd.ntmps49
    go_wp2_with (fail)
    refine (sLaidOk_is _ _ r L _ (RV.out _ S0.out.bel) (HU.out.below S0.out.bel) true HK.out).mono ?_
    rintro e w1 ⟨rfl, hb⟩
    have S1 := Lib.hid (S0.out.below hb)
    have S2 : Hid (Sep w none (w1.alloc (.cells #[] 3)).drew [.box w.heap.size #[.int .i64 r.wide, .int .i64 r.tall, .slice a r.cells.length cap] 25, .row 3 (.slice (some ⟨w1.heap.size, 0, none⟩) 0 0) []]) := Lib.hid (S1.out.empty 3).drew
    clear hb S0
    obtain ⟨x0, x1, x2⟩ := S1.out.c3 0 rfl
    go_wp2_with (fail)
    go_region_held3 (fun w' => w'.cell? ⟨w.heap.size, 0, none⟩ = some (.int .i64 r.wide) ∧ w'.cell? ⟨w.heap.size, 1, none⟩ = some (.int .i64 r.tall) ∧ w'.cell? ⟨w.heap.size, 2, none⟩ = some (.slice a r.cells.length cap))
      (first | with_reducible exact K5.out | with_reducible exact K4.out | (go_keep; done) | assumption)
      ((first
        | (go_at_call 65; refine (l2Complete_n r 40 _ _ L w.heap.size _ (RV.out _ S5.out.bel) (S5.out.high 1 rfl) S5.out.bel.size HK.out HOP.out).mono ?_; rw [HQ.out]; rintro e w6 ⟨v6, rfl, ho6, hb6⟩; (have O6 := Lib.hid ho6); (have S6 := Lib.hid (S5.out.below hb6)); (have K5 := Lib.hid (Sep.c3 S6.out 0 rfl)); clear ho6 hb6)
        | (refine step_copy elem_ints _ (S2.out.own 1 rfl) _ (L.map (Value.int .i64)) (HU.out.below S2.out.bel) L.length (by rw [List.length_map]) hL1 (.tmp 12) (.tmp 13) (by rfl) (by rfl) (by rfl) (by rfl) H1c.out (by omega) ?_; intro g c2 w4 A4; (have S5 := Lib.hid (S2.out.copied 1 rfl A4)); (have K4 := Lib.hid (Sep.c3 S5.out 0 rfl)); clear A4)))
    go_wp2
    go_ret2
    refine boolp_one (P := True) _ q.1 q.2 HR.out O6.out S6.out.bel

set_option maxHeartbeats 400000 in
theorem sTilingFirst_any (v : Value) (r : Reg) (w : World) (h : RegV w v r) : Calls Tryd.prog 46 #[v] w (RetLB (firstR r) w) := by
  obtain ⟨a, cap, rfl, hs, hlc, hcm⟩ := h.opened
  have R0 := Lib.hid (RB.new hs)
  have B0 := Lib.hid (below_alloc w (.cells #[.int .i64 r.wide, .int .i64 r.tall, .slice a r.cells.length cap] 25))
  clear h hs
  obtain ⟨q, hq⟩ : ∃ q, completeR r (bareL r) = q := ⟨_, rfl⟩
  have HQ := Lib.hid hq
  have HR := Lib.hid (show firstR r = q from hq)
  clear hq
  go_enter Tryd.func46, Tryd.ntmps46
  go_wp2_with (fail)
  obtain ⟨W, hW⟩ : ∃ W, W = w.alloc (.cells #[.int .i64 r.wide, .int .i64 r.tall, .slice a r.cells.length cap] 25) := ⟨_, rfl⟩
  rw [← hW] at R0 B0 ⊢
  clear hW
  generalize hX : w.heap.size = X at R0 ⊢
  obtain ⟨x0, x1, x2⟩ := R0.out.c3
  have sX := R0.out.lt
  have HB0 := Lib.hid (show Below W.heap.size W W.drew from (Below.refl _ _).drew)
  go_region_held3 (fun w' => w'.cell? ⟨X, 0, none⟩ = some (.int .i64 r.wide) ∧ w'.cell? ⟨X, 1, none⟩ = some (.int .i64 r.tall) ∧ w'.cell? ⟨X, 2, none⟩ = some (.slice a r.cells.length cap))
    (first | with_reducible exact K5.out | with_reducible exact K4.out | (go_keep; done) | assumption)
    ((first
      | (go_at_call 49; refine (sComplete_any _ _ r (bareL r) _ (R4.out.v) (own_il O4.out)).mono ?_; rw [HQ.out]; rintro e w5 ⟨v5, rfl, ho5, hb5⟩; (have O5 := Lib.hid (ho5.mono (Nat.le_trans B0.out.size (Nat.le_trans HB0.out.size hb4s)))); (have R5 := Lib.hid (R4.out.on hb5)); (have K5 := Lib.hid R5.out.c3); (have B5 := Lib.hid (B4.out.trans (hb5.mono B4.out.size))); clear ho5 hb5)
      | (go_at_call 47; refine (sLaidBare_any _ r _ ((R0.out.on HB0.out).v)).mono ?_; rintro e w4 ⟨v4, rfl, ho4, hb4⟩; (have O4 := Lib.hid ho4); (have hb4s := hb4.size); (have R4 := Lib.hid ((R0.out.on HB0.out).on hb4)); (have K4 := Lib.hid R4.out.c3); (have B4 := Lib.hid (B0.out.trans ((HB0.out.trans (hb4.mono HB0.out.size)).mono B0.out.size))); clear ho4 hb4)))
  go_wp2
  go_ret2
  exact boolp_one (P := True) _ q.1 q.2 HR.out O5.out B5.out
end Go.Proofs.YtklifibiadiinaaDoor
