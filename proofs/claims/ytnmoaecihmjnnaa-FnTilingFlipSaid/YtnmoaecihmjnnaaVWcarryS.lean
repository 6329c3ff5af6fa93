/- Walks: TilingTurn, TilingFlip of the reference. -/
import Derived.Test.YtnmoaecihmjnnaaVWone
import Derived.Test.YtnmoaecihmjnnaaVWd
import Derived.Test.YtnmoaecihmjnnaaZb
set_option linter.unusedVariables false
namespace Go.Proofs.Ytnmoaecihmjnnaa
open Go.RowKit Domi

theorem car_made {w w1 : World} {r : Reg} {s : Value} {cs : Array Value} {n : Nat} (S : Sep w none w1 [.box w.heap.size #[.int .i64 r.wide, .int .i64 r.tall, s] 25]) (hcs : Hid (cs = Array.replicate n (.int .i64 0))) (hn : n ≤ 1000) (tt : Nat → Nat) (f : Int → Int) (L : List Int) (hl : L.length = n) :
    Sep w none (w1.alloc (.cells cs 3)) [.box w.heap.size #[.int .i64 r.wide, .int .i64 r.tall, s] 25, .row 3 (.slice (some ⟨w1.heap.size, 0, none⟩) n n) ((putI tt f L 0).map (Value.int .i64))] := by
  have := S.made (e := 3) hcs (by omega)
  rw [show (putI tt f L 0).map (Value.int .i64) = List.replicate n (Value.int .i64 0) by simp [putI, hl]]
  exact this
theorem mirI_term {r : Reg} {c : Int} (hw : 1 ≤ r.wide ∧ r.wide ≤ 6) (_ : 1 ≤ r.tall ∧ r.tall ≤ 6) (h0 : 0 ≤ c) (h : c ≤ 100) : 0 ≤ c / r.wide * r.wide ∧ c / r.wide * r.wide ≤ 100 := by
  have m1 := Int.emod_nonneg c (b := r.wide) (by omega)
  have m3 := Int.ediv_nonneg (a := c) (b := r.wide) (by omega) (by omega)
  have := Int.mul_ediv_add_emod c r.wide
  rw [Int.mul_comm] at this
  exact ⟨Int.mul_nonneg m3 (by omega), by omega⟩
theorem turnI_term {r : Reg} {c : Int} (hw : 1 ≤ r.wide ∧ r.wide ≤ 6) (ht : 1 ≤ r.tall ∧ r.tall ≤ 6) (h0 : 0 ≤ c) (_ : c ≤ 100) : 0 ≤ c % r.wide * r.tall ∧ c % r.wide * r.tall ≤ 36 := by
  have m1 := Int.emod_nonneg c (b := r.wide) (by omega)
  have m2 := Int.emod_lt_of_pos c (b := r.wide) (by omega)
  refine ⟨Int.mul_nonneg m1 (by omega), ?_⟩
  have := Int.mul_le_mul (a := c % r.wide) (b := r.tall) (c := 6) (d := 6) (by omega) (by omega) (by omega) (by omega)
  omega

set_option maxRecDepth 100000 in
set_option maxHeartbeats 4000000 in
theorem sTilingTurn_any (v u : Value) (r : Reg) (L : List Int) (w : World) (h : RegV w v r) (hu : Il w u L) : Calls Try.prog 33 #[v, u] w (RetI (turnLR r L) w) := by
  obtain ⟨a, cap, rfl, hs, hlc, hcm⟩ := h.opened
  have S0 := Lib.hid ((Sep.start w none).box #[.int .i64 r.wide, .int .i64 r.tall, .slice a r.cells.length cap] 25)
  have HS := Lib.hid hs
  have HU := Lib.hid hu
  obtain ⟨ua, uc, rfl, hul, hum, _⟩ := hu.opened
  have RV : Hid (∀ w', Below w.heap.size w w' → RegV w' (.agg #[.int .i64 r.wide, .int .i64 r.tall, .slice a r.cells.length cap]) r) := Lib.hid fun w' hb => ⟨_, rfl, HS.out.below hb⟩
  clear h hs hu
  cases hk : laidOk r L
  · go_enter Try.func33, Try.ntmps33
    go_wp2_with (fail)
    refine (sLaidOk_is _ _ r L _ (RV.out _ S0.out.bel) (HU.out.below S0.out.bel) false hk).mono ?_
    rintro e w1 ⟨rfl, hb⟩
    have S1 := Lib.hid (S0.out.below hb)
    clear hb
    go_wp2
    go_ret
    exact ⟨_, rfl, by unfold turnLR; rw [hk]; exact own_il (own_empty S1.out.bel), below_two S1.out.bel _⟩
  · obtain ⟨hv, hlen, _⟩ := laidOk_iff.1 hk
    obtain ⟨v1, v2, v3, _⟩ := Reg.valid_iff.1 hv
    have hA := area_in v1 v2
    have hl1 : 0 < L.length := by omega
    have hl36 : L.length ≤ 36 := by omega
    obtain ⟨ub, uo, uc', hue, hub, hucell, -, -⟩ := Il.pos HU.out hl1
    obtain ⟨rfl, rfl⟩ : ua = some ⟨ub, uo, none⟩ ∧ uc = uc' := by simpa using hue
    have HUC := Lib.hid hucell
    have HK := Lib.hid hk
    have HV3 := Lib.hid v3
    have HN := Lib.hid hlen
    clear hk hlen v3 hue hucell
    go_enter Try.func33, Try.ntmps33
    go_wp2_with (fail)
    refine (sLaidOk_is _ _ r L _ (RV.out _ S0.out.bel) (HU.out.below S0.out.bel) true HK.out).mono ?_
    rintro e w1 ⟨rfl, hb⟩
    have S1 := Lib.hid (S0.out.below hb)
    clear hb S0
    go_wp2_with (at_make; refine list_make elem_ints (.int .i64 0) zero_int rfl L.length (.tmp 13) (.tmp 13) rfl rfl (L.length : Int) ?_ ?_ rfl ?_ ?_ ?_; rfl; rfl; omega; omega; intro cs hcs; have S2 := Lib.hid (car_made S1.out hcs (by omega) (turnN r) turnWay L rfl))
    clear hcs
    obtain ⟨W, hW⟩ : ∃ W, W = w1.alloc (.cells cs 3) := ⟨_, rfl⟩
    rw [← hW] at S2 ⊢
    clear hW S1
    generalize hgg : w1.heap.size = g at S2 ⊢
    have S2 : Hid (Sep w none W [.box w.heap.size #[.int .i64 r.wide, .int .i64 r.tall, .slice a r.cells.length cap] 25, .row 3 (.slice (some ⟨g, 0, none⟩) L.length L.length) ((putI (turnN r) turnWay L 0).map (Value.int .i64))]) := S2
    go_loopw [6] (fun i wr => ∃ k : Nat, k ≤ L.length ∧ i = .int .i64 k ∧ Sep w none wr [.box w.heap.size #[.int .i64 r.wide, .int .i64 r.tall, .slice a r.cells.length cap] 25, .row 3 (.slice (some ⟨g, 0, none⟩) L.length L.length) ((putI (turnN r) turnWay L k).map (Value.int .i64))]) (fun i _ => L.length - (intOf i).toNat)
    case atStart => exact ⟨0, Nat.zero_le _, rfl, S2.out⟩
    case round =>
      clear S2
      obtain ⟨k, hk, rfl, S⟩ := hrel
      have HD := Lib.hid S
      clear S
      obtain ⟨x0, x1, x2⟩ := HD.out.c3 0 rfl
      have sX := HD.out.lt 0 rfl rfl
      by_cases hlt : k < L.length
      · have hki : (k : Int) < r.wide * r.tall := by have := HV3.out; have := HN.out; omega
        obtain ⟨t1, t2⟩ := turnI_in (r := r) (c := k) (by omega) (by omega) (by omega) (by omega)
        have t3 : (turnI r k).toNat < L.length := by have := HV3.out; have := HN.out; omega
        have t2' : turnI r k < (L.length : Int) := by have := HV3.out; have := HN.out; omega
        have hbd := laidOk_bd HK.out k
        have huk := HUC.out wr HD.out.bel k hlt
        obtain ⟨x, hx⟩ : ∃ x, L.getD k 0 = x := ⟨_, rfl⟩
        have HX := Lib.hid hx
        rw [hx] at hbd
        have HUC : Hid (∀ w', Below w.heap.size w w' → ∀ i, i < L.length → w'.cell? ⟨ub, uo + i, none⟩ = some (.int .i64 (L.getD i 0))) := HUC
        rw [hx] at huk
        have hub2 : ub < wr.heap.size := Nat.lt_of_lt_of_le hub HD.out.bel.size
        have m1 := Int.emod_nonneg (k : Int) (b := r.wide) (by omega)
        have m2 := Int.emod_lt_of_pos (k : Int) (b := r.wide) (by omega)
        have m3 := Int.ediv_nonneg (a := (k : Int)) (b := r.wide) (by omega) (by omega)
        have m4 := Int.ediv_le_self (a := (k : Int)) r.wide (by omega)
        have m5 := turnI_term (r := r) (c := k) v1 v2 (by omega) (by omega)
        clear hki t2 hx
        by_cases hx0 : x = 0
        · subst hx0
          have hsk := putI_skip (tt := turnN r) (f := turnWay) (l := L) (k := k) (by rw [HN.out]; exact (turn_carry hv).one) hlt (by rw [HX.out]; rfl)
          have HSK := Lib.hid hsk
          clear hsk
          go_wp2
          go_roundw
          case rel => exact ⟨k + 1, by omega, by go_num, by rw [HSK.out]; exact HD.out⟩
          case measure => simp [intOf]; omega
        · have hxe : (x != 0) = true := by simpa using hx0
          have HFX := Lib.hid (show x % 4 + 1 = turnWay (L.getD k 0) by rw [HX.out]; unfold turnWay; rw [if_neg hx0])
          go_wp2_with (fail)
          have hLc : ∀ (T : Later wr) (b o : Nat), b < wr.heap.size → T.x.cell? ⟨b, o, none⟩ = wr.cell? ⟨b, o, none⟩ := Later.cell
          unfold turnI at t1 t2'
          refine wp_region_later 24 (by kernel_rfl) (by kernel_rfl) ?_
          simp only [List.take_succ_cons, List.take_zero, List.drop_succ_cons, List.drop_zero]
          repeat (go_big_quiet_step (fail))
          refine wpQuiet_nil ?_
          intro T
          obtain ⟨w3, hw3⟩ : ∃ y, y = T.x := ⟨_, rfl⟩
          have S3 := HD.out.later T
          rw [← hw3] at S3 ⊢
          have S3 := Lib.hid S3
          clear hw3 hLc huk hub2 HD x0 x1 x2 sX
          clear T
          obtain ⟨z0, z1, z2⟩ := own_num (S3.out.own 1 rfl) (j := (turnI r k).toNat) (by rw [putI_length]; exact t3)
          have S4 := S3.out.set 1 rfl (turnI r k).toNat (.int .i64 (x % 4 + 1))
          rw [← List.map_set, show (putI (turnN r) turnWay L k).set (turnI r k).toNat (x % 4 + 1) = putI (turnN r) turnWay L (k + 1) by rw [HFX.out]; rfl] at S4
          have S4 := Lib.hid S4
          unfold turnI at z1 z0 S4
          clear S3
          go_wp2
          go_roundw
          case rel => exact ⟨k + 1, by omega, by go_num, S4.out⟩
          case measure => simp [intOf]; omega
      · have e : k = L.length := by omega
        subst e
        go_wp2
        go_ret
        exact ⟨_, rfl, by unfold turnLR; rw [if_pos HK.out]; exact own_il (HD.out.own 1 rfl), HD.out.bel⟩

set_option maxRecDepth 100000 in
set_option maxHeartbeats 4000000 in
theorem sTilingFlip_any (v u : Value) (r : Reg) (L : List Int) (w : World) (h : RegV w v r) (hu : Il w u L) : Calls Try.prog 40 #[v, u] w (RetI (mirLR r L) w) := by
  obtain ⟨a, cap, rfl, hs, hlc, hcm⟩ := h.opened
  have S0 := Lib.hid ((Sep.start w none).box #[.int .i64 r.wide, .int .i64 r.tall, .slice a r.cells.length cap] 25)
  have HS := Lib.hid hs
  have HU := Lib.hid hu
  obtain ⟨ua, uc, rfl, hul, hum, _⟩ := hu.opened
  have RV : Hid (∀ w', Below w.heap.size w w' → RegV w' (.agg #[.int .i64 r.wide, .int .i64 r.tall, .slice a r.cells.length cap]) r) := Lib.hid fun w' hb => ⟨_, rfl, HS.out.below hb⟩
  clear h hs hu
  cases hk : laidOk r L
  · go_enter Try.func40, Try.ntmps40
    go_wp2_with (fail)
    refine (sLaidOk_is _ _ r L _ (RV.out _ S0.out.bel) (HU.out.below S0.out.bel) false hk).mono ?_
    rintro e w1 ⟨rfl, hb⟩
    have S1 := Lib.hid (S0.out.below hb)
    clear hb
    go_wp2
    go_ret
    exact ⟨_, rfl, by unfold mirLR; rw [hk]; exact own_il (own_empty S1.out.bel), below_two S1.out.bel _⟩
  · obtain ⟨hv, hlen, _⟩ := laidOk_iff.1 hk
    obtain ⟨v1, v2, v3, _⟩ := Reg.valid_iff.1 hv
    have hA := area_in v1 v2
    have hl1 : 0 < L.length := by omega
    have hl36 : L.length ≤ 36 := by omega
    obtain ⟨ub, uo, uc', hue, hub, hucell, -, -⟩ := Il.pos HU.out hl1
    obtain ⟨rfl, rfl⟩ : ua = some ⟨ub, uo, none⟩ ∧ uc = uc' := by simpa using hue
    have HUC := Lib.hid hucell
    have HK := Lib.hid hk
    have HV3 := Lib.hid v3
    have HN := Lib.hid hlen
    clear hk hlen v3 hue hucell
    go_enter Try.func40, Try.ntmps40
    go_wp2_with (fail)
    refine (sLaidOk_is _ _ r L _ (RV.out _ S0.out.bel) (HU.out.below S0.out.bel) true HK.out).mono ?_
    rintro e w1 ⟨rfl, hb⟩
    have S1 := Lib.hid (S0.out.below hb)
    clear hb S0
    go_wp2_with (at_make; refine list_make elem_ints (.int .i64 0) zero_int rfl L.length (.tmp 14) (.tmp 14) rfl rfl (L.length : Int) ?_ ?_ rfl ?_ ?_ ?_; rfl; rfl; omega; omega; intro cs hcs; have S2 := Lib.hid (car_made S1.out hcs (by omega) (mirN r) flipWay L rfl))
    clear hcs
    obtain ⟨W, hW⟩ : ∃ W, W = w1.alloc (.cells cs 3) := ⟨_, rfl⟩
    rw [← hW] at S2 ⊢
    clear hW S1
    generalize hgg : w1.heap.size = g at S2 ⊢
    have S2 : Hid (Sep w none W [.box w.heap.size #[.int .i64 r.wide, .int .i64 r.tall, .slice a r.cells.length cap] 25, .row 3 (.slice (some ⟨g, 0, none⟩) L.length L.length) ((putI (mirN r) flipWay L 0).map (Value.int .i64))]) := S2
    go_loopw [6] (fun i wr => ∃ k : Nat, k ≤ L.length ∧ i = .int .i64 k ∧ Sep w none wr [.box w.heap.size #[.int .i64 r.wide, .int .i64 r.tall, .slice a r.cells.length cap] 25, .row 3 (.slice (some ⟨g, 0, none⟩) L.length L.length) ((putI (mirN r) flipWay L k).map (Value.int .i64))]) (fun i _ => L.length - (intOf i).toNat)
    case atStart => exact ⟨0, Nat.zero_le _, rfl, S2.out⟩
    case round =>
      clear S2
      obtain ⟨k, hk, rfl, S⟩ := hrel
      have HD := Lib.hid S
      clear S
      obtain ⟨x0, x1, x2⟩ := HD.out.c3 0 rfl
      have sX := HD.out.lt 0 rfl rfl
      by_cases hlt : k < L.length
      · have hki : (k : Int) < r.wide * r.tall := by have := HV3.out; have := HN.out; omega
        obtain ⟨t1, t2⟩ := mirI_in (r := r) (c := k) (by omega) (by omega) (by omega)
        have t3 : (mirI r k).toNat < L.length := by have := HV3.out; have := HN.out; omega
        have t2' : mirI r k < (L.length : Int) := by have := HV3.out; have := HN.out; omega
        have hbd := laidOk_bd HK.out k
        have huk := HUC.out wr HD.out.bel k hlt
        obtain ⟨x, hx⟩ : ∃ x, L.getD k 0 = x := ⟨_, rfl⟩
        have HX := Lib.hid hx
        rw [hx] at hbd
        have HUC : Hid (∀ w', Below w.heap.size w w' → ∀ i, i < L.length → w'.cell? ⟨ub, uo + i, none⟩ = some (.int .i64 (L.getD i 0))) := HUC
        rw [hx] at huk
        have hub2 : ub < wr.heap.size := Nat.lt_of_lt_of_le hub HD.out.bel.size
        have m1 := Int.emod_nonneg (k : Int) (b := r.wide) (by omega)
        have m2 := Int.emod_lt_of_pos (k : Int) (b := r.wide) (by omega)
        have m3 := Int.ediv_nonneg (a := (k : Int)) (b := r.wide) (by omega) (by omega)
        have m4 := Int.ediv_le_self (a := (k : Int)) r.wide (by omega)
        have m5 := mirI_term (r := r) (c := k) v1 v2 (by omega) (by omega)
        clear hki t2 hx
        by_cases h1 : x = 1
        · skip
          subst h1
          have HFX := Lib.hid (show (3 : Int) = flipWay (L.getD k 0) by rw [HX.out]; rfl)
          go_wp2_with (fail)
          refine (l2Back_any _ _ (by omega)).mono ?_
          rintro e wb ⟨rfl, hb⟩
          have HD := Lib.hid (HD.out.below hb)
          have huk := HUC.out wb HD.out.bel k hlt
          have hub2 := Nat.lt_of_lt_of_le hub2 hb.size
          clear hb x0 x1 x2 sX
          obtain ⟨x0, x1, x2⟩ := HD.out.c3 0 rfl
          have sX := HD.out.lt 0 rfl rfl
          rw [show backI 1 = 3 from rfl]
          go_wp2_with (fail)
          have hLc : ∀ (T : Later wb) (b o : Nat), b < wb.heap.size → T.x.cell? ⟨b, o, none⟩ = wb.cell? ⟨b, o, none⟩ := Later.cell
          unfold mirI at t1 t2'
          refine wp_region_later 19 (by kernel_rfl) (by kernel_rfl) ?_
          simp only [List.take_succ_cons, List.take_zero, List.drop_succ_cons, List.drop_zero]
          repeat (go_big_quiet_step (fail))
          refine wpQuiet_nil ?_
          intro T
          obtain ⟨w3, hw3⟩ : ∃ y, y = T.x := ⟨_, rfl⟩
          have S3 := HD.out.later T
          rw [← hw3] at S3 ⊢
          have S3 := Lib.hid S3
          clear hw3 hLc huk hub2 HD x0 x1 x2 sX
          clear T
          obtain ⟨z0, z1, z2⟩ := own_num (S3.out.own 1 rfl) (j := (mirI r k).toNat) (by rw [putI_length]; exact t3)
          have S4 := S3.out.set 1 rfl (mirI r k).toNat (.int .i64 (3))
          rw [← List.map_set, show (putI (mirN r) flipWay L k).set (mirI r k).toNat (3) = putI (mirN r) flipWay L (k + 1) by rw [HFX.out]; rfl] at S4
          have S4 := Lib.hid S4
          unfold mirI at z1 z0 S4
          clear S3
          go_wp2
          go_roundw
          case rel => exact ⟨k + 1, by omega, by go_num, S4.out⟩
          case measure => simp [intOf]; omega
        · by_cases h3 : x = 3
          · skip
            subst h3
            have HFX := Lib.hid (show (1 : Int) = flipWay (L.getD k 0) by rw [HX.out]; rfl)
            go_wp2_with (fail)
            refine (l2Back_any _ _ (by omega)).mono ?_
            rintro e wb ⟨rfl, hb⟩
            have HD := Lib.hid (HD.out.below hb)
            have huk := HUC.out wb HD.out.bel k hlt
            have hub2 := Nat.lt_of_lt_of_le hub2 hb.size
            clear hb x0 x1 x2 sX
            obtain ⟨x0, x1, x2⟩ := HD.out.c3 0 rfl
            have sX := HD.out.lt 0 rfl rfl
            rw [show backI 3 = 1 from rfl]
            go_wp2_with (fail)
            have hLc : ∀ (T : Later wb) (b o : Nat), b < wb.heap.size → T.x.cell? ⟨b, o, none⟩ = wb.cell? ⟨b, o, none⟩ := Later.cell
            unfold mirI at t1 t2'
            refine wp_region_later 19 (by kernel_rfl) (by kernel_rfl) ?_
            simp only [List.take_succ_cons, List.take_zero, List.drop_succ_cons, List.drop_zero]
            repeat (go_big_quiet_step (fail))
            refine wpQuiet_nil ?_
            intro T
            obtain ⟨w3, hw3⟩ : ∃ y, y = T.x := ⟨_, rfl⟩
            have S3 := HD.out.later T
            rw [← hw3] at S3 ⊢
            have S3 := Lib.hid S3
            clear hw3 hLc huk hub2 HD x0 x1 x2 sX
            clear T
            obtain ⟨z0, z1, z2⟩ := own_num (S3.out.own 1 rfl) (j := (mirI r k).toNat) (by rw [putI_length]; exact t3)
            have S4 := S3.out.set 1 rfl (mirI r k).toNat (.int .i64 (1))
            rw [← List.map_set, show (putI (mirN r) flipWay L k).set (mirI r k).toNat (1) = putI (mirN r) flipWay L (k + 1) by rw [HFX.out]; rfl] at S4
            have S4 := Lib.hid S4
            unfold mirI at z1 z0 S4
            clear S3
            go_wp2
            go_roundw
            case rel => exact ⟨k + 1, by omega, by go_num, S4.out⟩
            case measure => simp [intOf]; omega
          · skip
            have h1e : (x == 1) = false := by simpa using h1
            have h3e : (x == 3) = false := by simpa using h3
            have HFX := Lib.hid (show x = flipWay (L.getD k 0) by rw [HX.out]; unfold flipWay; rw [if_neg h1, if_neg h3])
            go_wp2_with (fail)
            have hLc : ∀ (T : Later wr) (b o : Nat), b < wr.heap.size → T.x.cell? ⟨b, o, none⟩ = wr.cell? ⟨b, o, none⟩ := Later.cell
            unfold mirI at t1 t2'
            refine wp_region_later 19 (by kernel_rfl) (by kernel_rfl) ?_
            simp only [List.take_succ_cons, List.take_zero, List.drop_succ_cons, List.drop_zero]
            repeat (go_big_quiet_step (fail))
            refine wpQuiet_nil ?_
            intro T
            obtain ⟨w3, hw3⟩ : ∃ y, y = T.x := ⟨_, rfl⟩
            have S3 := HD.out.later T
            rw [← hw3] at S3 ⊢
            have S3 := Lib.hid S3
            clear hw3 hLc huk hub2 HD x0 x1 x2 sX
            clear T
            obtain ⟨z0, z1, z2⟩ := own_num (S3.out.own 1 rfl) (j := (mirI r k).toNat) (by rw [putI_length]; exact t3)
            have S4 := S3.out.set 1 rfl (mirI r k).toNat (.int .i64 (x))
            rw [← List.map_set, show (putI (mirN r) flipWay L k).set (mirI r k).toNat (x) = putI (mirN r) flipWay L (k + 1) by rw [HFX.out]; rfl] at S4
            have S4 := Lib.hid S4
            unfold mirI at z1 z0 S4
            clear S3
            go_wp2
            go_roundw
            case rel => exact ⟨k + 1, by omega, by go_num, S4.out⟩
            case measure => simp [intOf]; omega
      · have e : k = L.length := by omega
        subst e
        go_wp2
        go_ret
        exact ⟨_, rfl, by unfold mirLR; rw [if_pos HK.out]; exact own_il (HD.out.own 1 rfl), HD.out.bel⟩

end Go.Proofs.Ytnmoaecihmjnnaa
