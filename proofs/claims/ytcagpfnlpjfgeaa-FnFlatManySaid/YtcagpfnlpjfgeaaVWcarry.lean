/- Walks: carry, TilingTurn, TilingFlip of the program. -/
import Derived.Test.YtcagpfnlpjfgeaaVWmany
import Derived.Test.YtcagpfnlpjfgeaaVWd
import Derived.Test.YtcagpfnlpjfgeaaZb
set_option linter.unusedVariables false
namespace Go.Proofs.Ytcagpfnlpjfgeaa
open Go.RowKit Domi

theorem car_start {w : World} {cs : Array Value} {n : Nat} (hcs : Hid (cs = Array.replicate n (.int .i64 0))) (hn : n ≤ 1000) (tt : Nat → Nat) (f : Int → Int) (L : List Int) (hl : L.length = n) :
    Sep w none (w.alloc (.cells cs 3)) [.row 3 (.slice (some ⟨w.heap.size, 0, none⟩) n n) ((putI tt f L 0).map (Value.int .i64))] := by
  have := (Sep.start w none).made (e := 3) hcs (by omega)
  rw [show (putI tt f L 0).map (Value.int .i64) = List.replicate n (Value.int .i64 0) by simp [putI, hl]]
  exact this
theorem lit_cell {w : World} {t : Value} {l : List Int} {x y : Int} (h : Il w t l) (h5 : l.length = 5) (hx : 0 ≤ x ∧ x ≤ 4) (hy : l.getD x.toNat 0 = y) : ∃ b off cap, t = .slice (some ⟨b, off, none⟩) 5 cap ∧ b < w.heap.size ∧ (∀ w', Below w.heap.size w w' → w'.cell? ⟨b, off + x.toNat, none⟩ = some (.int .i64 y)) ∧ 5 ≤ cap ∧ cap ≤ 9223372036854775807 := by
  obtain ⟨b, off, cap, rfl, hb, hc, h1, h2⟩ := Il.pos h (by omega)
  rw [h5] at h1 ⊢
  exact ⟨b, off, cap, rfl, hb, fun w' hw => by rw [hc w' hw x.toNat (by omega), hy], h1, h2⟩

theorem turn_lit {x : Int} (h : 0 ≤ x ∧ x ≤ 4) : ([0, 2, 3, 4, 1] : List Int).getD x.toNat 0 = turnWay x := by
  have hc : x = 0 ∨ x = 1 ∨ x = 2 ∨ x = 3 ∨ x = 4 := by omega
  rcases hc with rfl | rfl | rfl | rfl | rfl <;> rfl
set_option maxRecDepth 100000 in
set_option maxHeartbeats 2000000 in
theorem carry_turned (v u t : Value) (r : Reg) (L : List Int) (w : World) (h : RegV w v r) (hu : Il w u L) (ht : Il w t [0, 2, 3, 4, 1]) (hk : laidOk r L = true) :
    Calls Try.prog 73 #[u, .func (.func 72) #[v] #[], t] w (RetI (turnL r L) w) := by
  obtain ⟨hv, hlen, _⟩ := laidOk_iff.1 hk
  obtain ⟨v1, v2, v3, _⟩ := Reg.valid_iff.1 hv
  have hA := area_in v1 v2
  have hl1 : 0 < L.length := by omega
  have hl36 : L.length ≤ 36 := by omega
  obtain ⟨a, cap, rfl, hs, hlc, hcm⟩ := h.opened
  have HS := Lib.hid hs
  have HT := Lib.hid ht
  obtain ⟨ub, uo, uc, rfl, hub, hucell, hul, hum⟩ := Il.pos hu hl1
  have HUC := Lib.hid hucell
  have HK := Lib.hid hk
  have HV3 := Lib.hid v3
  have HN := Lib.hid hlen
  obtain ⟨ta, tc, rfl, _, _, _⟩ := ht.opened
  clear h hs hu hucell hk hlen v3 ht
  go_enter Try.func73, Try.ntmps73
  go_wp2_with (at_make; refine list_make elem_ints (.int .i64 0) zero_int rfl L.length (.tmp 11) (.tmp 11) rfl rfl (L.length : Int) ?_ ?_ rfl ?_ ?_ ?_; rfl; rfl; omega; omega; intro cs hcs; have S0 := Lib.hid (car_start (w := w) hcs (by omega) (turnN r) turnWay L rfl))
  clear hcs
  obtain ⟨W, hW⟩ : ∃ W, W = w.alloc (.cells cs 3) := ⟨_, rfl⟩
  rw [← hW] at S0 ⊢
  clear hW
  generalize hgg : w.heap.size = g at S0 ⊢
  have S0 : Hid (Sep w none W [.row 3 (.slice (some ⟨g, 0, none⟩) L.length L.length) ((putI (turnN r) turnWay L 0).map (Value.int .i64))]) := S0
  go_loopw [15] (fun i wr => ∃ k : Nat, k ≤ L.length ∧ i = .int .i64 k ∧ Sep w none wr [.row 3 (.slice (some ⟨g, 0, none⟩) L.length L.length) ((putI (turnN r) turnWay L k).map (Value.int .i64))]) (fun i _ => L.length - (intOf i).toNat)
  case atStart => exact ⟨0, Nat.zero_le _, rfl, S0.out⟩
  case round =>
    clear S0
    obtain ⟨k, hk, rfl, S⟩ := hrel
    have HD := Lib.hid S
    clear S
    by_cases hlt : k < L.length
    · have hki : (k : Int) < r.wide * r.tall := by have := HV3.out; have := HN.out; omega
      obtain ⟨t1, t2⟩ := turnI_in (r := r) (c := k) (by omega) (by omega) (by omega) (by omega)
      have t3 : (turnI r k).toNat < L.length := by have := HV3.out; have := HN.out; omega
      have t2' : turnI r k < (L.length : Int) := by have := HV3.out; have := HN.out; omega
      have hbd := laidOk_bd HK.out k
      have huk := HUC.out wr HD.out.bel k hlt
      obtain ⟨x, hx⟩ : ∃ x, L.getD k 0 = x := ⟨_, rfl⟩
      rw [hx] at huk hbd
      have HX := Lib.hid hx
      clear hx
      obtain ⟨tb, to_, tc', hte, htb, htcell, htc, htm⟩ := lit_cell HT.out rfl hbd (turn_lit hbd)
      obtain ⟨rfl, rfl⟩ : ta = some ⟨tb, to_, none⟩ ∧ tc = tc' := by simpa using hte
      have htk := htcell wr HD.out.bel
      have HTC := Lib.hid htcell
      have hx5 : x < 5 := by omega
      have hub2 : ub < wr.heap.size := Nat.lt_of_lt_of_le hub HD.out.bel.size
      have htb2 : tb < wr.heap.size := Nat.lt_of_lt_of_le htb HD.out.bel.size
      have hLc : ∀ (T : Later wr) (b o : Nat), b < wr.heap.size → T.x.cell? ⟨b, o, none⟩ = wr.cell? ⟨b, o, none⟩ := Later.cell
      have RT : Hid (∀ T : Later wr, RegV T.x (.agg #[.int .i64 r.wide, .int .i64 r.tall, .slice a r.cells.length cap]) r) := Lib.hid fun T => ⟨_, rfl, HS.out.below (HD.out.later T).bel⟩
      clear hte htcell hki t2
      go_wp2_with (fail)
      refine wp_region_later 9 (by kernel_rfl) (by kernel_rfl) ?_
      simp only [List.take_succ_cons, List.take_zero, List.drop_succ_cons, List.drop_zero]
      repeat (go_big_quiet_step (fail))
      go_big_quiet_step (with_reducible exact calls_later _ (turned_any _ r k _ (RT.out _) v1 v2 (by omega)))
      repeat (go_big_quiet_step (fail))
      refine wpQuiet_nil ?_
      intro T
      obtain ⟨w3, hw3⟩ : ∃ y, y = T.x := ⟨_, rfl⟩
      have S3 := HD.out.later T
      rw [← hw3] at S3 ⊢
      have S3 := Lib.hid S3
      clear hw3 hLc RT huk htk hub2 htb2 HD
      clear T
      obtain ⟨z0, z1, z2⟩ := own_num (S3.out.own 0 rfl) (j := (turnI r k).toNat) (by rw [putI_length]; exact t3)
      have S4 := S3.out.set 0 rfl (turnI r k).toNat (.int .i64 (turnWay x))
      rw [← List.map_set, show (putI (turnN r) turnWay L k).set (turnI r k).toNat (turnWay x) = putI (turnN r) turnWay L (k + 1) by rw [← HX.out]; rfl] at S4
      have S4 := Lib.hid S4
      clear S3
      go_wp2
      go_roundw
      case rel => exact ⟨k + 1, by omega, by go_num, S4.out⟩
      case measure => simp [intOf]; omega
    · have e : k = L.length := by omega
      subst e
      go_wp2
      go_ret
      exact ⟨_, rfl, own_il (HD.out.own 0 rfl), HD.out.bel⟩
set_option maxHeartbeats 1000000 in
theorem TilingTurn_any (v u : Value) (r : Reg) (L : List Int) (w : World) (h : RegV w v r) (hu : Il w u L) : Calls Try.prog 28 #[v, u] w (RetI (turnLR r L) w) := by
  obtain ⟨a, cap, rfl, hs, hlc, hcm⟩ := h.opened
  have R0 := Lib.hid (RB.new hs)
  have B0 := Lib.hid (below_alloc w (.cells #[.int .i64 r.wide, .int .i64 r.tall, .slice a r.cells.length cap] 25))
  have HU := Lib.hid hu
  clear h hs hu
  go_enter Try.func28, Try.ntmps28
  go_wp2_with (fail)
  cases hk : laidOk r L
  · refine (LaidOk_is _ _ r L _ R0.out.v (HU.out.below B0.out) false hk).mono ?_
    rintro e w1 ⟨rfl, hb⟩
    have HB := Lib.hid (B0.out.trans (hb.mono B0.out.size))
    clear hb
    go_wp2
    go_ret
    exact ⟨_, rfl, by unfold turnLR; rw [hk]; exact Sl.nil _, HB.out⟩
  · refine (LaidOk_is _ _ r L _ R0.out.v (HU.out.below B0.out) true hk).mono ?_
    rintro e w1 ⟨rfl, hb⟩
    have R1 := Lib.hid (R0.out.on hb)
    have HB := Lib.hid (B0.out.trans (hb.mono B0.out.size))
    clear hb
    obtain ⟨x0, x1, x2⟩ := R1.out.c3
    have HK := Lib.hid hk
    clear hk
    go_wp2_with (fail)
    have HB2 := Lib.hid (below_two HB.out (.cells (([0, 2, 3, 4, 1] : List Int).map (Value.int .i64)).toArray 3))
    have R2 := Lib.hid (R1.out.on (below_alloc w1 (.cells (([0, 2, 3, 4, 1] : List Int).map (Value.int .i64)).toArray 3)))
    refine (carry_turned _ _ _ r L _ R2.out.v (HU.out.below HB2.out) (lit_il (w := w1) [0, 2, 3, 4, 1] (by simp)) HK.out).mono ?_
    rintro e w2 ⟨v2, rfl, hv2, hb⟩
    have HB3 := Lib.hid (HB2.out.trans (hb.mono HB2.out.size))
    have V2 := Lib.hid hv2
    clear hb hv2 x0 x1 x2
    go_wp2
    go_ret
    exact ⟨_, rfl, by unfold turnLR; rw [if_pos HK.out]; exact V2.out, HB3.out⟩

theorem mir_lit {x : Int} (h : 0 ≤ x ∧ x ≤ 4) : ([0, 3, 2, 1, 4] : List Int).getD x.toNat 0 = flipWay x := by
  have hc : x = 0 ∨ x = 1 ∨ x = 2 ∨ x = 3 ∨ x = 4 := by omega
  rcases hc with rfl | rfl | rfl | rfl | rfl <;> rfl
set_option maxRecDepth 100000 in
set_option maxHeartbeats 2000000 in
theorem carry_mirrored (v u t : Value) (r : Reg) (L : List Int) (w : World) (h : RegV w v r) (hu : Il w u L) (ht : Il w t [0, 3, 2, 1, 4]) (hk : laidOk r L = true) :
    Calls Try.prog 73 #[u, .func (.func 87) #[v] #[], t] w (RetI (mirL r L) w) := by
  obtain ⟨hv, hlen, _⟩ := laidOk_iff.1 hk
  obtain ⟨v1, v2, v3, _⟩ := Reg.valid_iff.1 hv
  have hA := area_in v1 v2
  have hl1 : 0 < L.length := by omega
  have hl36 : L.length ≤ 36 := by omega
  obtain ⟨a, cap, rfl, hs, hlc, hcm⟩ := h.opened
  have HS := Lib.hid hs
  have HT := Lib.hid ht
  obtain ⟨ub, uo, uc, rfl, hub, hucell, hul, hum⟩ := Il.pos hu hl1
  have HUC := Lib.hid hucell
  have HK := Lib.hid hk
  have HV3 := Lib.hid v3
  have HN := Lib.hid hlen
  obtain ⟨ta, tc, rfl, _, _, _⟩ := ht.opened
  clear h hs hu hucell hk hlen v3 ht
  go_enter Try.func73, Try.ntmps73
  go_wp2_with (at_make; refine list_make elem_ints (.int .i64 0) zero_int rfl L.length (.tmp 11) (.tmp 11) rfl rfl (L.length : Int) ?_ ?_ rfl ?_ ?_ ?_; rfl; rfl; omega; omega; intro cs hcs; have S0 := Lib.hid (car_start (w := w) hcs (by omega) (mirN r) flipWay L rfl))
  clear hcs
  obtain ⟨W, hW⟩ : ∃ W, W = w.alloc (.cells cs 3) := ⟨_, rfl⟩
  rw [← hW] at S0 ⊢
  clear hW
  generalize hgg : w.heap.size = g at S0 ⊢
  have S0 : Hid (Sep w none W [.row 3 (.slice (some ⟨g, 0, none⟩) L.length L.length) ((putI (mirN r) flipWay L 0).map (Value.int .i64))]) := S0
  go_loopw [15] (fun i wr => ∃ k : Nat, k ≤ L.length ∧ i = .int .i64 k ∧ Sep w none wr [.row 3 (.slice (some ⟨g, 0, none⟩) L.length L.length) ((putI (mirN r) flipWay L k).map (Value.int .i64))]) (fun i _ => L.length - (intOf i).toNat)
  case atStart => exact ⟨0, Nat.zero_le _, rfl, S0.out⟩
  case round =>
    clear S0
    obtain ⟨k, hk, rfl, S⟩ := hrel
    have HD := Lib.hid S
    clear S
    by_cases hlt : k < L.length
    · have hki : (k : Int) < r.wide * r.tall := by have := HV3.out; have := HN.out; omega
      obtain ⟨t1, t2⟩ := mirI_in (r := r) (c := k) (by omega) (by omega) (by omega)
      have t3 : (mirI r k).toNat < L.length := by have := HV3.out; have := HN.out; omega
      have t2' : mirI r k < (L.length : Int) := by have := HV3.out; have := HN.out; omega
      have hbd := laidOk_bd HK.out k
      have huk := HUC.out wr HD.out.bel k hlt
      obtain ⟨x, hx⟩ : ∃ x, L.getD k 0 = x := ⟨_, rfl⟩
      rw [hx] at huk hbd
      have HX := Lib.hid hx
      clear hx
      obtain ⟨tb, to_, tc', hte, htb, htcell, htc, htm⟩ := lit_cell HT.out rfl hbd (mir_lit hbd)
      obtain ⟨rfl, rfl⟩ : ta = some ⟨tb, to_, none⟩ ∧ tc = tc' := by simpa using hte
      have htk := htcell wr HD.out.bel
      have HTC := Lib.hid htcell
      have hx5 : x < 5 := by omega
      have hub2 : ub < wr.heap.size := Nat.lt_of_lt_of_le hub HD.out.bel.size
      have htb2 : tb < wr.heap.size := Nat.lt_of_lt_of_le htb HD.out.bel.size
      have hLc : ∀ (T : Later wr) (b o : Nat), b < wr.heap.size → T.x.cell? ⟨b, o, none⟩ = wr.cell? ⟨b, o, none⟩ := Later.cell
      have RT : Hid (∀ T : Later wr, RegV T.x (.agg #[.int .i64 r.wide, .int .i64 r.tall, .slice a r.cells.length cap]) r) := Lib.hid fun T => ⟨_, rfl, HS.out.below (HD.out.later T).bel⟩
      clear hte htcell hki t2
      go_wp2_with (fail)
      refine wp_region_later 9 (by kernel_rfl) (by kernel_rfl) ?_
      simp only [List.take_succ_cons, List.take_zero, List.drop_succ_cons, List.drop_zero]
      repeat (go_big_quiet_step (fail))
      go_big_quiet_step (with_reducible exact calls_later _ (mirrored_any _ r k _ (RT.out _) v1 (by omega)))
      repeat (go_big_quiet_step (fail))
      refine wpQuiet_nil ?_
      intro T
      obtain ⟨w3, hw3⟩ : ∃ y, y = T.x := ⟨_, rfl⟩
      have S3 := HD.out.later T
      rw [← hw3] at S3 ⊢
      have S3 := Lib.hid S3
      clear hw3 hLc RT huk htk hub2 htb2 HD
      clear T
      obtain ⟨z0, z1, z2⟩ := own_num (S3.out.own 0 rfl) (j := (mirI r k).toNat) (by rw [putI_length]; exact t3)
      have S4 := S3.out.set 0 rfl (mirI r k).toNat (.int .i64 (flipWay x))
      rw [← List.map_set, show (putI (mirN r) flipWay L k).set (mirI r k).toNat (flipWay x) = putI (mirN r) flipWay L (k + 1) by rw [← HX.out]; rfl] at S4
      have S4 := Lib.hid S4
      clear S3
      go_wp2
      go_roundw
      case rel => exact ⟨k + 1, by omega, by go_num, S4.out⟩
      case measure => simp [intOf]; omega
    · have e : k = L.length := by omega
      subst e
      go_wp2
      go_ret
      exact ⟨_, rfl, own_il (HD.out.own 0 rfl), HD.out.bel⟩
end Go.Proofs.Ytcagpfnlpjfgeaa
