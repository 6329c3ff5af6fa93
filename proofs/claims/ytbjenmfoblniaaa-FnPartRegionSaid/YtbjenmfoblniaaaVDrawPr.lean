/- Walks: DrawPartRegion. -/
import Derived.Test.YtbjenmfoblniaaaVDrawTo
import Derived.Test.YtbjenmfoblniaaaVWpm
set_option linter.unusedVariables false
namespace Go.Proofs.Ytbjenmfoblniaaa
open Go.RowKit Domi

/-- A drawn region and a number of any size. -/
def DrawnP (w : World) (e : Ending) (w' : World) : Prop :=
  ∃ s r c, e = .returned (.tuple #[.agg #[.int .i64 r.wide, .int .i64 r.tall, s], .int .i64 c]) ∧ Bl w' s r.cells ∧ RegSmall r ∧ Below w.heap.size w w'
theorem sPartsOf_dr (v : Value) (r : Reg) (w : World) (h : RegV w v r) :
    Calls Try.prog 84 #[v] w (fun e w' => ∃ a n c, e = .returned (.slice a n c) ∧ n ≤ r.cells.length ∧ Below w.heap.size w w' ∧ (n = 0 ∨ ∃ (g : Nat) (cur : Array Value) (X : Nat → Int), a = some ⟨g, 0, none⟩ ∧ w.heap.size ≤ g ∧ g < w'.heap.size ∧ w'.heap[g]? = some (.cells cur 3 (0, 0)) ∧ ∀ k, k < n → cur[k]? = some (.int .i64 (X k)))) := by
  cases hv : r.valid
  · refine (sPartsOf_no v r w h hv).mono ?_
    rintro e w' ⟨u, rfl, hu, hb⟩
    obtain ⟨a, c, rfl, _⟩ := hu.opened
    exact ⟨a, 0, c, rfl, Nat.zero_le _, hb, .inl rfl⟩
  · refine (sPartsOf_ow v r w h hv).mono ?_
    rintro e w' ⟨u, rfl, hu, hb⟩
    rcases hu with ⟨rfl, hn⟩ | ⟨g, cap, cur, rfl, h1, h2, h3, h4, h5⟩
    · exact ⟨none, 0, 0, rfl, Nat.zero_le _, hb, .inl rfl⟩
    · refine ⟨_, _, _, rfl, by simp [parts_length], hb, .inr ⟨g, cur, fun k => r.parts.getD k 0, rfl, h1, lt_of_heap h2, h2, fun k hk => ?_⟩⟩
      have := take_getElem h5 k hk
      rw [Array.getElem?_toList] at this
      rw [this]
      simp at hk
      simp [List.getD_eq_getElem?_getD, hk]
theorem heap_pick {w w' : World} {b g : Nat} {o : Obj} (hg : w.grownBy w' (some b)) (hb : b < g) (h : w.heap[g]? = some o) : w'.heap[g]? = some o := by
  rw [hg.block g (lt_of_heap h) (by simp; omega)]; exact h
theorem heap_put3 {w : World} {g X : Nat} {o : Obj} (hne : g ≠ X) (h : w.heap[g]? = some o) (x y z : Value) : (((w.setCell ⟨X, 0, none⟩ x).setCell ⟨X, 1, none⟩ y).setCell ⟨X, 2, none⟩ z).heap[g]? = some o := by
  have g1 := grown_setCell w X 0 none x
  have g2 := grown_setCell (w.setCell ⟨X, 0, none⟩ x) X 1 none y
  have g3 := grown_setCell ((w.setCell ⟨X, 0, none⟩ x).setCell ⟨X, 1, none⟩ y) X 2 none z
  rw [(grown_trans (grown_trans g1 g2) g3).block g (lt_of_heap h) (by simpa using hne)]; exact h
theorem cells_of {w : World} {g n : Nat} {cur : Array Value} {t : TypeId} {X : Nat → Int} (h : w.heap[g]? = some (.cells cur t (0, 0))) (hx : ∀ k, k < n → cur[k]? = some (.int .i64 (X k))) (k : Nat) (hk : k < n) : w.cell? ⟨g, k, none⟩ = some (.int .i64 (X k)) := by
  rw [cell_of_row w g k _ _ _ h]; exact hx k hk
set_option maxRecDepth 100000 in
set_option maxHeartbeats 1000000 in
theorem DrawPartRegion_any (v : Value) (ys : List Int) (w : World) (h : Yl w v ys) (hr : ∀ i, i < ys.length → 0 ≤ ys.getD i 0 ∧ ys.getD i 0 ≤ 255) :
    Calls Try.prog 39 #[v] w (DrawnP w) := by
  have H := Lib.hid h
  have Hr := Lib.hid hr
  have S0 := Lib.hid ((Sep.start w none).box #[.int .i64 0, .int .i64 0, .slice none 0 0] 29)
  clear h hr
  go_enter Try.func39, Try.ntmps39
  go_wp2_with (fail)
  refine (open_n v ys _ ?_ Hr.out).mono ?_
  · refine H.out.below ?_; go_grown
  rintro e w1 ⟨b, sl, zs, rfl, hb1, hb2, hr1⟩
  obtain ⟨cs1, S1⟩ := sep_open S0.out (S0.out.below hb2) hb1 hr1
  have S1 := Lib.hid S1
  have HR := Lib.hid hr1
  have hlb := rdN_lt hr1
  clear hb2 hr1
  go_wp2_with (fail)
  refine (some_n b sl zs 0 9 w1 HR.out (by omega) (by omega)).mono ?_
  rintro e w2 ⟨s, r, rfl, ho, hsm, hg, hd⟩
  obtain ⟨cs2, S2⟩ := sep_rd S1.out 1 rfl hg hd
  have S2 := Lib.hid ((S2.add2 S1.out rfl ho).box #[.int .i64 r.wide, .int .i64 r.tall, s] 29)
  have D2 := Lib.hid (rdN_alloc hd (.cells #[.int .i64 r.wide, .int .i64 r.tall, s] 29))
  obtain ⟨p1, n1, rfl⟩ := ho.formM
  have hb2 := Nat.lt_of_lt_of_le hlb hg.size
  have hl37 : r.cells.length ≤ 37 := hsm.2.2.2.2
  clear ho hg hd
  go_wp2_with (fail)
  obtain ⟨W, hW⟩ : ∃ W, W = w2.alloc (.cells #[.int .i64 r.wide, .int .i64 r.tall, .slice p1 r.cells.length n1] 29) := ⟨_, rfl⟩
  have hs2 : w2.heap.size < W.heap.size := by rw [hW]; simp
  rw [← hW] at S2 D2 ⊢
  clear hW
  have HB2 : Hid (RegV W (.agg #[.int .i64 r.wide, .int .i64 r.tall, .slice p1 r.cells.length n1]) r) := Lib.hid ⟨_, rfl, (S2.out.own 2 rfl).sl⟩
  obtain ⟨x0, x1, x2, _⟩ := three_cells (S2.out.blk 3 rfl)
  go_wp2_with (fail)
  refine (sPartsOf_dr _ r W HB2.out).mono ?_
  rintro e w3 ⟨a3, n3, c3, rfl, hn3, hb3, hL⟩
  have S3 := Lib.hid (S2.out.below hb3)
  have D3 := Lib.hid (rdN_belowT D2.out hb3)
  have HL := Lib.hid hL
  have hbW : b < W.heap.size := by omega
  clear hb3 x0 x1 x2 HB2 hL
  by_cases hn : (0 : Int) < (n3 : Int)
  · obtain ⟨g, cur, X, rfl, hg1, hg2, hg3, hg4⟩ := HL.out.resolve_left (by omega)
    have hbg : b < g := by omega
    have hg3 := Lib.hid hg3
    have HX := Lib.hid hg4
    clear hg4 HL
    go_wp2_with (fail)
    refine (pick_n b sl zs 300 _ _ D3.out (by omega)).mono ?_
    rintro e w4 ⟨k4, rfl, hk4, hg4, hd4⟩
    obtain ⟨cs4, S4⟩ := sep_rd S3.out 1 rfl hg4 hd4
    have S4 := Lib.hid S4
    have D4 := Lib.hid hd4
    have G4 := Lib.hid (heap_pick hg4 hbg hg3.out)
    have hgl : g < w4.heap.size := Nat.lt_of_lt_of_le hg2 hg4.size
    clear hg4 hd4 hg3
    by_cases hk0 : (0 : Int) < k4
    · have K0 : Hid (∀ k, k < n3 → w4.cell? ⟨g, k, none⟩ = some (.int .i64 (X k))) := Lib.hid fun k hk => cells_of G4.out HX.out k hk
      have kc := K0.out
      obtain ⟨x0, x1, x2, _⟩ := three_cells (S4.out.blk 3 rfl)
      have KS := Lib.hid (show _ ∧ _ ∧ _ ∧ _ from ⟨x0, x1, x2, kc⟩)
      have hgX : g ≠ w.heap.size := by have := S3.out.lt 0 rfl rfl; have := S2.out.lt 0 rfl rfl; omega
      obtain ⟨a0, a1, a2, e0, e1, e2⟩ := three_cells (S4.out.blk 0 rfl)
      go_wp2_with (fail)
      go_region_held3 (fun w' => w'.cell? ⟨w2.heap.size, 0, none⟩ = some (.int .i64 r.wide) ∧ w'.cell? ⟨w2.heap.size, 1, none⟩ = some (.int .i64 r.tall) ∧ w'.cell? ⟨w2.heap.size, 2, none⟩ = some (.slice p1 r.cells.length n1) ∧ ∀ k, k < n3 → w'.cell? ⟨g, k, none⟩ = some (.int .i64 (X k)))
        (first | with_reducible exact K9.out | with_reducible exact P9.out _ _ _ | exact KS.out | (go_keep; done) | assumption)
        ((first
          | (go_at_call 66; refine (pick_n b sl zs 301 _ _ (rdN_drew D4.out) (by omega)).mono ?_; rintro e w9 ⟨k9, rfl, hk9, hg9, hd9⟩; (obtain ⟨cs9, S9⟩ := sep_rd S4.out.drew 1 rfl hg9 hd9); (have SN := Lib.hid S9); (have G9 := Lib.hid (heap_pick hg9 hbg (show w4.drew.heap[g]? = _ from G4.out))); (obtain ⟨k, rfl⟩ : ∃ k : Nat, k9 = (k : Int) := ⟨k9.toNat, by omega⟩); (have hkl : k < n3 := by omega); (have hi0 : (0 : Int) ≤ (k : Int) := by omega); (have hi1 : (k : Int) < (n3 : Int) := by omega); clear hk9; (have kc9 := cells_of G9.out HX.out k hkl); clear hg9 hd9 S9; (have K9 := Lib.hid (show _ ∧ _ ∧ _ ∧ _ from ⟨(Sep.c3 SN.out 3 rfl).1, (Sep.c3 SN.out 3 rfl).2.1, (Sep.c3 SN.out 3 rfl).2.2, fun k hk => cells_of G9.out HX.out k hk⟩)); (have P9 := Lib.hid (fun x y z => show _ ∧ _ ∧ _ ∧ _ from ⟨(Sep.c3 (SN.out.put3 0 rfl x y z) 3 rfl).1, (Sep.c3 (SN.out.put3 0 rfl x y z) 3 rfl).2.1, (Sep.c3 (SN.out.put3 0 rfl x y z) 3 rfl).2.2, fun k hk => cells_of (heap_put3 hgX G9.out x y z) HX.out k hk⟩)); obtain ⟨z0, z1, z2, z3, z4, z5⟩ := three_cells (SN.out.blk 0 rfl))))
      obtain ⟨CC, hC⟩ : ∃ C, C = X k := ⟨_, rfl⟩
      try rw [← hC]
      have E := SN.out.put3 0 rfl (.int .i64 r.wide) (.int .i64 r.tall) (.slice p1 r.cells.length n1)
      obtain ⟨q0, q1, q2, _⟩ := three_cells (E.blk 0 rfl)
      have DN : Hid (DrawnP w (.returned (.tuple #[.agg #[.int .i64 r.wide, .int .i64 r.tall, .slice p1 r.cells.length n1], .int .i64 CC])) _) := Lib.hid ⟨_, r, CC, rfl, (E.own 2 rfl).sl, hsm, E.bel⟩
      have Q0 := Lib.hid q0
      have Q1 := Lib.hid q1
      have Q2 := Lib.hid q2
      clear q0 q1 q2 E
      go_wp2
      exact bodyPost_ret (by simp [results, Try.results39, go_sem, Q0.out, Q1.out, Q2.out]) rfl DN.out
    · obtain ⟨x0, x1, x2, _⟩ := three_cells (S4.out.blk 3 rfl)
      obtain ⟨a0, a1, a2, e0, e1, e2⟩ := three_cells (S4.out.blk 0 rfl)
      go_wp2_with (fail)
      go_region_held3 (fun w' => w'.cell? ⟨w2.heap.size, 0, none⟩ = some (.int .i64 r.wide) ∧ w'.cell? ⟨w2.heap.size, 1, none⟩ = some (.int .i64 r.tall) ∧ w'.cell? ⟨w2.heap.size, 2, none⟩ = some (.slice p1 r.cells.length n1))
        (first | with_reducible exact K9.out | with_reducible exact P9.out _ _ _ | (go_keep; done) | assumption)
        ((first
          | (go_at_call 66; refine (pick_n b sl zs 301 _ _ (rdN_drew D4.out) (by omega)).mono ?_; rintro e w9 ⟨k9, rfl, hk9, hg9, hd9⟩; (obtain ⟨cs9, S9⟩ := sep_rd S4.out.drew 1 rfl hg9 hd9); (have SN := Lib.hid S9); clear hg9 hd9 S9; (have K9 := Lib.hid (Sep.c3 SN.out 3 rfl)); (have P9 := Lib.hid (fun x y z => Sep.c3 (SN.out.put3 0 rfl x y z) 3 rfl)); obtain ⟨z0, z1, z2, z3, z4, z5⟩ := three_cells (SN.out.blk 0 rfl))))
      obtain ⟨CC, hC⟩ : ∃ C, C = IntKind.i64.wrap (k9 - 1) := ⟨_, rfl⟩
      try rw [← hC]
      have E := SN.out.put3 0 rfl (.int .i64 r.wide) (.int .i64 r.tall) (.slice p1 r.cells.length n1)
      obtain ⟨q0, q1, q2, _⟩ := three_cells (E.blk 0 rfl)
      have DN : Hid (DrawnP w (.returned (.tuple #[.agg #[.int .i64 r.wide, .int .i64 r.tall, .slice p1 r.cells.length n1], .int .i64 CC])) _) := Lib.hid ⟨_, r, CC, rfl, (E.own 2 rfl).sl, hsm, E.bel⟩
      have Q0 := Lib.hid q0
      have Q1 := Lib.hid q1
      have Q2 := Lib.hid q2
      clear q0 q1 q2 E
      go_wp2
      exact bodyPost_ret (by simp [results, Try.results39, go_sem, Q0.out, Q1.out, Q2.out]) rfl DN.out
  · obtain ⟨x0, x1, x2, _⟩ := three_cells (S3.out.blk 3 rfl)
    obtain ⟨a0, a1, a2, e0, e1, e2⟩ := three_cells (S3.out.blk 0 rfl)
    go_wp2_with (fail)
    go_region_held3 (fun w' => w'.cell? ⟨w2.heap.size, 0, none⟩ = some (.int .i64 r.wide) ∧ w'.cell? ⟨w2.heap.size, 1, none⟩ = some (.int .i64 r.tall) ∧ w'.cell? ⟨w2.heap.size, 2, none⟩ = some (.slice p1 r.cells.length n1))
      (first | with_reducible exact K9.out | with_reducible exact P9.out _ _ _ | (go_keep; done) | assumption)
      ((first
        | (go_at_call 66; refine (pick_n b sl zs 300 _ _ (rdN_drew D3.out) (by omega)).mono ?_; rintro e w9 ⟨k9, rfl, hk9, hg9, hd9⟩; (obtain ⟨cs9, S9⟩ := sep_rd S3.out.drew 1 rfl hg9 hd9); (have SN := Lib.hid S9); clear hg9 hd9 S9; (have K9 := Lib.hid (Sep.c3 SN.out 3 rfl)); (have P9 := Lib.hid (fun x y z => Sep.c3 (SN.out.put3 0 rfl x y z) 3 rfl)); obtain ⟨z0, z1, z2, z3, z4, z5⟩ := three_cells (SN.out.blk 0 rfl))))
    obtain ⟨CC, hC⟩ : ∃ C, C = IntKind.i64.wrap (k9 - 1) := ⟨_, rfl⟩
    try rw [← hC]
    have E := SN.out.put3 0 rfl (.int .i64 r.wide) (.int .i64 r.tall) (.slice p1 r.cells.length n1)
    obtain ⟨q0, q1, q2, _⟩ := three_cells (E.blk 0 rfl)
    have DN : Hid (DrawnP w (.returned (.tuple #[.agg #[.int .i64 r.wide, .int .i64 r.tall, .slice p1 r.cells.length n1], .int .i64 CC])) _) := Lib.hid ⟨_, r, CC, rfl, (E.own 2 rfl).sl, hsm, E.bel⟩
    have Q0 := Lib.hid q0
    have Q1 := Lib.hid q1
    have Q2 := Lib.hid q2
    clear q0 q1 q2 E
    go_wp2
    exact bodyPost_ret (by simp [results, Try.results39, go_sem, Q0.out, Q1.out, Q2.out]) rfl DN.out
end Go.Proofs.Ytbjenmfoblniaaa
