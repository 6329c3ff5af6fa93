/- Walks: simple, Simple of the program. -/
import Derived.Test.YtdggcfpkbmdllaaVWholes
import Derived.Test.YtdggcfpkbmdllaaVWpm
import Derived.Test.YtdggcfpkbmdllaaZe
import Derived.Test.YtdggcfpkbmdllaaVLaw
import Derived.Test.YtdggcfpkbmdllaaVWf
import Derived.Laws.EntriesVeiled
set_option linter.unusedVariables false
namespace Go.Proofs.Ytdggcfpkbmdllaa
open Go.RowKit Domi

/-- The variables that the search reads. -/
def SiS (r : Reg) (s : Value) (gW gT gM gR gF gm : Nat) (M : List Bool) : List It :=
  [.box gW #[.int .i64 (r.wide + 2)] 3, .box gT #[.int .i64 (r.tall + 2)] 3, .box gM #[.slice (some ⟨gm, 0, none⟩) r.n2 r.n2] 22, .row 4 (.slice (some ⟨gm, 0, none⟩) r.n2 r.n2) (M.map Value.bool),
    .box gR #[.int .i64 r.wide, .int .i64 r.tall, s] 28, .box gF #[.func (.func 107) #[] #[.pointer (some ⟨gW, 0, none⟩), .pointer (some ⟨gT, 0, none⟩), .pointer (some ⟨gM, 0, none⟩), .pointer (some ⟨gR, 0, none⟩), .pointer (some ⟨gF, 0, none⟩)]] 85]
theorem siS_set {w wr : World} {r : Reg} {s : Value} {gW gT gM gR gF gm : Nat} {M : List Bool} (h : Sep w none wr (SiS r s gW gT gM gR gF gm M)) (k : Nat) (b : Bool) : Sep w none (wr.setCell ⟨gm, k, none⟩ (.bool b)) (SiS r s gW gT gM gR gF gm (M.set k b)) := by
  have := h.set 3 rfl k (.bool b)
  rw [← List.map_set] at this
  exact this
theorem siS_cells {w wr : World} {r : Reg} {s : Value} {gW gT gM gR gF gm : Nat} {M : List Bool} (h : Sep w none wr (SiS r s gW gT gM gR gF gm M)) :
    wr.cell? ⟨gW, 0, none⟩ = some (.int .i64 (r.wide + 2)) ∧ wr.cell? ⟨gT, 0, none⟩ = some (.int .i64 (r.tall + 2)) ∧ wr.cell? ⟨gM, 0, none⟩ = some (.slice (some ⟨gm, 0, none⟩) r.n2 r.n2) ∧
    (wr.cell? ⟨gR, 0, none⟩ = some (.int .i64 r.wide) ∧ wr.cell? ⟨gR, 1, none⟩ = some (.int .i64 r.tall) ∧ wr.cell? ⟨gR, 2, none⟩ = some s) ∧
    wr.cell? ⟨gF, 0, none⟩ = some (.func (.func 107) #[] #[.pointer (some ⟨gW, 0, none⟩), .pointer (some ⟨gT, 0, none⟩), .pointer (some ⟨gM, 0, none⟩), .pointer (some ⟨gR, 0, none⟩), .pointer (some ⟨gF, 0, none⟩)]) :=
  ⟨cell_of_one (h.blk 0 rfl), cell_of_one (h.blk 1 rfl), cell_of_one (h.blk 2 rfl), h.c3 4 rfl, cell_of_one (h.blk 5 rfl)⟩

/-- What the search leaves. -/
def Sought (w0 : World) (r : Reg) (s : Value) (gW gT gM gR gF gm : Nat) (M : List Bool) (x y : Int) (e : Ending) (w' : World) : Prop :=
  e = .returned (.tuple #[]) ∧ ∃ M', Dfs (F4 r) r.fr M M' (plc r x y) ∧ Sep w0 none w' (SiS r s gW gT gM gR gF gm M')

/-- Where the place is, and what lies there. -/
theorem sim_place {r : Reg} (hv : r.valid = true) {x y : Int} (hx : 0 ≤ x ∧ x ≤ r.wide + 1) (hy : 0 ≤ y ∧ y ≤ r.tall + 1) :
    ∃ c : Nat, plc r x y c ∧ c < r.n2 ∧ (y * (r.wide + 2) + x).toNat = c ∧ r.n2 ≤ 64 ∧ (0 ≤ y * (r.wide + 2) ∧ y * (r.wide + 2) ≤ 64) ∧ (0 ≤ y * (r.wide + 2) + x ∧ y * (r.wide + 2) + x < (r.n2 : Int)) := by
  obtain ⟨v1, v2, v3, _⟩ := Reg.valid_iff.1 hv
  have hl := xy_lt (w := r.wide + 2) (t := r.tall + 2) (x := x) (y := y) (by omega) (by omega) (by omega) (by omega)
  have hm := xy_lt (w := r.wide + 2) (t := r.tall + 2) (x := 0) (y := y) (by omega) (by omega) (by omega) (by omega)
  have hn2 := n2_int (r := r) (by omega) (by omega)
  have := area_in' v1 v2
  refine ⟨(y * (r.wide + 2) + x).toNat, ⟨by omega, by omega, by omega, by omega, by omega⟩, by omega, rfl, by omega, by omega, by omega⟩

set_option maxRecDepth 100000 in
set_option maxHeartbeats 2000000 in
theorem sim_outX (w0 : World) (r : Reg) (s : Value) (hv : r.valid = true) (RV : ∀ w', Below w0.heap.size w0 w' → RegV w' (.agg #[.int .i64 r.wide, .int .i64 r.tall, s]) r) (gW gT gM gR gF gm : Nat)
    (M : List Bool) (x y : Int) (w : World) (HL : Hid (M.length = r.n2)) (hx : -1 ≤ x ∧ x ≤ r.wide + 2) (hy : -1 ≤ y ∧ y ≤ r.tall + 2) (HS : Hid (Sep w0 none w (SiS r s gW gT gM gR gF gm M))) (ho : ¬ (0 ≤ x ∧ x ≤ r.wide + 1)) :
    Calls Try.prog 107 #[.int .i64 x, .int .i64 y, .pointer (some ⟨gW, 0, none⟩), .pointer (some ⟨gT, 0, none⟩), .pointer (some ⟨gM, 0, none⟩), .pointer (some ⟨gR, 0, none⟩), .pointer (some ⟨gF, 0, none⟩)] w (Sought w0 r s gW gT gM gR gF gm M x y) := by
  obtain ⟨v1, v2, v3, _⟩ := Reg.valid_iff.1 hv
  obtain ⟨c0, _⟩ := siS_cells HS.out
  go_enter Try.func107, Try.ntmps107
  go_wp2_with (go_at_call 59; refine (in_is _ _ _ _ false (inB_no (by omega))).mono ?_; rintro e w' ⟨rfl, rfl⟩)
  all_goals ((first | go_end0 | ((try simp only [Exit.inBlock, Exit.then]); refine bodyPost_ret (results_none rfl _ _ _) rfl ?_)); exact ⟨rfl, M, dfs4_out (by omega), HS.out⟩)

set_option maxRecDepth 100000 in
set_option maxHeartbeats 2000000 in
theorem sim_outY (w0 : World) (r : Reg) (s : Value) (hv : r.valid = true) (RV : ∀ w', Below w0.heap.size w0 w' → RegV w' (.agg #[.int .i64 r.wide, .int .i64 r.tall, s]) r) (gW gT gM gR gF gm : Nat)
    (M : List Bool) (x y : Int) (w : World) (HL : Hid (M.length = r.n2)) (hx : -1 ≤ x ∧ x ≤ r.wide + 2) (hy : -1 ≤ y ∧ y ≤ r.tall + 2) (HS : Hid (Sep w0 none w (SiS r s gW gT gM gR gF gm M))) (hi : 0 ≤ x ∧ x ≤ r.wide + 1) (ho : ¬ (0 ≤ y ∧ y ≤ r.tall + 1)) :
    Calls Try.prog 107 #[.int .i64 x, .int .i64 y, .pointer (some ⟨gW, 0, none⟩), .pointer (some ⟨gT, 0, none⟩), .pointer (some ⟨gM, 0, none⟩), .pointer (some ⟨gR, 0, none⟩), .pointer (some ⟨gF, 0, none⟩)] w (Sought w0 r s gW gT gM gR gF gm M x y) := by
  obtain ⟨v1, v2, v3, _⟩ := Reg.valid_iff.1 hv
  obtain ⟨c0, c1, _⟩ := siS_cells HS.out
  go_enter Try.func107, Try.ntmps107
  go_wp2_with (fail)
  refine (in_is _ _ _ _ true (inB_iff.2 (by omega))).mono ?_
  rintro e w' ⟨rfl, rfl⟩
  go_wp2_with (fail)
  refine (in_is _ _ _ _ false (inB_no (by omega))).mono ?_
  rintro e w' ⟨rfl, rfl⟩
  go_wp2
  all_goals ((first | go_end0 | ((try simp only [Exit.inBlock, Exit.then]); refine bodyPost_ret (results_none rfl _ _ _) rfl ?_)); exact ⟨rfl, M, dfs4_out (by omega), HS.out⟩)

set_option maxRecDepth 100000 in
set_option maxHeartbeats 2000000 in
theorem sim_met (w0 : World) (r : Reg) (s : Value) (hv : r.valid = true) (RV : ∀ w', Below w0.heap.size w0 w' → RegV w' (.agg #[.int .i64 r.wide, .int .i64 r.tall, s]) r) (gW gT gM gR gF gm : Nat)
    (M : List Bool) (x y : Int) (w : World) (HL : Hid (M.length = r.n2)) (hx : -1 ≤ x ∧ x ≤ r.wide + 2) (hy : -1 ≤ y ∧ y ≤ r.tall + 2) (HS : Hid (Sep w0 none w (SiS r s gW gT gM gR gF gm M))) (hxi : 0 ≤ x ∧ x ≤ r.wide + 1) (hyi : 0 ≤ y ∧ y ≤ r.tall + 1) (HM : Hid (M.getD (y * (r.wide + 2) + x).toNat false = true)) :
    Calls Try.prog 107 #[.int .i64 x, .int .i64 y, .pointer (some ⟨gW, 0, none⟩), .pointer (some ⟨gT, 0, none⟩), .pointer (some ⟨gM, 0, none⟩), .pointer (some ⟨gR, 0, none⟩), .pointer (some ⟨gF, 0, none⟩)] w (Sought w0 r s gW gT gM gR gF gm M x y) := by
  obtain ⟨v1, v2, v3, _⟩ := Reg.valid_iff.1 hv
  obtain ⟨c, hp, hcl, hcn, hn3, hmul, hk0⟩ := sim_place hv hxi hyi
  obtain ⟨u1, u2, u3⟩ := own_bool (HS.out.own 3 rfl) (j := c) (by rw [HL.out]; exact hcl)
  have HP := Lib.hid hp
  have HCN := Lib.hid hcn
  rw [← hcn] at u1 u2
  rw [HM.out] at u1
  obtain ⟨c0, c1, c2, _⟩ := siS_cells HS.out
  clear hp hcn
  go_enter Try.func107, Try.ntmps107
  go_wp2_with (fail)
  refine (in_is _ _ _ _ true (inB_iff.2 (by omega))).mono ?_
  rintro e w' ⟨rfl, rfl⟩
  go_wp2_with (fail)
  refine (in_is _ _ _ _ true (inB_iff.2 (by omega))).mono ?_
  rintro e w' ⟨rfl, rfl⟩
  go_wp2
  all_goals ((first | go_end0 | ((try simp only [Exit.inBlock, Exit.then]); refine bodyPost_ret (results_none rfl _ _ _) rfl ?_)); exact ⟨rfl, M, dfs4_met HP.out (HCN.out ▸ HM.out), HS.out⟩)

set_option maxRecDepth 100000 in
set_option maxHeartbeats 2000000 in
theorem sim_cell (w0 : World) (r : Reg) (s : Value) (hv : r.valid = true) (RV : ∀ w', Below w0.heap.size w0 w' → RegV w' (.agg #[.int .i64 r.wide, .int .i64 r.tall, s]) r) (gW gT gM gR gF gm : Nat)
    (M : List Bool) (x y : Int) (w : World) (HL : Hid (M.length = r.n2)) (hx : -1 ≤ x ∧ x ≤ r.wide + 2) (hy : -1 ≤ y ∧ y ≤ r.tall + 2) (HS : Hid (Sep w0 none w (SiS r s gW gT gM gR gF gm M))) (hxi : 0 ≤ x ∧ x ≤ r.wide + 1) (hyi : 0 ≤ y ∧ y ≤ r.tall + 1) (HM : Hid (M.getD (y * (r.wide + 2) + x).toNat false = false)) (HA : Hid (r.at_ (x - 1) (y - 1) = true)) :
    Calls Try.prog 107 #[.int .i64 x, .int .i64 y, .pointer (some ⟨gW, 0, none⟩), .pointer (some ⟨gT, 0, none⟩), .pointer (some ⟨gM, 0, none⟩), .pointer (some ⟨gR, 0, none⟩), .pointer (some ⟨gF, 0, none⟩)] w (Sought w0 r s gW gT gM gR gF gm M x y) := by
  obtain ⟨v1, v2, v3, _⟩ := Reg.valid_iff.1 hv
  obtain ⟨c, hp, hcl, hcn, hn3, hmul, hk0⟩ := sim_place hv hxi hyi
  obtain ⟨u1, u2, u3⟩ := own_bool (HS.out.own 3 rfl) (j := c) (by rw [HL.out]; exact hcl)
  rw [← hcn] at u1 u2
  rw [HM.out] at u1
  obtain ⟨c0, c1, c2, ⟨c3, c4, c5⟩, _⟩ := siS_cells HS.out
  clear hp hcn
  go_enter Try.func107, Try.ntmps107
  go_wp2_with (fail)
  refine (in_is _ _ _ _ true (inB_iff.2 (by omega))).mono ?_
  rintro e w' ⟨rfl, rfl⟩
  go_wp2_with (fail)
  refine (in_is _ _ _ _ true (inB_iff.2 (by omega))).mono ?_
  rintro e w' ⟨rfl, rfl⟩
  go_wp2_with (fail)
  refine (at_is _ r _ _ _ (RV _ HS.out.bel) hv (by omega) (by omega) true HA.out).mono ?_
  rintro e w' ⟨rfl, hb⟩
  have HB := Lib.hid hb
  clear hb
  go_wp2
  all_goals ((first | go_end0 | ((try simp only [Exit.inBlock, Exit.then]); refine bodyPost_ret (results_none rfl _ _ _) rfl ?_)); exact ⟨rfl, M, dfs4_cell (by omega) (by omega) HA.out, HS.out.below HB.out⟩)

set_option maxRecDepth 100000 in
set_option maxHeartbeats 4000000 in
theorem sim_search (w0 : World) (r : Reg) (s : Value) (hv : r.valid = true) (RV : ∀ w', Below w0.heap.size w0 w' → RegV w' (.agg #[.int .i64 r.wide, .int .i64 r.tall, s]) r) (gW gT gM gR gF gm : Nat) :
    ∀ (n : Nat) (M : List Bool) (x y : Int) (w : World), unmet M < n → M.length = r.n2 → (-1 ≤ x ∧ x ≤ r.wide + 2) → (-1 ≤ y ∧ y ≤ r.tall + 2) → Sep w0 none w (SiS r s gW gT gM gR gF gm M) →
    Calls Try.prog 107 #[.int .i64 x, .int .i64 y, .pointer (some ⟨gW, 0, none⟩), .pointer (some ⟨gT, 0, none⟩), .pointer (some ⟨gM, 0, none⟩), .pointer (some ⟨gR, 0, none⟩), .pointer (some ⟨gF, 0, none⟩)] w (Sought w0 r s gW gT gM gR gF gm M x y) := by
  intro n
  induction n with
  | zero => intro M x y w h; exact absurd h (Nat.not_lt_zero _)
  | succ n ih =>
    intro M x y w hn hl hx hy hS
    have IH := Lib.hid ih
    have HN := Lib.hid hn
    have HL := Lib.hid hl
    have HS := Lib.hid hS
    clear ih hn hl hS
    by_cases hxi : 0 ≤ x ∧ x ≤ r.wide + 1
    rotate_left
    · exact sim_outX w0 r s hv RV gW gT gM gR gF gm M x y w HL hx hy HS hxi
    by_cases hyi : 0 ≤ y ∧ y ≤ r.tall + 1
    rotate_left
    · exact sim_outY w0 r s hv RV gW gT gM gR gF gm M x y w HL hx hy HS hxi hyi
    cases hmet : M.getD (y * (r.wide + 2) + x).toNat false
    rotate_left
    · exact sim_met w0 r s hv RV gW gT gM gR gF gm M x y w HL hx hy HS hxi hyi (Lib.hid hmet)
    cases hat : r.at_ (x - 1) (y - 1)
    rotate_left
    · exact sim_cell w0 r s hv RV gW gT gM gR gF gm M x y w HL hx hy HS hxi hyi (Lib.hid hmet) (Lib.hid hat)
    have HM := Lib.hid hmet
    have HA := Lib.hid hat
    obtain ⟨v1, v2, v3, _⟩ := Reg.valid_iff.1 hv
    obtain ⟨c, hp, hcl, hcn, hn3, hmul, hk0⟩ := sim_place hv hxi hyi
    obtain ⟨u1, u2, u3⟩ := own_bool (HS.out.own 3 rfl) (j := c) (by rw [HL.out]; exact hcl)
    have HP := Lib.hid hp
    have HCN := Lib.hid hcn
    have HF := Lib.hid (show r.fr c = true by rw [hp.fr (by omega) (by omega), hat]; rfl)
    rw [← hcn] at u1 u2
    rw [hmet] at u1
    obtain ⟨c0, c1, c2, ⟨c3, c4, c5⟩, _⟩ := siS_cells HS.out
    have HMC := Lib.hid (show M.getD c false = false by rw [← hcn]; exact hmet)
    clear hp hcn hmet hat
    go_enter Try.func107, Try.ntmps107
    go_wp2_with (fail)
    refine (in_is _ _ _ _ true (inB_iff.2 (by omega))).mono ?_
    rintro e w' ⟨rfl, rfl⟩
    go_wp2_with (fail)
    refine (in_is _ _ _ _ true (inB_iff.2 (by omega))).mono ?_
    rintro e w' ⟨rfl, rfl⟩
    go_wp2_with (fail)
    refine (at_is _ r _ _ _ (RV _ HS.out.bel) hv (by omega) (by omega) false HA.out).mono ?_
    rintro e w1 ⟨rfl, hb⟩
    have HS1 := Lib.hid (HS.out.below hb)
    clear hb HS c0 c1 c2 c3 c4 c5 u1 u2 u3
    obtain ⟨c0, c1, c2, ⟨c3, c4, c5⟩, _⟩ := siS_cells HS1.out
    obtain ⟨u1, u2, u3⟩ := own_bool (HS1.out.own 3 rfl) (j := c) (by rw [HL.out]; exact hcl)
    rw [← HCN.out] at u1 u2
    have S2 := Lib.hid (siS_set HS1.out c true)
    rw [← HCN.out] at S2
    have HU2 := Lib.hid (show unmet (M.set (y * (r.wide + 2) + x).toNat true) < n by rw [HCN.out]; have h2 := unmet_put (M := M) (c := c) (by rw [HL.out]; exact hcl) HMC.out; have := HN.out; omega)
    have HL2 := Lib.hid (show (M.set (y * (r.wide + 2) + x).toNat true).length = r.n2 by rw [List.length_set]; exact HL.out)
    obtain ⟨d0, d1, d2, ⟨d3, d4, d5⟩, d6⟩ := siS_cells S2.out
    go_wp2_with (fail)
    clear c0 c1 c2 c3 c4 c5 u1 u2 u3 d0 d1 d2 d3 d4 d5 d6
    refine (IH.out (M.set (y * (r.wide + 2) + x).toNat true) (x + 1) (y) _ HU2.out HL2.out (by omega) (by omega) S2.out).mono ?_
    rintro e w3 ⟨rfl, M1, g, hS⟩
    have G1 := Lib.hid g
    have S3 := Lib.hid hS
    have HU3 := Lib.hid (Nat.lt_of_le_of_lt (unmet_mono g.len g.grow) HU2.out)
    have HL3 := Lib.hid (g.len.trans HL2.out)
    clear g hS
    obtain ⟨d0, d1, d2, ⟨d3, d4, d5⟩, d6⟩ := siS_cells S3.out
    go_wp2_with (fail)
    clear d0 d1 d2 d3 d4 d5 d6
    refine (IH.out (M1) (x - 1) (y) _ HU3.out HL3.out (by omega) (by omega) S3.out).mono ?_
    rintro e w4 ⟨rfl, M2, g, hS⟩
    have G2 := Lib.hid g
    have S4 := Lib.hid hS
    have HU4 := Lib.hid (Nat.lt_of_le_of_lt (unmet_mono g.len g.grow) HU3.out)
    have HL4 := Lib.hid (g.len.trans HL3.out)
    clear g hS
    obtain ⟨d0, d1, d2, ⟨d3, d4, d5⟩, d6⟩ := siS_cells S4.out
    go_wp2_with (fail)
    clear d0 d1 d2 d3 d4 d5 d6
    refine (IH.out (M2) (x) (y + 1) _ HU4.out HL4.out (by omega) (by omega) S4.out).mono ?_
    rintro e w5 ⟨rfl, M3, g, hS⟩
    have G3 := Lib.hid g
    have S5 := Lib.hid hS
    have HU5 := Lib.hid (Nat.lt_of_le_of_lt (unmet_mono g.len g.grow) HU4.out)
    have HL5 := Lib.hid (g.len.trans HL4.out)
    clear g hS
    obtain ⟨d0, d1, d2, ⟨d3, d4, d5⟩, d6⟩ := siS_cells S5.out
    go_wp2_with (fail)
    clear d0 d1 d2 d3 d4 d5 d6
    refine (IH.out (M3) (x) (y - 1) _ HU5.out HL5.out (by omega) (by omega) S5.out).mono ?_
    rintro e w6 ⟨rfl, M4, g, hS⟩
    have G4 := Lib.hid g
    have S6 := Lib.hid hS
    have HU6 := Lib.hid (Nat.lt_of_le_of_lt (unmet_mono g.len g.grow) HU5.out)
    have HL6 := Lib.hid (g.len.trans HL5.out)
    clear g hS
    go_wp2
    rw [HCN.out] at G1
    all_goals ((first | go_end0 | ((try simp only [Exit.inBlock, Exit.then]); refine bodyPost_ret (results_none rfl _ _ _) rfl ?_)); exact ⟨rfl, M4, dfs4_all (by omega) (by omega) HL.out HP.out HF.out G1.out G2.out G3.out G4.out, S6.out⟩)

/-- The search from any place. -/
theorem sim_any {w0 : World} {r : Reg} {s : Value} (hv : r.valid = true) (RV : ∀ w', Below w0.heap.size w0 w' → RegV w' (.agg #[.int .i64 r.wide, .int .i64 r.tall, s]) r) {gW gT gM gR gF gm : Nat} {M : List Bool} {x y : Int} {w : World} (hl : M.length = r.n2) (hx : 0 ≤ x ∧ x < r.wide + 2) (hy : 0 ≤ y ∧ y < r.tall + 2) (h : Sep w0 none w (SiS r s gW gT gM gR gF gm M)) :
    Calls Try.prog 107 #[.int .i64 x, .int .i64 y, .pointer (some ⟨gW, 0, none⟩), .pointer (some ⟨gT, 0, none⟩), .pointer (some ⟨gM, 0, none⟩), .pointer (some ⟨gR, 0, none⟩), .pointer (some ⟨gF, 0, none⟩)] w (Sought w0 r s gW gT gM gR gF gm M x y) :=
  sim_search w0 r s hv RV gW gT gM gR gF gm _ M x y w (Nat.lt_succ_self _) hl (by omega) (by omega) h

/-- The variables of the search, made one after the other. -/
theorem sim_boxes {w W : World} (F : Value) {R : Array Value} {tR : TypeId} {a b : Value} {gR gW gT : Nat} {cs : Array Value} {n : Nat} (S : Sep w none W [.box gR R tR, .box gW #[a] 3, .box gT #[b] 3]) (hcs : Hid (cs = Array.replicate n (.bool false))) (hn : n ≤ 9223372036854775807) :
    Hid (Sep w none (((W.alloc (.cells cs 4)).alloc (.cells #[.slice (some ⟨W.heap.size, 0, none⟩) n n] 22)).alloc (.cells #[F] 85))
      [.box gR R tR, .box gW #[a] 3, .box gT #[b] 3, .row 4 (.slice (some ⟨W.heap.size, 0, none⟩) n n) ((List.replicate n false).map Value.bool), .box (W.heap.size + 1) #[.slice (some ⟨W.heap.size, 0, none⟩) n n] 22, .box (W.heap.size + 1 + 1) #[F] 85]) := Lib.hid (by
  have := ((S.made (e := 4) hcs hn).box #[.slice (some ⟨W.heap.size, 0, none⟩) n n] 22).box #[F] 85
  rw [show List.replicate n (Value.bool false) = (List.replicate n false).map Value.bool by simp] at this
  simpa using this)

theorem many_ret (v : Value) (l : List Bool) (w : World) (h : Bl w v l) : Calls Try.prog 61 #[v] w (Ret (.int .i64 (cnt l)) w) := (many_any v l w h).mono fun _ _ ⟨he, hw⟩ => ⟨he, hw ▸ Below.refl _ _⟩
theorem partCount_bd (r : Reg) : partCount r ≤ r.cells.length := num_le _ _
theorem partsMany_ret (v : Value) (r : Reg) (w : World) (h : RegV w v r) (hv : r.valid = true) : Calls Try.prog 108 #[v] w (Ret (.int .i64 (partCount r : Int)) w) := partsMany_any v r w h hv
set_option maxRecDepth 100000 in
set_option maxHeartbeats 4000000 in
theorem simple_any (v : Value) (r : Reg) (w : World) (h : RegV w v r) (hv : r.valid = true) (b : Bool) (hb0 : (decide (r.outs = 1) && decide (r.pmany = 1)) = b) :
    Calls Try.prog 100 #[v] w (Ret (.bool b) w) := by
  obtain ⟨b1, b2, b3, b4⟩ := Reg.valid_iff.1 hv
  obtain ⟨a, cap, rfl, hs, hlc, hcm⟩ := h.opened
  have RV : ∀ w', Below w.heap.size w w' → RegV w' (.agg #[.int .i64 r.wide, .int .i64 r.tall, .slice a r.cells.length cap]) r := fun w' hb => ⟨_, rfl, hs.below hb⟩
  have S0 := Lib.hid ((Sep.start w none).box #[.int .i64 r.wide, .int .i64 r.tall, .slice a r.cells.length cap] 28)
  have hA := area_in' b1 b2
  have hN := n2_int (r := r) (by omega) (by omega)
  have hA0 : 0 ≤ (r.wide + 2) * (r.tall + 2) := by omega
  have HNN := Lib.hid hN
  have HN64 := Lib.hid (show r.n2 ≤ 9223372036854775807 by omega)
  have HB := Lib.hid hb0
  have HS0 := Lib.hid hs
  clear hs h b4 hb0
  go_enter Try.func100, Try.ntmps100
  go_wp2_with (fail)
  go_region
  · obtain ⟨W, hW⟩ : ∃ W, W = (((w.alloc (.cells #[.int .i64 r.wide, .int .i64 r.tall, .slice a r.cells.length cap] 28)).alloc (.cells #[.int .i64 (r.wide + 2)] 3)).alloc (.cells #[.int .i64 (r.tall + 2)] 3)).drew := ⟨_, rfl⟩
    have S1 : Hid (Sep w none W [.box w.heap.size #[.int .i64 r.wide, .int .i64 r.tall, .slice a r.cells.length cap] 28, .box (w.heap.size + 1) #[.int .i64 (r.wide + 2)] 3, .box (w.heap.size + 1 + 1) #[.int .i64 (r.tall + 2)] 3]) := Lib.hid (by
      have := (((S0.out.box #[.int .i64 (r.wide + 2)] 3).box #[.int .i64 (r.tall + 2)] 3).drew).pick [0, 1, 2] (by decide) rfl
      rw [← hW] at this
      simpa using this)
    rw [← hW]
    clear hW S0
    generalize w.heap.size + 1 + 1 = gT at *
    generalize w.heap.size + 1 = gW at *
    generalize hgR : w.heap.size = gR at S1 ⊢
    have c0 := cell_of_one (S1.out.blk 1 rfl)
    have c1 := cell_of_one (S1.out.blk 2 rfl)
    have s0 := S1.out.lt 1 rfl rfl
    have s1 := S1.out.lt 2 rfl rfl
    go_wp2_with (at_make; refine list_make elem_bools (.bool false) zero_bool rfl r.n2 (.tmp 15) (.tmp 15) rfl rfl ((r.wide + 2) * (r.tall + 2)) ?_ ?_ HNN.out.symm ?_ ?_ ?_; rfl; rfl; omega; omega; intro cs hcs; have S2 := sim_boxes (.func (.func 107) #[] #[.pointer (some ⟨gW, 0, none⟩), .pointer (some ⟨gT, 0, none⟩), .pointer (some ⟨W.heap.size + 1, 0, none⟩), .pointer (some ⟨gR, 0, none⟩), .pointer (some ⟨W.heap.size + 1 + 1, 0, none⟩)]) S1.out hcs HN64.out; have k1 := cell_of_one (S2.out.blk 2 rfl))
    have S3 := Lib.hid (S2.out.pick [1, 2, 4, 3, 0, 5] (by decide) rfl)
    clear c0 c1 s0 s1 k1 S1 S2
    obtain ⟨W3, hW3⟩ : ∃ W3, W3 = (((W.alloc (.cells cs 4)).alloc (.cells #[.slice (some ⟨W.heap.size, 0, none⟩) r.n2 r.n2] 22)).alloc (.cells #[(.func (.func 107) #[] #[.pointer (some ⟨gW, 0, none⟩), .pointer (some ⟨gT, 0, none⟩), .pointer (some ⟨W.heap.size + 1, 0, none⟩), .pointer (some ⟨gR, 0, none⟩), .pointer (some ⟨W.heap.size + 1 + 1, 0, none⟩)])] 85)) := ⟨_, rfl⟩
    rw [← hW3] at S3 ⊢
    have S4 : Hid (Sep w none W3 (SiS r (.slice a r.cells.length cap) gW gT (W.heap.size + 1) gR (W.heap.size + 1 + 1) W.heap.size (List.replicate r.n2 false))) := S3
    clear S3 hW3 hcs
    generalize W.heap.size + 1 + 1 = gF at *
    generalize W.heap.size + 1 = gM at *
    generalize W.heap.size = gm at *
    obtain ⟨c0, c1, c2, ⟨c3, c4, c5⟩, c6⟩ := siS_cells S4.out
    go_wp2_with (fail)
    refine (sim_any (w0 := w) hv RV (by simp) (by omega) (by omega) S4.out).mono ?_
    rintro e w4 ⟨rfl, M4, g, hS⟩
    have hmet := met_dfs (r := r) (by omega) (by omega) g
    have hcount := met_count hv hmet
    have HS4 := Lib.hid hS
    clear g hS c0 c1 c2 c3 c4 c5 c6 S4
    obtain ⟨c0, c1, c2, ⟨c3, c4, c5⟩, c6⟩ := siS_cells HS4.out
    have l0 := HS4.out.lt 0 rfl rfl
    have l1 := HS4.out.lt 1 rfl rfl
    have l2 := HS4.out.lt 2 rfl rfl
    have l4 := HS4.out.lt 4 rfl rfl
    have hq1 := cnt_le M4
    have hp1 := cnt_le r.cells
    have hM4l : M4.length = r.n2 := hmet.1
    have D1 : Hid (∀ K : Later w4, Bl K.x (.slice (some ⟨gm, 0, none⟩) r.n2 r.n2) M4) := Lib.hid fun K => (show Bl w4 _ M4 from (HS4.out.own 3 rfl).sl).below K.h
    have D2 : Hid (∀ K : Later w4, Bl K.x (.slice a r.cells.length cap) r.cells) := Lib.hid fun K => HS0.out.below (HS4.out.bel.trans (K.h.mono HS4.out.bel.size))
    have D3 : Hid (∀ K : Later w4, RegV K.x (.agg #[.int .i64 r.wide, .int .i64 r.tall, .slice a r.cells.length cap]) r) := Lib.hid fun K => RV _ (HS4.out.bel.trans (K.h.mono HS4.out.bel.size))
    have C1 := fun K : Later w4 => many_ret _ M4 K.x (D1.out K)
    have C2 := fun K : Later w4 => many_ret _ r.cells K.x (D2.out K)
    have C3 := fun K : Later w4 => partsMany_ret _ r K.x (D3.out K) hv
    have hpb := partCount_bd r
    have hpm : r.pmany = (partCount r : Int) := by unfold Reg.pmany; rw [if_pos hv]
    rw [hpm] at HB
    obtain ⟨q, hq⟩ : ∃ q, cnt M4 = q := ⟨_, rfl⟩
    obtain ⟨p, hp⟩ : ∃ p, cnt r.cells = p := ⟨_, rfl⟩
    obtain ⟨pc, hpc⟩ : ∃ x, partCount r = x := ⟨_, rfl⟩
    rw [hq] at C1 hcount hq1
    rw [hp] at C2 hcount hp1
    rw [hpc] at C3 HB hpb
    rw [← hcount] at HB
    have C1 := Lib.hid C1
    have C2 := Lib.hid C2
    have C3 := Lib.hid C3
    have BW4 := Lib.hid HS4.out.bel
    have wmul : IntKind.i64.wrap ((r.wide + 2) * (r.tall + 2)) = (r.n2 : Int) := by rw [← HNN.out]; exact IntWalk.i64_in _ (by omega)
    generalize r.n2 = N at *
    have wsub : IntKind.i64.wrap ((N : Int) - p) = (N : Int) - p := IntWalk.i64_in _ (by omega)
    clear hcount hq hp hpc hmet hpm D1 D2 D3 HNN HN64 hN hA hA0
    have hLc : ∀ (K : Later w4) (b o : Nat), b < w4.heap.size → K.x.cell? ⟨b, o, none⟩ = w4.cell? ⟨b, o, none⟩ := Later.cell
    go_wp2_with (fail)
    by_cases he : q = (N : Int) - p
    · have heq : (q == (N : Int) - p) = true := by simpa using he
      have HB2 : Hid (b = decide ((pc : Int) = 1)) := Lib.hid (by rw [← HB.out, decide_eq_true he]; rfl)
      clear HB he
      by_cases h1 : pc = 1
      · subst h1
        have E : Hid (b = true) := Lib.hid HB2.out
        clear HB2
        refine wp_region_later_all (by kernel_rfl) (by kernel_rfl) ?_
        repeat (first | go_big_quiet_step (first | (with_reducible exact calls_later _ (C1.out _)) | (with_reducible exact calls_later _ (C2.out _)) | (with_reducible exact calls_later _ (C3.out _))) | rw [wmul] | rw [wsub] | rw [heq])
        refine wpQuiet_nil ?_
        intro K
        have BK := Lib.hid (BW4.out.trans (K.h.mono BW4.out.size))
        go_wp2
        go_ret
        exact ⟨ret_bool (by first | exact E.out.symm | (rw [E.out]; rfl)), BK.out⟩
      · have hne : ((pc : Int) == 1) = false := by simp; omega
        have E : Hid (b = false) := Lib.hid (by rw [HB2.out]; exact decide_eq_false (by omega))
        clear HB2
        refine wp_region_later_all (by kernel_rfl) (by kernel_rfl) ?_
        repeat (first | go_big_quiet_step (first | (with_reducible exact calls_later _ (C1.out _)) | (with_reducible exact calls_later _ (C2.out _)) | (with_reducible exact calls_later _ (C3.out _))) | rw [wmul] | rw [wsub] | rw [heq])
        refine wpQuiet_nil ?_
        intro K
        have BK := Lib.hid (BW4.out.trans (K.h.mono BW4.out.size))
        go_wp2
        go_ret
        exact ⟨ret_bool (by first | exact E.out.symm | (rw [E.out]; exact hne)), BK.out⟩
    · have heq : (q == (N : Int) - p) = false := by simpa using he
      have E : Hid (b = false) := Lib.hid (by rw [← HB.out, decide_eq_false he]; rfl)
      clear HB he
      refine wp_region_later_all (by kernel_rfl) (by kernel_rfl) ?_
      repeat (first | go_big_quiet_step (first | (with_reducible exact calls_later _ (C1.out _)) | (with_reducible exact calls_later _ (C2.out _)) | (with_reducible exact calls_later _ (C3.out _))) | rw [wmul] | rw [wsub] | rw [heq])
      refine wpQuiet_nil ?_
      intro K
      have BK := Lib.hid (BW4.out.trans (K.h.mono BW4.out.size))
      go_wp2
      go_ret
      exact ⟨ret_bool (by first | exact E.out.symm | (rw [E.out]; rfl)), BK.out⟩
  · obtain ⟨W, hW⟩ : ∃ W, W = (((w.alloc (.cells #[.int .i64 r.wide, .int .i64 r.tall, .slice a r.cells.length cap] 28)).alloc (.cells #[.int .i64 (r.tall + 2)] 3)).alloc (.cells #[.int .i64 (r.wide + 2)] 3)).drew := ⟨_, rfl⟩
    have S1 : Hid (Sep w none W [.box w.heap.size #[.int .i64 r.wide, .int .i64 r.tall, .slice a r.cells.length cap] 28, .box (w.heap.size + 1 + 1) #[.int .i64 (r.wide + 2)] 3, .box (w.heap.size + 1) #[.int .i64 (r.tall + 2)] 3]) := Lib.hid (by
      have := (((S0.out.box #[.int .i64 (r.tall + 2)] 3).box #[.int .i64 (r.wide + 2)] 3).drew).pick [0, 2, 1] (by decide) rfl
      rw [← hW] at this
      simpa using this)
    rw [← hW]
    clear hW S0
    generalize w.heap.size + 1 + 1 = gW at *
    generalize w.heap.size + 1 = gT at *
    generalize hgR : w.heap.size = gR at S1 ⊢
    have c0 := cell_of_one (S1.out.blk 1 rfl)
    have c1 := cell_of_one (S1.out.blk 2 rfl)
    have s0 := S1.out.lt 1 rfl rfl
    have s1 := S1.out.lt 2 rfl rfl
    go_wp2_with (at_make; refine list_make elem_bools (.bool false) zero_bool rfl r.n2 (.tmp 15) (.tmp 15) rfl rfl ((r.wide + 2) * (r.tall + 2)) ?_ ?_ HNN.out.symm ?_ ?_ ?_; rfl; rfl; omega; omega; intro cs hcs; have S2 := sim_boxes (.func (.func 107) #[] #[.pointer (some ⟨gW, 0, none⟩), .pointer (some ⟨gT, 0, none⟩), .pointer (some ⟨W.heap.size + 1, 0, none⟩), .pointer (some ⟨gR, 0, none⟩), .pointer (some ⟨W.heap.size + 1 + 1, 0, none⟩)]) S1.out hcs HN64.out; have k1 := cell_of_one (S2.out.blk 2 rfl))
    have S3 := Lib.hid (S2.out.pick [1, 2, 4, 3, 0, 5] (by decide) rfl)
    clear c0 c1 s0 s1 k1 S1 S2
    obtain ⟨W3, hW3⟩ : ∃ W3, W3 = (((W.alloc (.cells cs 4)).alloc (.cells #[.slice (some ⟨W.heap.size, 0, none⟩) r.n2 r.n2] 22)).alloc (.cells #[(.func (.func 107) #[] #[.pointer (some ⟨gW, 0, none⟩), .pointer (some ⟨gT, 0, none⟩), .pointer (some ⟨W.heap.size + 1, 0, none⟩), .pointer (some ⟨gR, 0, none⟩), .pointer (some ⟨W.heap.size + 1 + 1, 0, none⟩)])] 85)) := ⟨_, rfl⟩
    rw [← hW3] at S3 ⊢
    have S4 : Hid (Sep w none W3 (SiS r (.slice a r.cells.length cap) gW gT (W.heap.size + 1) gR (W.heap.size + 1 + 1) W.heap.size (List.replicate r.n2 false))) := S3
    clear S3 hW3 hcs
    generalize W.heap.size + 1 + 1 = gF at *
    generalize W.heap.size + 1 = gM at *
    generalize W.heap.size = gm at *
    obtain ⟨c0, c1, c2, ⟨c3, c4, c5⟩, c6⟩ := siS_cells S4.out
    go_wp2_with (fail)
    refine (sim_any (w0 := w) hv RV (by simp) (by omega) (by omega) S4.out).mono ?_
    rintro e w4 ⟨rfl, M4, g, hS⟩
    have hmet := met_dfs (r := r) (by omega) (by omega) g
    have hcount := met_count hv hmet
    have HS4 := Lib.hid hS
    clear g hS c0 c1 c2 c3 c4 c5 c6 S4
    obtain ⟨c0, c1, c2, ⟨c3, c4, c5⟩, c6⟩ := siS_cells HS4.out
    have l0 := HS4.out.lt 0 rfl rfl
    have l1 := HS4.out.lt 1 rfl rfl
    have l2 := HS4.out.lt 2 rfl rfl
    have l4 := HS4.out.lt 4 rfl rfl
    have hq1 := cnt_le M4
    have hp1 := cnt_le r.cells
    have hM4l : M4.length = r.n2 := hmet.1
    have D1 : Hid (∀ K : Later w4, Bl K.x (.slice (some ⟨gm, 0, none⟩) r.n2 r.n2) M4) := Lib.hid fun K => (show Bl w4 _ M4 from (HS4.out.own 3 rfl).sl).below K.h
    have D2 : Hid (∀ K : Later w4, Bl K.x (.slice a r.cells.length cap) r.cells) := Lib.hid fun K => HS0.out.below (HS4.out.bel.trans (K.h.mono HS4.out.bel.size))
    have D3 : Hid (∀ K : Later w4, RegV K.x (.agg #[.int .i64 r.wide, .int .i64 r.tall, .slice a r.cells.length cap]) r) := Lib.hid fun K => RV _ (HS4.out.bel.trans (K.h.mono HS4.out.bel.size))
    have C1 := fun K : Later w4 => many_ret _ M4 K.x (D1.out K)
    have C2 := fun K : Later w4 => many_ret _ r.cells K.x (D2.out K)
    have C3 := fun K : Later w4 => partsMany_ret _ r K.x (D3.out K) hv
    have hpb := partCount_bd r
    have hpm : r.pmany = (partCount r : Int) := by unfold Reg.pmany; rw [if_pos hv]
    rw [hpm] at HB
    obtain ⟨q, hq⟩ : ∃ q, cnt M4 = q := ⟨_, rfl⟩
    obtain ⟨p, hp⟩ : ∃ p, cnt r.cells = p := ⟨_, rfl⟩
    obtain ⟨pc, hpc⟩ : ∃ x, partCount r = x := ⟨_, rfl⟩
    rw [hq] at C1 hcount hq1
    rw [hp] at C2 hcount hp1
    rw [hpc] at C3 HB hpb
    rw [← hcount] at HB
    have C1 := Lib.hid C1
    have C2 := Lib.hid C2
    have C3 := Lib.hid C3
    have BW4 := Lib.hid HS4.out.bel
    have wmul : IntKind.i64.wrap ((r.wide + 2) * (r.tall + 2)) = (r.n2 : Int) := by rw [← HNN.out]; exact IntWalk.i64_in _ (by omega)
    generalize r.n2 = N at *
    have wsub : IntKind.i64.wrap ((N : Int) - p) = (N : Int) - p := IntWalk.i64_in _ (by omega)
    clear hcount hq hp hpc hmet hpm D1 D2 D3 HNN HN64 hN hA hA0
    have hLc : ∀ (K : Later w4) (b o : Nat), b < w4.heap.size → K.x.cell? ⟨b, o, none⟩ = w4.cell? ⟨b, o, none⟩ := Later.cell
    go_wp2_with (fail)
    by_cases he : q = (N : Int) - p
    · have heq : (q == (N : Int) - p) = true := by simpa using he
      have HB2 : Hid (b = decide ((pc : Int) = 1)) := Lib.hid (by rw [← HB.out, decide_eq_true he]; rfl)
      clear HB he
      by_cases h1 : pc = 1
      · subst h1
        have E : Hid (b = true) := Lib.hid HB2.out
        clear HB2
        refine wp_region_later_all (by kernel_rfl) (by kernel_rfl) ?_
        repeat (first | go_big_quiet_step (first | (with_reducible exact calls_later _ (C1.out _)) | (with_reducible exact calls_later _ (C2.out _)) | (with_reducible exact calls_later _ (C3.out _))) | rw [wmul] | rw [wsub] | rw [heq])
        refine wpQuiet_nil ?_
        intro K
        have BK := Lib.hid (BW4.out.trans (K.h.mono BW4.out.size))
        go_wp2
        go_ret
        exact ⟨ret_bool (by first | exact E.out.symm | (rw [E.out]; rfl)), BK.out⟩
      · have hne : ((pc : Int) == 1) = false := by simp; omega
        have E : Hid (b = false) := Lib.hid (by rw [HB2.out]; exact decide_eq_false (by omega))
        clear HB2
        refine wp_region_later_all (by kernel_rfl) (by kernel_rfl) ?_
        repeat (first | go_big_quiet_step (first | (with_reducible exact calls_later _ (C1.out _)) | (with_reducible exact calls_later _ (C2.out _)) | (with_reducible exact calls_later _ (C3.out _))) | rw [wmul] | rw [wsub] | rw [heq])
        refine wpQuiet_nil ?_
        intro K
        have BK := Lib.hid (BW4.out.trans (K.h.mono BW4.out.size))
        go_wp2
        go_ret
        exact ⟨ret_bool (by first | exact E.out.symm | (rw [E.out]; exact hne)), BK.out⟩
    · have heq : (q == (N : Int) - p) = false := by simpa using he
      have E : Hid (b = false) := Lib.hid (by rw [← HB.out, decide_eq_false he]; rfl)
      clear HB he
      refine wp_region_later_all (by kernel_rfl) (by kernel_rfl) ?_
      repeat (first | go_big_quiet_step (first | (with_reducible exact calls_later _ (C1.out _)) | (with_reducible exact calls_later _ (C2.out _)) | (with_reducible exact calls_later _ (C3.out _))) | rw [wmul] | rw [wsub] | rw [heq])
      refine wpQuiet_nil ?_
      intro K
      have BK := Lib.hid (BW4.out.trans (K.h.mono BW4.out.size))
      go_wp2
      go_ret
      exact ⟨ret_bool (by first | exact E.out.symm | (rw [E.out]; rfl)), BK.out⟩
set_option maxHeartbeats 400000 in
theorem Simple_is (v : Value) (r : Reg) (w : World) (h : RegV w v r) (b : Bool) (hb0 : r.simB = b) : Calls Try.prog 73 #[v] w (Ret (.bool b) w) := by
  obtain ⟨a, cap, rfl, hs, hlc, hcm⟩ := h.opened
  have R0 := Lib.hid (RB.new hs)
  have B0 := Lib.hid (below_alloc w (.cells #[.int .i64 r.wide, .int .i64 r.tall, .slice a r.cells.length cap] 28))
  have HB := Lib.hid hb0
  clear h hs hb0
  go_enter Try.func73, Try.ntmps73
  go_wp2_with (fail)
  cases hv : r.valid
  · refine (RegionValid_is _ r _ R0.out.v false hv).mono ?_
    rintro e w1 ⟨rfl, hb⟩
    have B1 := Lib.hid (B0.out.trans (hb.mono B0.out.size))
    have E : Hid (b = false) := Lib.hid (by rw [← HB.out]; unfold Reg.simB; rw [hv]; rfl)
    clear hb
    go_wp2
    go_ret
    exact ⟨ret_bool E.out.symm, B1.out⟩
  · refine (RegionValid_is _ r _ R0.out.v true hv).mono ?_
    rintro e w1 ⟨rfl, hb⟩
    have B1 := Lib.hid (B0.out.trans (hb.mono B0.out.size))
    have R1 := Lib.hid (R0.out.on hb)
    have E : Hid ((decide (r.outs = 1) && decide (r.pmany = 1)) = b) := Lib.hid (by rw [← HB.out]; unfold Reg.simB; rw [hv]; rfl)
    clear hb R0
    obtain ⟨x0, x1, x2⟩ := R1.out.c3
    go_wp2_with (fail)
    refine (simple_any _ r _ R1.out.v hv b E.out).mono ?_
    rintro e w2 ⟨rfl, hb⟩
    have B2 := Lib.hid (B1.out.trans (hb.mono B1.out.size))
    clear hb x0 x1 x2
    go_wp2
    go_ret
    exact ⟨rfl, B2.out⟩
end Go.Proofs.Ytdggcfpkbmdllaa
