/- Walks: the search of holes, holes, HolesMany of the program. -/
import Derived.Test.YtklifibiadiinaaVWparts
import Derived.Test.YtklifibiadiinaaZc
set_option linter.unusedVariables false
namespace Go.Proofs.Ytklifibiadiinaa
open Go.RowKit Domi

theorem own_bool {w : World} {B : Nat} {e : TypeId} {g n c : Nat} {L : List Bool} (h : Own w B e (.slice (some ⟨g, 0, none⟩) n c) (L.map Value.bool)) {j : Nat} (hj : j < L.length) :
    w.cell? ⟨g, j, none⟩ = some (.bool (L.getD j false)) ∧ w.frozen? ⟨g, j, none⟩ = false ∧ g < w.heap.size := by
  have hn : n = L.length := by obtain ⟨_, _, _, hn, _⟩ := h.block; simpa using hn
  obtain ⟨h1, h2, h3⟩ := h.cell j (by omega)
  refine ⟨?_, h2, h3⟩
  rw [h1, List.getElem?_map, List.getElem?_eq_getElem hj, ← Domi.get_at L false j hj]; rfl
theorem inB_no {n lo hi : Int} (h : ¬ (lo ≤ n ∧ n ≤ hi)) : inB n lo hi = false := by
  cases e : inB n lo hi
  · rfl
  · exact absurd (inB_iff.1 e) h
theorem in_is (n lo hi : Int) (w : World) (b : Bool) (h : inB n lo hi = b) : Calls Try.prog 59 #[.int .i64 n, .int .i64 lo, .int .i64 hi] w fun e w' => e = .returned (.bool b) ∧ w = w' := by rw [← h]; exact in_any n lo hi w
theorem at_is (v : Value) (r : Reg) (x y : Int) (w : World) (h : RegV w v r) (hv : r.valid = true) (hx : -100 ≤ x ∧ x ≤ 100) (hy : -100 ≤ y ∧ y ≤ 100) (b : Bool) (hb : r.at_ x y = b) :
    Calls Try.prog 95 #[v, .int .i64 x, .int .i64 y] w (Ret (.bool b) w) := by rw [← hb]; exact at_any v r x y w h hv hx hy

def ptr1 (g : Nat) : Value := .pointer (some ⟨g, 0, none⟩)
/-- The variables that the search reads. -/
def HoS (r : Reg) (s : Value) (gW gT gM gR gF gm : Nat) (M : List Bool) : List It :=
  [.box gW #[.int .i64 (r.wide + 2)] 3, .box gT #[.int .i64 (r.tall + 2)] 3, .box gM #[.slice (some ⟨gm, 0, none⟩) r.n2 r.n2] 22, .row 4 (.slice (some ⟨gm, 0, none⟩) r.n2 r.n2) (M.map Value.bool),
    .box gR #[.int .i64 r.wide, .int .i64 r.tall, s] 28, .box gF #[.func (.func 94) #[] #[.pointer (some ⟨gW, 0, none⟩), .pointer (some ⟨gT, 0, none⟩), .pointer (some ⟨gM, 0, none⟩), .pointer (some ⟨gR, 0, none⟩), .pointer (some ⟨gF, 0, none⟩)]] 85]
theorem hoS_set {w wr : World} {r : Reg} {s : Value} {gW gT gM gR gF gm : Nat} {M : List Bool} (h : Sep w none wr (HoS r s gW gT gM gR gF gm M)) (k : Nat) (b : Bool) : Sep w none (wr.setCell ⟨gm, k, none⟩ (.bool b)) (HoS r s gW gT gM gR gF gm (M.set k b)) := by
  have := h.set 3 rfl k (.bool b)
  rw [← List.map_set] at this
  exact this
theorem hoS_cells {w wr : World} {r : Reg} {s : Value} {gW gT gM gR gF gm : Nat} {M : List Bool} (h : Sep w none wr (HoS r s gW gT gM gR gF gm M)) :
    wr.cell? ⟨gW, 0, none⟩ = some (.int .i64 (r.wide + 2)) ∧ wr.cell? ⟨gT, 0, none⟩ = some (.int .i64 (r.tall + 2)) ∧ wr.cell? ⟨gM, 0, none⟩ = some (.slice (some ⟨gm, 0, none⟩) r.n2 r.n2) ∧
    (wr.cell? ⟨gR, 0, none⟩ = some (.int .i64 r.wide) ∧ wr.cell? ⟨gR, 1, none⟩ = some (.int .i64 r.tall) ∧ wr.cell? ⟨gR, 2, none⟩ = some s) ∧
    wr.cell? ⟨gF, 0, none⟩ = some (.func (.func 94) #[] #[.pointer (some ⟨gW, 0, none⟩), .pointer (some ⟨gT, 0, none⟩), .pointer (some ⟨gM, 0, none⟩), .pointer (some ⟨gR, 0, none⟩), .pointer (some ⟨gF, 0, none⟩)]) :=
  ⟨cell_of_one (h.blk 0 rfl), cell_of_one (h.blk 1 rfl), cell_of_one (h.blk 2 rfl), h.c3 4 rfl, cell_of_one (h.blk 5 rfl)⟩

/-- What the search leaves. -/
def Searched (w0 : World) (r : Reg) (s : Value) (gW gT gM gR gF gm : Nat) (M : List Bool) (x y : Int) (e : Ending) (w' : World) : Prop :=
  e = .returned (.tuple #[]) ∧ ∃ M', Dfs (E8 r) r.fr M M' (plc r x y) ∧ Sep w0 none w' (HoS r s gW gT gM gR gF gm M')

/-- Where the place is, and what lies there. -/
theorem hole_place {r : Reg} (hv : r.valid = true) {x y : Int} (hx : 0 ≤ x ∧ x ≤ r.wide + 1) (hy : 0 ≤ y ∧ y ≤ r.tall + 1) :
    ∃ c : Nat, plc r x y c ∧ c < r.n2 ∧ (y * (r.wide + 2) + x).toNat = c ∧ r.n2 ≤ 64 ∧ (0 ≤ y * (r.wide + 2) ∧ y * (r.wide + 2) ≤ 64) ∧ (0 ≤ y * (r.wide + 2) + x ∧ y * (r.wide + 2) + x < (r.n2 : Int)) := by
  obtain ⟨v1, v2, v3, _⟩ := Reg.valid_iff.1 hv
  have hl := xy_lt (w := r.wide + 2) (t := r.tall + 2) (x := x) (y := y) (by omega) (by omega) (by omega) (by omega)
  have hm := xy_lt (w := r.wide + 2) (t := r.tall + 2) (x := 0) (y := y) (by omega) (by omega) (by omega) (by omega)
  have hn2 := n2_int (r := r) (by omega) (by omega)
  have := area_in' v1 v2
  refine ⟨(y * (r.wide + 2) + x).toNat, ⟨by omega, by omega, by omega, by omega, by omega⟩, by omega, rfl, by omega, by omega, by omega⟩

set_option maxRecDepth 100000 in
set_option maxHeartbeats 2000000 in
theorem hole_outX (w0 : World) (r : Reg) (s : Value) (hv : r.valid = true) (RV : ∀ w', Below w0.heap.size w0 w' → RegV w' (.agg #[.int .i64 r.wide, .int .i64 r.tall, s]) r) (gW gT gM gR gF gm : Nat)
    (M : List Bool) (x y : Int) (w : World) (HL : Hid (M.length = r.n2)) (hx : -1 ≤ x ∧ x ≤ r.wide + 2) (hy : -1 ≤ y ∧ y ≤ r.tall + 2) (HS : Hid (Sep w0 none w (HoS r s gW gT gM gR gF gm M))) (ho : ¬ (0 ≤ x ∧ x ≤ r.wide + 1)) :
    Calls Try.prog 94 #[.int .i64 x, .int .i64 y, .pointer (some ⟨gW, 0, none⟩), .pointer (some ⟨gT, 0, none⟩), .pointer (some ⟨gM, 0, none⟩), .pointer (some ⟨gR, 0, none⟩), .pointer (some ⟨gF, 0, none⟩)] w (Searched w0 r s gW gT gM gR gF gm M x y) := by
  obtain ⟨v1, v2, v3, _⟩ := Reg.valid_iff.1 hv
  obtain ⟨c0, _⟩ := hoS_cells HS.out
  go_enter Try.func94, Try.ntmps94
  go_wp2_with (go_at_call 59; refine (in_is _ _ _ _ false (inB_no (by omega))).mono ?_; rintro e w' ⟨rfl, rfl⟩)
  all_goals ((first | go_end0 | ((try simp only [Exit.inBlock, Exit.then]); refine bodyPost_ret (results_none rfl _ _ _) rfl ?_)); exact ⟨rfl, M, dfs_out (by omega), HS.out⟩)

set_option maxRecDepth 100000 in
set_option maxHeartbeats 2000000 in
theorem hole_outY (w0 : World) (r : Reg) (s : Value) (hv : r.valid = true) (RV : ∀ w', Below w0.heap.size w0 w' → RegV w' (.agg #[.int .i64 r.wide, .int .i64 r.tall, s]) r) (gW gT gM gR gF gm : Nat)
    (M : List Bool) (x y : Int) (w : World) (HL : Hid (M.length = r.n2)) (hx : -1 ≤ x ∧ x ≤ r.wide + 2) (hy : -1 ≤ y ∧ y ≤ r.tall + 2) (HS : Hid (Sep w0 none w (HoS r s gW gT gM gR gF gm M))) (hi : 0 ≤ x ∧ x ≤ r.wide + 1) (ho : ¬ (0 ≤ y ∧ y ≤ r.tall + 1)) :
    Calls Try.prog 94 #[.int .i64 x, .int .i64 y, .pointer (some ⟨gW, 0, none⟩), .pointer (some ⟨gT, 0, none⟩), .pointer (some ⟨gM, 0, none⟩), .pointer (some ⟨gR, 0, none⟩), .pointer (some ⟨gF, 0, none⟩)] w (Searched w0 r s gW gT gM gR gF gm M x y) := by
  obtain ⟨v1, v2, v3, _⟩ := Reg.valid_iff.1 hv
  obtain ⟨c0, c1, _⟩ := hoS_cells HS.out
  go_enter Try.func94, Try.ntmps94
  go_wp2_with (fail)
  refine (in_is _ _ _ _ true (inB_iff.2 (by omega))).mono ?_
  rintro e w' ⟨rfl, rfl⟩
  go_wp2_with (fail)
  refine (in_is _ _ _ _ false (inB_no (by omega))).mono ?_
  rintro e w' ⟨rfl, rfl⟩
  go_wp2
  all_goals ((first | go_end0 | ((try simp only [Exit.inBlock, Exit.then]); refine bodyPost_ret (results_none rfl _ _ _) rfl ?_)); exact ⟨rfl, M, dfs_out (by omega), HS.out⟩)

set_option maxRecDepth 100000 in
set_option maxHeartbeats 2000000 in
theorem hole_met (w0 : World) (r : Reg) (s : Value) (hv : r.valid = true) (RV : ∀ w', Below w0.heap.size w0 w' → RegV w' (.agg #[.int .i64 r.wide, .int .i64 r.tall, s]) r) (gW gT gM gR gF gm : Nat)
    (M : List Bool) (x y : Int) (w : World) (HL : Hid (M.length = r.n2)) (hx : -1 ≤ x ∧ x ≤ r.wide + 2) (hy : -1 ≤ y ∧ y ≤ r.tall + 2) (HS : Hid (Sep w0 none w (HoS r s gW gT gM gR gF gm M))) (hxi : 0 ≤ x ∧ x ≤ r.wide + 1) (hyi : 0 ≤ y ∧ y ≤ r.tall + 1) (HM : Hid (M.getD (y * (r.wide + 2) + x).toNat false = true)) :
    Calls Try.prog 94 #[.int .i64 x, .int .i64 y, .pointer (some ⟨gW, 0, none⟩), .pointer (some ⟨gT, 0, none⟩), .pointer (some ⟨gM, 0, none⟩), .pointer (some ⟨gR, 0, none⟩), .pointer (some ⟨gF, 0, none⟩)] w (Searched w0 r s gW gT gM gR gF gm M x y) := by
  obtain ⟨v1, v2, v3, _⟩ := Reg.valid_iff.1 hv
  obtain ⟨c, hp, hcl, hcn, hn3, hmul, hk0⟩ := hole_place hv hxi hyi
  obtain ⟨u1, u2, u3⟩ := own_bool (HS.out.own 3 rfl) (j := c) (by rw [HL.out]; exact hcl)
  have HP := Lib.hid hp
  have HCN := Lib.hid hcn
  rw [← hcn] at u1 u2
  rw [HM.out] at u1
  obtain ⟨c0, c1, c2, _⟩ := hoS_cells HS.out
  clear hp hcn
  go_enter Try.func94, Try.ntmps94
  go_wp2_with (fail)
  refine (in_is _ _ _ _ true (inB_iff.2 (by omega))).mono ?_
  rintro e w' ⟨rfl, rfl⟩
  go_wp2_with (fail)
  refine (in_is _ _ _ _ true (inB_iff.2 (by omega))).mono ?_
  rintro e w' ⟨rfl, rfl⟩
  go_wp2
  all_goals ((first | go_end0 | ((try simp only [Exit.inBlock, Exit.then]); refine bodyPost_ret (results_none rfl _ _ _) rfl ?_)); exact ⟨rfl, M, dfs_met HP.out (HCN.out ▸ HM.out), HS.out⟩)

set_option maxRecDepth 100000 in
set_option maxHeartbeats 2000000 in
theorem hole_cell (w0 : World) (r : Reg) (s : Value) (hv : r.valid = true) (RV : ∀ w', Below w0.heap.size w0 w' → RegV w' (.agg #[.int .i64 r.wide, .int .i64 r.tall, s]) r) (gW gT gM gR gF gm : Nat)
    (M : List Bool) (x y : Int) (w : World) (HL : Hid (M.length = r.n2)) (hx : -1 ≤ x ∧ x ≤ r.wide + 2) (hy : -1 ≤ y ∧ y ≤ r.tall + 2) (HS : Hid (Sep w0 none w (HoS r s gW gT gM gR gF gm M))) (hxi : 0 ≤ x ∧ x ≤ r.wide + 1) (hyi : 0 ≤ y ∧ y ≤ r.tall + 1) (HM : Hid (M.getD (y * (r.wide + 2) + x).toNat false = false)) (HA : Hid (r.at_ (x - 1) (y - 1) = true)) :
    Calls Try.prog 94 #[.int .i64 x, .int .i64 y, .pointer (some ⟨gW, 0, none⟩), .pointer (some ⟨gT, 0, none⟩), .pointer (some ⟨gM, 0, none⟩), .pointer (some ⟨gR, 0, none⟩), .pointer (some ⟨gF, 0, none⟩)] w (Searched w0 r s gW gT gM gR gF gm M x y) := by
  obtain ⟨v1, v2, v3, _⟩ := Reg.valid_iff.1 hv
  obtain ⟨c, hp, hcl, hcn, hn3, hmul, hk0⟩ := hole_place hv hxi hyi
  obtain ⟨u1, u2, u3⟩ := own_bool (HS.out.own 3 rfl) (j := c) (by rw [HL.out]; exact hcl)
  rw [← hcn] at u1 u2
  rw [HM.out] at u1
  obtain ⟨c0, c1, c2, ⟨c3, c4, c5⟩, _⟩ := hoS_cells HS.out
  clear hp hcn
  go_enter Try.func94, Try.ntmps94
  go_wp2_with (fail)
  refine (in_is _ _ _ _ true (inB_iff.2 (by omega))).mono ?_
  rintro e w' ⟨rfl, rfl⟩
  go_wp2_with (fail)
  refine (in_is _ _ _ _ true (inB_iff.2 (by omega))).mono ?_
  rintro e w' ⟨rfl, rfl⟩
  go_wp2_with (fail)
  refine (at_is _ r _ _ _ (RV _ HS.out.bel) hv (by omega) (by omega) true HA.out).mono ?_
  rintro e w' ⟨rfl, hb⟩
  have HB := Lib.hid hb
  clear hb
  go_wp2
  all_goals ((first | go_end0 | ((try simp only [Exit.inBlock, Exit.then]); refine bodyPost_ret (results_none rfl _ _ _) rfl ?_)); exact ⟨rfl, M, dfs_cell (by omega) (by omega) HA.out, HS.out.below HB.out⟩)

set_option maxRecDepth 100000 in
set_option maxHeartbeats 4000000 in
theorem hole_search (w0 : World) (r : Reg) (s : Value) (hv : r.valid = true) (RV : ∀ w', Below w0.heap.size w0 w' → RegV w' (.agg #[.int .i64 r.wide, .int .i64 r.tall, s]) r) (gW gT gM gR gF gm : Nat) :
    ∀ (n : Nat) (M : List Bool) (x y : Int) (w : World), unmet M < n → M.length = r.n2 → (-1 ≤ x ∧ x ≤ r.wide + 2) → (-1 ≤ y ∧ y ≤ r.tall + 2) → Sep w0 none w (HoS r s gW gT gM gR gF gm M) →
    Calls Try.prog 94 #[.int .i64 x, .int .i64 y, .pointer (some ⟨gW, 0, none⟩), .pointer (some ⟨gT, 0, none⟩), .pointer (some ⟨gM, 0, none⟩), .pointer (some ⟨gR, 0, none⟩), .pointer (some ⟨gF, 0, none⟩)] w (Searched w0 r s gW gT gM gR gF gm M x y) := by
  intro n
  induction n with
  | zero => intro M x y w h; exact absurd h (Nat.not_lt_zero _)
  | succ n ih =>
    intro M x y w hn hl hx hy hS
    have IH := Lib.hid ih
    have HN := Lib.hid hn
    have HL := Lib.hid hl
    have HS := Lib.hid hS
    clear ih hn hl hS
    by_cases hxi : 0 ≤ x ∧ x ≤ r.wide + 1
    rotate_left
    · exact hole_outX w0 r s hv RV gW gT gM gR gF gm M x y w HL hx hy HS hxi
    by_cases hyi : 0 ≤ y ∧ y ≤ r.tall + 1
    rotate_left
    · exact hole_outY w0 r s hv RV gW gT gM gR gF gm M x y w HL hx hy HS hxi hyi
    cases hmet : M.getD (y * (r.wide + 2) + x).toNat false
    rotate_left
    · exact hole_met w0 r s hv RV gW gT gM gR gF gm M x y w HL hx hy HS hxi hyi (Lib.hid hmet)
    cases hat : r.at_ (x - 1) (y - 1)
    rotate_left
    · exact hole_cell w0 r s hv RV gW gT gM gR gF gm M x y w HL hx hy HS hxi hyi (Lib.hid hmet) (Lib.hid hat)
    have HM := Lib.hid hmet
    have HA := Lib.hid hat
    obtain ⟨v1, v2, v3, _⟩ := Reg.valid_iff.1 hv
    obtain ⟨c, hp, hcl, hcn, hn3, hmul, hk0⟩ := hole_place hv hxi hyi
    obtain ⟨u1, u2, u3⟩ := own_bool (HS.out.own 3 rfl) (j := c) (by rw [HL.out]; exact hcl)
    have HP := Lib.hid hp
    have HCN := Lib.hid hcn
    have HF := Lib.hid (show r.fr c = true by rw [hp.fr (by omega) (by omega), hat]; rfl)
    rw [← hcn] at u1 u2
    rw [hmet] at u1
    obtain ⟨c0, c1, c2, ⟨c3, c4, c5⟩, _⟩ := hoS_cells HS.out
    have HMC := Lib.hid (show M.getD c false = false by rw [← hcn]; exact hmet)
    clear hp hcn hmet hat
    go_enter Try.func94, Try.ntmps94
    go_wp2_with (fail)
    refine (in_is _ _ _ _ true (inB_iff.2 (by omega))).mono ?_
    rintro e w' ⟨rfl, rfl⟩
    go_wp2_with (fail)
    refine (in_is _ _ _ _ true (inB_iff.2 (by omega))).mono ?_
    rintro e w' ⟨rfl, rfl⟩
    go_wp2_with (fail)
    refine (at_is _ r _ _ _ (RV _ HS.out.bel) hv (by omega) (by omega) false HA.out).mono ?_
    rintro e w1 ⟨rfl, hb⟩
    have HS1 := Lib.hid (HS.out.below hb)
    clear hb HS c0 c1 c2 c3 c4 c5 u1 u2 u3
    obtain ⟨c0, c1, c2, ⟨c3, c4, c5⟩, _⟩ := hoS_cells HS1.out
    obtain ⟨u1, u2, u3⟩ := own_bool (HS1.out.own 3 rfl) (j := c) (by rw [HL.out]; exact hcl)
    rw [← HCN.out] at u1 u2
    have S2 := Lib.hid (hoS_set HS1.out c true)
    rw [← HCN.out] at S2
    go_wp2_with (fail)
    clear c0 c1 c2 c3 c4 c5 u1 u2 u3
    rw [HCN.out] at *
    go_loopw [9] (fun i wr => ∃ (a : Nat) (M' : List Bool), a ≤ 3 ∧ i = .int .i64 ((a : Int) - 1) ∧ Sep w0 none wr (HoS r s gW gT gM gR gF gm M') ∧ Dfs (E8 r) r.fr (M.set c true) M' (KJ r x y ((a : Int) - 1) (-1))) (fun i _ => (2 - intOf i).toNat)
    case atStart => exact ⟨0, M.set c true, by omega, rfl, S2.out, .nothing fun k hk _ => (KJ_none hk).elim⟩
    case round =>
      clear S2 HS1
      obtain ⟨a, M1, ha3, rfl, S, hD⟩ := hrel
      have HS := Lib.hid S
      have HD := Lib.hid hD
      clear S hD
      by_cases hlt : a < 3
      · go_wp2_with (fail)
        go_loopw [10] (fun i w2 => ∃ (b : Nat) (M' : List Bool), b ≤ 3 ∧ i = .int .i64 ((b : Int) - 1) ∧ Sep w0 none w2 (HoS r s gW gT gM gR gF gm M') ∧ Dfs (E8 r) r.fr (M.set c true) M' (KJ r x y ((a : Int) - 1) ((b : Int) - 1))) (fun i _ => (2 - intOf i).toNat)
        case atStart => exact ⟨0, M1, by omega, rfl, HS.out, HD.out⟩
        case round =>
          clear HS HD
          obtain ⟨b, M2, hb3, rfl, S, hD⟩ := hrel
          have HS := Lib.hid S
          have HD := Lib.hid hD
          clear S hD
          by_cases hbt : b < 3
          · obtain ⟨c0, c1, c2, ⟨c3, c4, c5⟩, c6⟩ := hoS_cells HS.out
            go_wp2_with (fail)
            refine (IH.out M2 _ _ _ ?_ ?_ (by omega) (by omega) HS.out).mono ?_
            · have h1 := unmet_mono (HD.out.len) HD.out.grow
              have h2 := unmet_put (M := M) (c := c) (by rw [HL.out]; exact hcl) HMC.out
              have := HN.out
              omega
            · rw [HD.out.len, List.length_set]; exact HL.out
            rintro e w3 ⟨rfl, M3, hD3, hS3⟩
            have HS3 := Lib.hid hS3
            have HD3 := Lib.hid ((HD.out.seq hD3).congr fun k _ => KJ_step (a := (a : Int) - 1) (b := (b : Int) - 1) (by omega) (by omega))
            clear hS3 hD3 HS HD c0 c1 c2 c3 c4 c5 c6
            go_wp2
            go_roundw
            case rel => exact ⟨b + 1, M3, by omega, by go_num, HS3.out, by have := HD3.out; rw [show (b : Int) - 1 + 1 = ((b + 1 : Nat) : Int) - 1 by omega] at this; exact this⟩
            case measure => simp [intOf]; omega
          · have e : b = 3 := by omega
            subst e
            have HD := Lib.hid (HD.out.congr fun k _ => (show KJ r x y ((a : Int) - 1) (((3 : Nat) : Int) - 1) k ↔ KJ r x y ((a : Int) - 1 + 1) (-1) k from KJ_row))
            go_wp2
            go_roundw
            case rel => exact ⟨a + 1, M2, by omega, by go_num, HS.out, by have := HD.out; rw [show (a : Int) - 1 + 1 = ((a + 1 : Nat) : Int) - 1 by omega] at this; exact this⟩
            case measure => simp [intOf]; omega
      · have e : a = 3 := by omega
        subst e
        go_wp2
        all_goals ((first | go_end0 | ((try simp only [Exit.inBlock, Exit.then]); refine bodyPost_ret (results_none rfl _ _ _) rfl ?_)); exact ⟨rfl, M1, dfs_all (by omega) (by omega) HL.out HP.out HF.out HD.out, HS.out⟩)

/-- The search from any place. -/
theorem hole_any {w0 : World} {r : Reg} {s : Value} (hv : r.valid = true) (RV : ∀ w', Below w0.heap.size w0 w' → RegV w' (.agg #[.int .i64 r.wide, .int .i64 r.tall, s]) r) {gW gT gM gR gF gm : Nat} {M : List Bool} {x y : Int} {w : World} (hl : M.length = r.n2) (hx : 0 ≤ x ∧ x < r.wide + 2) (hy : 0 ≤ y ∧ y < r.tall + 2) (h : Sep w0 none w (HoS r s gW gT gM gR gF gm M)) :
    Calls Try.prog 94 #[.int .i64 x, .int .i64 y, .pointer (some ⟨gW, 0, none⟩), .pointer (some ⟨gT, 0, none⟩), .pointer (some ⟨gM, 0, none⟩), .pointer (some ⟨gR, 0, none⟩), .pointer (some ⟨gF, 0, none⟩)] w (Searched w0 r s gW gT gM gR gF gm M x y) :=
  hole_search w0 r s hv RV gW gT gM gR gF gm _ M x y w (Nat.lt_succ_self _) hl (by omega) (by omega) h

end Go.Proofs.Ytklifibiadiinaa
