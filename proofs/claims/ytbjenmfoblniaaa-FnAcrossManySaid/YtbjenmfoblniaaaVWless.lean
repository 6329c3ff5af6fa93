/- Walks: the reference's l3Less. -/
import Derived.Test.YtbjenmfoblniaaaZc
import Derived.Test.YtbjenmfoblniaaaZa
import Derived.Test.YtbjenmfoblniaaaVWparts
set_option linter.unusedVariables false
namespace Go.Proofs.Ytbjenmfoblniaaa
open Go.RowKit Domi

def lessL (l : List Bool) (cs : List Nat) : List Bool := cs.foldl (fun l k => l.set k false) l
theorem lessL_len (cs : List Nat) : ∀ l : List Bool, (lessL l cs).length = l.length := by
  induction cs with
  | nil => intro l; rfl
  | cons c cs ih => intro l; show (lessL (l.set c false) cs).length = _; rw [ih, List.length_set]
theorem lessL_take (l : List Bool) (cs : List Nat) (k : Nat) (h : k < cs.length) : lessL l (cs.take (k + 1)) = (lessL l (cs.take k)).set (cs.getD k 0) false := by
  unfold lessL
  rw [take_snoc cs 0 k h, List.foldl_append]; rfl
def _root_.Domi.Reg.lessN (r : Reg) (cs : List Nat) : Reg := ⟨r.wide, r.tall, lessL r.cells cs⟩
def LsA (w : World) (r : Reg) (s : Value) : List It := [.box w.heap.size #[.int .i64 r.wide, .int .i64 r.tall, s] 29, .box (w.heap.size + 1) #[.int .i64 0, .int .i64 0, .slice none 0 0] 29]
def LsD (w : World) (r : Reg) (s p : Value) (l : List Bool) (wx : World) : Prop :=
  ∃ X g c2, p = .pointer (some ⟨X, 0, none⟩) ∧ r.cells.length ≤ c2 ∧ c2 ≤ 9223372036854775807 ∧
    Sep w none wx [.box w.heap.size #[.int .i64 r.wide, .int .i64 r.tall, s] 29, .box (w.heap.size + 1) #[.int .i64 0, .int .i64 0, .slice none 0 0] 29,
      .box X #[.int .i64 r.wide, .int .i64 r.tall, .slice (some ⟨g, 0, none⟩) r.cells.length c2] 29, .row 4 (.slice (some ⟨g, 0, none⟩) r.cells.length c2) (l.map Value.bool)]

/-- A region with fewer cells, in memory of its own. -/
def RetLess (r : Reg) (cs : List Nat) (w : World) (e : Ending) (w' : World) : Prop := ∃ s, e = .returned (.agg #[.int .i64 r.wide, .int .i64 r.tall, s]) ∧ Own w' w.heap.size 4 s ((lessL r.cells cs).map Value.bool) ∧ Below w.heap.size w w'
set_option maxRecDepth 100000 in
set_option maxHeartbeats 2000000 in
theorem l3Less_ow (v u : Value) (r : Reg) (cs : List Nat) (w : World) (h : RegV w v r) (hu : Il w u (cs.map fun k : Nat => (k : Int))) (hlen : 0 < r.cells.length ∧ r.cells.length ≤ 36) (hcs : ∀ k, k < cs.length → cs.getD k 0 < r.cells.length) :
    Calls Try.prog 80 #[v, u] w (RetLess r cs w) := by
  obtain ⟨a, cap, rfl, hs, hlc, hcm⟩ := h.opened
  have Hs := Lib.hid hs
  obtain ⟨ua, uc, rfl, huc, hum, hcell⟩ := hu.opened
  rw [List.length_map] at huc hcell ⊢
  have HU := Lib.hid hcell
  have HCS := Lib.hid hcs
  have S2 := Lib.hid (show Sep w none _ (LsA w r (.slice a r.cells.length cap)) from Sep.two w none #[.int .i64 r.wide, .int .i64 r.tall, .slice a r.cells.length cap] #[.int .i64 0, .int .i64 0, .slice none 0 0] 29 29)
  clear hs h hu hcell hcs
  obtain ⟨W1, hW1⟩ : ∃ W1, W1 = (w.alloc (.cells #[.int .i64 r.wide, .int .i64 r.tall, .slice a r.cells.length cap] 29)).alloc (.cells #[.int .i64 0, .int .i64 0, .slice none 0 0] 29) := ⟨_, rfl⟩
  have s2 := S2.out.lt 1 rfl rfl
  rw [← hW1] at S2 s2
  go_enter Try.func80, Try.ntmps80
  go_upto_region 1 with (fail)
  rw [← hW1]
  clear hW1
  go_cut [5] (fun s5 wx => LsD w r (.slice a r.cells.length cap) s5 r.cells wx)
  case first =>
    obtain ⟨x0, x1, x2, _⟩ := three_cells (S2.out.blk 0 rfl)
    have S2' : Sep w none W1.drew (LsA w r (.slice a r.cells.length cap)) := S2.out.drew
    have HA : Hid (Sep w none (W1.drew.alloc (.cells #[] 4)) (LsA w r (.slice a r.cells.length cap) ++ [.row 4 (.slice (some ⟨W1.heap.size, 0, none⟩) 0 0) []])) := Lib.hid (S2'.empty 4)
    have HB : Hid (Sep w none ((W1.drew.alloc (.cells #[] 4)).alloc (.cells #[.int .i64 0, .int .i64 0, .slice none 0 0] 29)) (LsA w r (.slice a r.cells.length cap) ++ [.row 4 (.slice (some ⟨W1.heap.size, 0, none⟩) 0 0) []] ++ [.box (W1.heap.size + 1) #[.int .i64 0, .int .i64 0, .slice none 0 0] 29])) := Lib.hid (by have := HA.out.box #[.int .i64 0, .int .i64 0, .slice none 0 0] 29; simpa [LsA] using this)
    have HC : Hid (Sep w none ((W1.drew.alloc (.cells #[.int .i64 0, .int .i64 0, .slice none 0 0] 29)).alloc (.cells #[] 4)) (LsA w r (.slice a r.cells.length cap) ++ [.box W1.heap.size #[.int .i64 0, .int .i64 0, .slice none 0 0] 29] ++ [.row 4 (.slice (some ⟨W1.heap.size + 1, 0, none⟩) 0 0) []])) := Lib.hid (by have := (S2'.box #[.int .i64 0, .int .i64 0, .slice none 0 0] 29).empty 4; simpa [LsA] using this)
    clear S2'
    have hN : (r.cells.map Value.bool).length = r.cells.length := by simp
    have h1c : ∀ x ∈ r.cells.map Value.bool, x.oneCell' = true := fun x hx => by obtain ⟨y, _, rfl⟩ := List.mem_map.1 hx; rfl
    have HN := Lib.hid hN
    have H1c := Lib.hid h1c
    clear hN h1c
    go_region_held3 (fun w' => w'.cell? ⟨w.heap.size, 0, none⟩ = some (.int .i64 r.wide) ∧ w'.cell? ⟨w.heap.size, 1, none⟩ = some (.int .i64 r.tall) ∧ w'.cell? ⟨w.heap.size, 2, none⟩ = some (.slice a r.cells.length cap))
      (first | with_reducible exact K4.out | with_reducible exact A4.out _ | with_reducible exact P4.out _ _ _ | (go_keep; done) | assumption)
      ((first
        | (refine step_copy elem_bools _ (HA.out.own 2 rfl) _ (r.cells.map Value.bool) (Hs.out.below (S2.out.bel.trans (by go_grown))) r.cells.length HN.out hlen.1 (.tmp 11) (.tmp 13) (by rfl) (by rfl) (by rfl) (by rfl) H1c.out (by omega) ?_; intro g c2 w4 A5; (have S5 := HA.out.copied 2 rfl A5); (have P4 := Lib.hid trivial); obtain ⟨k0, k1, k2, _⟩ := three_cells (S5.blk 0 rfl); (have K4 := Lib.hid (And.intro k0 (And.intro k1 k2))); (have A4 := Lib.hid (fun o => Sep.c3 (S5.alloc o) 0 rfl)); (have H5 := Lib.hid S5); (have L5 := Lib.hid (And.intro A5.le A5.max)); clear k0 k1 k2 S5 A5)
        | (refine step_copy elem_bools _ (HB.out.own 2 rfl) _ (r.cells.map Value.bool) (Hs.out.below (S2.out.bel.trans (by go_grown))) r.cells.length HN.out hlen.1 (.tmp 11) (.tmp 13) (by rfl) (by rfl) (by rfl) (by rfl) H1c.out (by omega) ?_; intro g c2 w4 A5; (have S5 := HB.out.copied 2 rfl A5); (have P4 := Lib.hid (fun x y z => Sep.c3 (S5.put3 3 rfl x y z) 0 rfl)); obtain ⟨y0, y1, y2, y3, y4, y5⟩ := three_cells (S5.blk 3 rfl); obtain ⟨k0, k1, k2, _⟩ := three_cells (S5.blk 0 rfl); (have K4 := Lib.hid (And.intro k0 (And.intro k1 k2))); (have A4 := Lib.hid (fun o => Sep.c3 (S5.alloc o) 0 rfl)); (have H5 := Lib.hid S5); (have L5 := Lib.hid (And.intro A5.le A5.max)); clear k0 k1 k2 S5 A5)
        | (refine step_copy elem_bools _ (HC.out.own 3 rfl) _ (r.cells.map Value.bool) (Hs.out.below (S2.out.bel.trans (by go_grown))) r.cells.length HN.out hlen.1 (.tmp 11) (.tmp 13) (by rfl) (by rfl) (by rfl) (by rfl) H1c.out (by omega) ?_; intro g c2 w4 A5; (have S5 := HC.out.copied 3 rfl A5); (have P4 := Lib.hid (fun x y z => Sep.c3 (S5.put3 2 rfl x y z) 0 rfl)); obtain ⟨y0, y1, y2, y3, y4, y5⟩ := three_cells (S5.blk 2 rfl); obtain ⟨k0, k1, k2, _⟩ := three_cells (S5.blk 0 rfl); (have K4 := Lib.hid (And.intro k0 (And.intro k1 k2))); (have A4 := Lib.hid (fun o => Sep.c3 (S5.alloc o) 0 rfl)); (have H5 := Lib.hid S5); (have L5 := Lib.hid (And.intro A5.le A5.max)); clear k0 k1 k2 S5 A5)))
    all_goals
      clear K4 A4 P4
      go_wp2_with (fail)
      go_meet
    · exact ⟨w4.heap.size, g, c2, rfl, L5.out.1, L5.out.2, (H5.out.box _ _).pick [0, 1, 3, 2] (by decide) rfl⟩
    · exact ⟨W1.heap.size + 1, g, c2, rfl, L5.out.1, L5.out.2, (H5.out.put3 3 rfl _ _ _).pick [0, 1, 3, 2] (by decide) rfl⟩
    · exact ⟨W1.heap.size, g, c2, rfl, L5.out.1, L5.out.2, H5.out.put3 2 rfl _ _ _⟩
  case rest =>
    obtain ⟨X, g, c2, rfl, hc1, hc2, S⟩ := hcut
    have S3 := Lib.hid S
    clear S S2 s2
    go_wp2_with (fail)
    go_loopw [6] (fun i wr => ∃ k : Nat, k ≤ cs.length ∧ i = .int .i64 k ∧ Sep w none wr [.box w.heap.size #[.int .i64 r.wide, .int .i64 r.tall, .slice a r.cells.length cap] 29, .box (w.heap.size + 1) #[.int .i64 0, .int .i64 0, .slice none 0 0] 29,
      .box X #[.int .i64 r.wide, .int .i64 r.tall, .slice (some ⟨g, 0, none⟩) r.cells.length c2] 29, .row 4 (.slice (some ⟨g, 0, none⟩) r.cells.length c2) ((lessL r.cells (cs.take k)).map Value.bool)]) (fun i _ => cs.length - (intOf i).toNat)
    case atStart => exact ⟨0, Nat.zero_le _, rfl, S3.out⟩
    case round =>
      clear S3
      obtain ⟨k, hk, rfl, hS⟩ := hrel
      have HS := Lib.hid hS
      clear hS
      by_cases hlt : k < cs.length
      · have hlt' : (k : Int) < (cs.length : Int) := by omega
        obtain ⟨ub, uo, rfl, hub, hcell⟩ : ∃ b o, ua = some ⟨b, o, none⟩ ∧ b < w.heap.size ∧ w.cell? ⟨b, o + k, none⟩ = some (.int .i64 ((cs.getD k 0 : Nat) : Int)) := by
          rcases HU.out with e | ⟨b, o, rfl, hb, hc⟩
          · rw [List.map_eq_nil_iff] at e; rw [e] at hlt; simp at hlt
          · refine ⟨b, o, rfl, hb, ?_⟩
            rw [hc k hlt]; simp [List.getD_eq_getElem?_getD, hlt]
        have u1 := (bcell HS.out.bel).1 ub (uo + k) hub |>.trans hcell
        have u3 : ub < wr.heap.size := Nat.lt_of_lt_of_le hub HS.out.bel.size
        have HT := Lib.hid (lessL_take r.cells cs k hlt)
        have hcl := HCS.out k hlt
        clear hcell hub
        generalize cs.getD k 0 = c at *
        have hcl' : (c : Int) < (r.cells.length : Int) := by omega
        obtain ⟨x0, x1, x2⟩ := HS.out.c3 2 rfl
        have x3 := HS.out.lt 2 rfl rfl
        obtain ⟨y, y1, y2, y3⟩ := (HS.out.own 3 rfl).there c hcl
        have hLc : ∀ (M : Later wr) (b o : Nat), b < wr.heap.size → M.x.cell? ⟨b, o, none⟩ = wr.cell? ⟨b, o, none⟩ := Later.cell
        have hLf : ∀ (M : Later wr) (b o : Nat), b < wr.heap.size → M.x.frozen? ⟨b, o, none⟩ = wr.frozen? ⟨b, o, none⟩ := Later.frozen
        go_wp2_with (fail)
        refine wp_region_later 7 (by kernel_rfl) (by kernel_rfl) ?_
        simp only [List.take_succ_cons, List.take_zero, List.drop_succ_cons, List.drop_zero]
        repeat (go_big_quiet_step (fail))
        refine wpQuiet_nil ?_
        intro Mw
        go_wp2_with (fail)
        have HSa := (HS.out.later Mw).set 3 rfl c (.bool false)
        rw [← List.map_set, ← HT.out] at HSa
        have HSa := Lib.hid HSa
        go_roundw
        case rel => exact ⟨k + 1, by omega, by go_num, HSa.out⟩
        case measure => simp [intOf]; omega
      · have e : k = cs.length := by omega
        subst e
        obtain ⟨y0, y1, y2, _⟩ := three_cells (HS.out.blk 2 rfl)
        obtain ⟨z0, z1, z2, z3, z4, z5⟩ := three_cells (HS.out.blk 1 rfl)
        have E := HS.out.put3 1 rfl (.int .i64 r.wide) (.int .i64 r.tall) (.slice (some ⟨g, 0, none⟩) r.cells.length c2)
        have hE := E.high 3 rfl
        rw [List.take_length] at hE
        have DN : Hid (RetLess r cs w (.returned (.agg #[.int .i64 r.wide, .int .i64 r.tall, .slice (some ⟨g, 0, none⟩) r.cells.length c2])) _) := Lib.hid ⟨_, rfl, hE, E.bel⟩
        clear E hE
        obtain ⟨q0, q1, q2, _⟩ := three_cells (put3 (x' := .int .i64 r.wide) (y' := .int .i64 r.tall) (z' := .slice (some ⟨g, 0, none⟩) r.cells.length c2) (HS.out.blk 1 rfl))
        have Q0 := Lib.hid q0
        have Q1 := Lib.hid q1
        have Q2 := Lib.hid q2
        clear q0 q1 q2
        go_wp2
        exact bodyPost_ret (by simp [results, Try.results80, go_sem, Q0.out, Q1.out, Q2.out]) rfl DN.out

theorem l3Less_any (v u : Value) (r : Reg) (cs : List Nat) (w : World) (h : RegV w v r) (hu : Il w u (cs.map fun k : Nat => (k : Int))) (hlen : 0 < r.cells.length ∧ r.cells.length ≤ 36) (hcs : ∀ k, k < cs.length → cs.getD k 0 < r.cells.length) :
    Calls Try.prog 80 #[v, u] w (RetR (r.lessN cs) w) := by
  refine (l3Less_ow v u r cs w h hu hlen hcs).mono ?_
  rintro e w' ⟨s, rfl, hs, hb⟩
  exact ⟨_, rfl, ⟨s, rfl, hs.sl⟩, hb⟩
end Go.Proofs.Ytbjenmfoblniaaa
