/- Walks: the reference's RegionSet. -/
import Derived.Test.YtedccoimdkehgaaWset
set_option linter.unusedVariables false
set_option linter.unusedSimpArgs false
namespace Go.Proofs.Ytedccoimdkehgaa
open Go.RowKit Domi

/-- Behind the region that makes the copy. -/
def SetD (w : World) (r : Reg) (s : Value) (p : Value) (wx : World) : Prop :=
  ∃ X g c2, p = .pointer (some ⟨X, 0, none⟩) ∧ r.cells.length ≤ c2 ∧ c2 ≤ 9223372036854775807 ∧
    Sep w none wx [.box w.heap.size #[.int .i64 r.wide, .int .i64 r.tall, s] 25, .box (w.heap.size + 1) #[.int .i64 0, .int .i64 0, .slice none 0 0] 25,
      .box X #[.int .i64 r.wide, .int .i64 r.tall, .slice (some ⟨g, 0, none⟩) r.cells.length c2] 25, .row 4 (.slice (some ⟨g, 0, none⟩) r.cells.length c2) (r.cells.map Value.bool)]

set_option maxRecDepth 100000 in
set_option maxHeartbeats 1000000 in
theorem sRegionSet_any (v : Value) (r : Reg) (c : Int) (b : Bool) (w : World) (h : RegV w v r) :
    Calls Try.prog 22 #[v, .int .i64 c, .bool b] w (RetRB (setR r c b) w) := by
  obtain ⟨a, cap, rfl, hs, hlc, hcm⟩ := h.opened
  have Hs := Lib.hid hs
  have S0 := Lib.hid (Sep.two w none #[.int .i64 r.wide, .int .i64 r.tall, .slice a r.cells.length cap] #[.int .i64 0, .int .i64 0, .slice none 0 0] 25 25)
  clear hs h
  obtain ⟨R, hR⟩ : ∃ R, R = setR r c b := ⟨_, rfl⟩
  rw [← hR]
  have HR := Lib.hid hR
  clear hR
  go_enter Try.func22, Try.ntmps22
  go_wp2_with (fail)
  refine (sRegionValid_any _ r _ ⟨_, rfl, Hs.out.below S0.out.bel⟩).mono ?_
  rintro e w1 ⟨rfl, hb⟩
  have S1 := Lib.hid (S0.out.below hb)
  clear hb S0
  cases hv : r.valid
  · have DN := regB_done (x := 0) (y := 0) (c := false) (l := []) S1.out.bel (Sl.nil w1) (S1.out.blk 1 rfl) (by omega)
    rw [show ((⟨0, 0, []⟩ : Reg), false) = R from (setR_no1 hv).symm.trans HR.out.symm] at DN
    have DN := Lib.hid DN
    obtain ⟨q0, q1, q2, _⟩ := three_cells (put3 (x' := .int .i64 0) (y' := .int .i64 0) (z' := .slice none 0 0) (S1.out.blk 1 rfl))
    obtain ⟨z0, z1, z2, z3, z4, z5⟩ := three_cells (S1.out.blk 1 rfl)
    have Q0 := Lib.hid q0
    have Q1 := Lib.hid q1
    have Q2 := Lib.hid q2
    clear q0 q1 q2
    go_wp2
    exact bodyPost_ret (by simp [results, Try.results22, go_sem, Q0.out, Q1.out, Q2.out]) rfl DN.out
  obtain ⟨x0, x1, x2, _⟩ := three_cells (S1.out.blk 0 rfl)
  go_wp2_with (fail)
  refine (l1In_any _ _ _ _).mono ?_
  rintro e w2 ⟨rfl, rfl⟩
  have S2 := S1
  clear S1 x0 x1 x2
  cases hc : inB c 0 (r.cells.length - 1)
  · have DN := regB_done (x := 0) (y := 0) (c := false) (l := []) S2.out.bel (Sl.nil w1) (S2.out.blk 1 rfl) (by omega)
    rw [show ((⟨0, 0, []⟩ : Reg), false) = R from (setR_no2 hc).symm.trans HR.out.symm] at DN
    have DN := Lib.hid DN
    obtain ⟨q0, q1, q2, _⟩ := three_cells (put3 (x' := .int .i64 0) (y' := .int .i64 0) (z' := .slice none 0 0) (S2.out.blk 1 rfl))
    obtain ⟨z0, z1, z2, z3, z4, z5⟩ := three_cells (S2.out.blk 1 rfl)
    have Q0 := Lib.hid q0
    have Q1 := Lib.hid q1
    have Q2 := Lib.hid q2
    clear q0 q1 q2
    go_wp2
    exact bodyPost_ret (by simp [results, Try.results22, go_sem, Q0.out, Q1.out, Q2.out]) rfl DN.out
  obtain ⟨v1, v2, v3, v4⟩ := Reg.valid_iff.1 hv
  have hlen : 0 < r.cells.length ∧ r.cells.length ≤ 36 := by have := area_in v1 v2; omega
  have hci : 0 ≤ c ∧ c < r.cells.length := by have := inB_iff.1 hc; omega
  clear v1 v2 v3 v4
  have s2 := S2.out.lt 1 rfl rfl
  go_upto_region 3 with (fail)
  go_cut [8] (fun s8 wx => SetD w r (.slice a r.cells.length cap) s8 wx)
  case first =>
    obtain ⟨x0, x1, x2, _⟩ := three_cells (S2.out.blk 0 rfl)
    have S2' : Sep w none w1.drew (SetA w r (.slice a r.cells.length cap)) := S2.out.drew
    have HA : Hid (Sep w none (w1.drew.alloc (.cells #[] 4)) (SetA w r (.slice a r.cells.length cap) ++ [.row 4 (.slice (some ⟨w1.heap.size, 0, none⟩) 0 0) []])) := Lib.hid (S2'.empty 4)
    have HB : Hid (Sep w none ((w1.drew.alloc (.cells #[] 4)).alloc (.cells #[.int .i64 0, .int .i64 0, .slice none 0 0] 25)) (SetA w r (.slice a r.cells.length cap) ++ [.row 4 (.slice (some ⟨w1.heap.size, 0, none⟩) 0 0) []] ++ [.box (w1.heap.size + 1) #[.int .i64 0, .int .i64 0, .slice none 0 0] 25])) := Lib.hid (by have := HA.out.box #[.int .i64 0, .int .i64 0, .slice none 0 0] 25; simpa [SetA] using this)
    have HC : Hid (Sep w none ((w1.drew.alloc (.cells #[.int .i64 0, .int .i64 0, .slice none 0 0] 25)).alloc (.cells #[] 4)) (SetA w r (.slice a r.cells.length cap) ++ [.box w1.heap.size #[.int .i64 0, .int .i64 0, .slice none 0 0] 25] ++ [.row 4 (.slice (some ⟨w1.heap.size + 1, 0, none⟩) 0 0) []])) := Lib.hid (by have := (S2'.box #[.int .i64 0, .int .i64 0, .slice none 0 0] 25).empty 4; simpa [SetA] using this)
    clear S2'
    have hN : (r.cells.map Value.bool).length = r.cells.length := by simp
    have h1c : ∀ x ∈ r.cells.map Value.bool, x.oneCell' = true := fun x hx => by obtain ⟨y, _, rfl⟩ := List.mem_map.1 hx; rfl
    have HN := Lib.hid hN
    have H1c := Lib.hid h1c
    clear hN h1c
    go_region_held3 (fun w' => w'.cell? ⟨w.heap.size, 0, none⟩ = some (.int .i64 r.wide) ∧ w'.cell? ⟨w.heap.size, 1, none⟩ = some (.int .i64 r.tall) ∧ w'.cell? ⟨w.heap.size, 2, none⟩ = some (.slice a r.cells.length cap))
      (first | with_reducible exact K4.out | with_reducible exact A4.out _ | with_reducible exact P4.out _ _ _ | (go_keep; done) | assumption)
      ((first
        | (refine step_copy elem_bools _ (HA.out.own 2 rfl) _ (r.cells.map Value.bool) (Hs.out.below (S2.out.bel.trans (by go_grown))) r.cells.length HN.out hlen.1 (.tmp 26) (.tmp 28) (by rfl) (by rfl) (by rfl) (by rfl) H1c.out (by omega) ?_; intro g c2 w4 A5; (have S5 := HA.out.copied 2 rfl A5); (have P4 := Lib.hid trivial); obtain ⟨k0, k1, k2, _⟩ := three_cells (S5.blk 0 rfl); (have K4 := Lib.hid (And.intro k0 (And.intro k1 k2))); (have A4 := Lib.hid (fun o => Sep.c3 (S5.alloc o) 0 rfl)); (have H5 := Lib.hid S5); (have L5 := Lib.hid (And.intro A5.le A5.max)); clear k0 k1 k2 S5 A5)
        | (refine step_copy elem_bools _ (HB.out.own 2 rfl) _ (r.cells.map Value.bool) (Hs.out.below (S2.out.bel.trans (by go_grown))) r.cells.length HN.out hlen.1 (.tmp 26) (.tmp 28) (by rfl) (by rfl) (by rfl) (by rfl) H1c.out (by omega) ?_; intro g c2 w4 A5; (have S5 := HB.out.copied 2 rfl A5); (have P4 := Lib.hid (fun x y z => Sep.c3 (S5.put3 3 rfl x y z) 0 rfl)); obtain ⟨y0, y1, y2, y3, y4, y5⟩ := three_cells (S5.blk 3 rfl); obtain ⟨k0, k1, k2, _⟩ := three_cells (S5.blk 0 rfl); (have K4 := Lib.hid (And.intro k0 (And.intro k1 k2))); (have A4 := Lib.hid (fun o => Sep.c3 (S5.alloc o) 0 rfl)); (have H5 := Lib.hid S5); (have L5 := Lib.hid (And.intro A5.le A5.max)); clear k0 k1 k2 S5 A5)
        | (refine step_copy elem_bools _ (HC.out.own 3 rfl) _ (r.cells.map Value.bool) (Hs.out.below (S2.out.bel.trans (by go_grown))) r.cells.length HN.out hlen.1 (.tmp 26) (.tmp 28) (by rfl) (by rfl) (by rfl) (by rfl) H1c.out (by omega) ?_; intro g c2 w4 A5; (have S5 := HC.out.copied 3 rfl A5); (have P4 := Lib.hid (fun x y z => Sep.c3 (S5.put3 2 rfl x y z) 0 rfl)); obtain ⟨y0, y1, y2, y3, y4, y5⟩ := three_cells (S5.blk 2 rfl); obtain ⟨k0, k1, k2, _⟩ := three_cells (S5.blk 0 rfl); (have K4 := Lib.hid (And.intro k0 (And.intro k1 k2))); (have A4 := Lib.hid (fun o => Sep.c3 (S5.alloc o) 0 rfl)); (have H5 := Lib.hid S5); (have L5 := Lib.hid (And.intro A5.le A5.max)); clear k0 k1 k2 S5 A5)))
    all_goals
      clear K4 A4 P4
      go_wp2_with (fail)
      go_meet
    · exact ⟨w4.heap.size, g, c2, rfl, L5.out.1, L5.out.2, (H5.out.box _ _).pick [0, 1, 3, 2] (by decide) rfl⟩
    · exact ⟨w1.heap.size + 1, g, c2, rfl, L5.out.1, L5.out.2, (H5.out.put3 3 rfl _ _ _).pick [0, 1, 3, 2] (by decide) rfl⟩
    · exact ⟨w1.heap.size, g, c2, rfl, L5.out.1, L5.out.2, H5.out.put3 2 rfl _ _ _⟩
  case rest =>
    obtain ⟨X, g, c2, rfl, hc1, hc2, S⟩ := hcut
    have hk : c.toNat < (r.cells.map Value.bool).length := by simp; omega
    obtain ⟨u, u1, u2, _⟩ := (S.own 3 rfl).there c.toNat (by omega)
    have SS := Lib.hid (S.set 3 rfl c.toNat (.bool b))
    obtain ⟨x0, x1, x2, _⟩ := three_cells (S.blk 2 rfl)
    clear S S2 s2 hk
    obtain ⟨y0, y1, y2, _⟩ := three_cells (SS.out.blk 2 rfl)
    go_wp2_with (fail)
    clear y0 y1 y2 x0 x1 x2 u1 u2
    have hV := Lib.hid (show RegV _ (.agg #[.int .i64 r.wide, .int .i64 r.tall, .slice (some ⟨g, 0, none⟩) r.cells.length c2]) (r.setc c.toNat b) from ⟨_, rfl, by have := (SS.out.own 3 rfl).sl; rw [← List.map_set] at this; exact this⟩)
    obtain ⟨W, hW⟩ : ∃ W, W = wc.setCell ⟨g, c.toNat, none⟩ (.bool b) := ⟨_, rfl⟩
    rw [← hW] at hV SS ⊢
    clear hW
    refine (sRegionValid_any _ (r.setc c.toNat b) _ hV.out).mono ?_
    rintro e w5 ⟨rfl, h5⟩
    have S5 := Lib.hid (SS.out.below h5)
    have V5 := Lib.hid (RegV.below hV.out h5)
    clear h5 hV SS
    obtain ⟨y0, y1, y2, _⟩ := three_cells (S5.out.blk 2 rfl)
    obtain ⟨z0, z1, z2, z3, z4, z5⟩ := three_cells (S5.out.blk 1 rfl)
    cases hv5 : (r.setc c.toNat b).valid
    · have DN := regB_done (x := 0) (y := 0) (c := false) (l := []) S5.out.bel (Sl.nil w5) (S5.out.blk 1 rfl) (by omega)
      rw [show ((⟨0, 0, []⟩ : Reg), false) = R from (setR_no3 hv5).symm.trans HR.out.symm] at DN
      have DN := Lib.hid DN
      obtain ⟨q0, q1, q2, _⟩ := three_cells (put3 (x' := .int .i64 0) (y' := .int .i64 0) (z' := .slice none 0 0) (S5.out.blk 1 rfl))
      have Q0 := Lib.hid q0
      have Q1 := Lib.hid q1
      have Q2 := Lib.hid q2
      clear q0 q1 q2 y0 y1 y2
      go_wp2
      exact bodyPost_ret (by simp [results, Try.results22, go_sem, Q0.out, Q1.out, Q2.out]) rfl DN.out
    · obtain ⟨sv, hsv, hbl⟩ := V5.out
      obtain rfl : Value.slice (some ⟨g, 0, none⟩) r.cells.length c2 = sv := by simpa [Reg.setc] using hsv
      have DN := regB_done (x := r.wide) (y := r.tall) (c := true) S5.out.bel hbl (S5.out.blk 1 rfl) (by omega)
      rw [show (⟨r.wide, r.tall, (r.setc c.toNat b).cells⟩, true) = R from (setR_yes hv hc hv5).symm.trans HR.out.symm] at DN
      have DN := Lib.hid DN
      clear hbl hsv
      obtain ⟨q0, q1, q2, _⟩ := three_cells (put3 (x' := .int .i64 r.wide) (y' := .int .i64 r.tall) (z' := .slice (some ⟨g, 0, none⟩) r.cells.length c2) (S5.out.blk 1 rfl))
      have Q0 := Lib.hid q0
      have Q1 := Lib.hid q1
      have Q2 := Lib.hid q2
      clear q0 q1 q2
      go_wp2
      exact bodyPost_ret (by simp [results, Try.results22, go_sem, Q0.out, Q1.out, Q2.out]) rfl DN.out

end Go.Proofs.Ytedccoimdkehgaa
