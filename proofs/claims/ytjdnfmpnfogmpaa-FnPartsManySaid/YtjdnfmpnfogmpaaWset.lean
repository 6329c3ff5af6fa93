/- Walks: has, RegionSet. -/
import Derived.Test.YtjdnfmpnfogmpaaWb
import Derived.Test.YtjdnfmpnfogmpaaClone
import Derived.Test.YtjdnfmpnfogmpaaSetP
set_option linter.unusedVariables false
set_option linter.unusedSimpArgs false
namespace Go.Proofs.Ytjdnfmpnfogmpaa
open Go.RowKit Domi

set_option maxHeartbeats 400000 in
theorem has_any (v : Value) (r : Reg) (c : Int) (w : World) (h : RegV w v r) :
    Calls Try.prog 50 #[v, .int .i64 c] w (Ret (.bool (inB c 0 (r.cells.length - 1))) w) := by
  obtain ⟨a, cap, rfl, hs, hlc, hcm⟩ := h.opened
  clear h hs
  go_enter Try.func50, Try.ntmps50
  go_wp2_with (fail)
  refine (in_any _ _ _ _).mono ?_
  rintro e w1 ⟨rfl, rfl⟩
  go_wp2
  go_ret
  exact ⟨rfl, by go_grown⟩

def SetA (w : World) (r : Reg) (s : Value) : List It := [.box w.heap.size #[.int .i64 r.wide, .int .i64 r.tall, s] 25, .box (w.heap.size + 1) #[.int .i64 0, .int .i64 0, .slice none 0 0] 25]
/-- Behind the region that makes the copy. -/
def SetC (w : World) (r : Reg) (s : Value) (p : Value) (wx : World) : Prop :=
  ∃ X g cur, p = .pointer (some ⟨X, 0, none⟩) ∧ cur.toList.take r.cells.length = r.cells.map Value.bool ∧
    Sep w none wx [.box w.heap.size #[.int .i64 r.wide, .int .i64 r.tall, s] 25, .box (w.heap.size + 1) #[.int .i64 0, .int .i64 0, .slice none 0 0] 25,
      .box X #[.int .i64 r.wide, .int .i64 r.tall, .slice (some ⟨g, 0, none⟩) r.cells.length r.cells.length] 25, .box g cur 4]

set_option maxRecDepth 100000 in
set_option maxHeartbeats 1000000 in
theorem RegionSet_any (v : Value) (r : Reg) (c : Int) (b : Bool) (w : World) (h : RegV w v r) :
    Calls Try.prog 26 #[v, .int .i64 c, .bool b] w (RetRB (setR r c b) w) := by
  obtain ⟨a, cap, rfl, hs, hlc, hcm⟩ := h.opened
  have Hs := Lib.hid hs
  have S0 := Lib.hid (Sep.two w none #[.int .i64 r.wide, .int .i64 r.tall, .slice a r.cells.length cap] #[.int .i64 0, .int .i64 0, .slice none 0 0] 25 25)
  clear hs h
  obtain ⟨R, hR⟩ : ∃ R, R = setR r c b := ⟨_, rfl⟩
  rw [← hR]
  have HR := Lib.hid hR
  clear hR
  go_enter Try.func26, Try.ntmps26
  go_wp2_with (fail)
  refine (RegionValid_any _ r _ ⟨_, rfl, Hs.out.below S0.out.bel⟩).mono ?_
  rintro e w1 ⟨rfl, hb⟩
  have S1 := Lib.hid (S0.out.below hb)
  clear hb S0
  cases hv : r.valid
  · have DN := regB_done (x := 0) (y := 0) (c := false) (l := []) S1.out.bel (Sl.nil w1) (S1.out.blk 1 rfl) (by omega)
    rw [show ((⟨0, 0, []⟩ : Reg), false) = R from (setR_no1 hv).symm.trans HR.out.symm] at DN
    have DN := Lib.hid DN
    obtain ⟨q0, q1, q2, _⟩ := three_cells (put3 (x' := .int .i64 0) (y' := .int .i64 0) (z' := .slice none 0 0) (S1.out.blk 1 rfl))
    obtain ⟨z0, z1, z2, z3, z4, z5⟩ := three_cells (S1.out.blk 1 rfl)
    have Q0 := Lib.hid q0
    have Q1 := Lib.hid q1
    have Q2 := Lib.hid q2
    clear q0 q1 q2
    go_wp2
    exact bodyPost_ret (by simp [results, Try.results26, go_sem, Q0.out, Q1.out, Q2.out]) rfl DN.out
  obtain ⟨x0, x1, x2, _⟩ := three_cells (S1.out.blk 0 rfl)
  go_wp2_with (fail)
  refine (has_any _ r c _ ⟨_, rfl, Hs.out.below S1.out.bel⟩).mono ?_
  rintro e w2 ⟨rfl, hb⟩
  have S2 := Lib.hid (S1.out.below hb)
  clear hb S1 x0 x1 x2
  cases hc : inB c 0 (r.cells.length - 1)
  · have DN := regB_done (x := 0) (y := 0) (c := false) (l := []) S2.out.bel (Sl.nil w2) (S2.out.blk 1 rfl) (by omega)
    rw [show ((⟨0, 0, []⟩ : Reg), false) = R from (setR_no2 hc).symm.trans HR.out.symm] at DN
    have DN := Lib.hid DN
    obtain ⟨q0, q1, q2, _⟩ := three_cells (put3 (x' := .int .i64 0) (y' := .int .i64 0) (z' := .slice none 0 0) (S2.out.blk 1 rfl))
    obtain ⟨z0, z1, z2, z3, z4, z5⟩ := three_cells (S2.out.blk 1 rfl)
    have Q0 := Lib.hid q0
    have Q1 := Lib.hid q1
    have Q2 := Lib.hid q2
    clear q0 q1 q2
    go_wp2
    exact bodyPost_ret (by simp [results, Try.results26, go_sem, Q0.out, Q1.out, Q2.out]) rfl DN.out
  obtain ⟨v1, v2, v3, v4⟩ := Reg.valid_iff.1 hv
  have hlen : 0 < r.cells.length ∧ r.cells.length ≤ 36 := by have := area_in v1 v2; omega
  have hci : 0 ≤ c ∧ c < r.cells.length := by have := inB_iff.1 hc; omega
  clear v1 v2 v3 v4
  have s2 := S2.out.lt 1 rfl rfl
  go_upto_region 3 with (fail)
  go_cut [8] (fun s8 wx => SetC w r (.slice a r.cells.length cap) s8 wx)
  case first =>
    obtain ⟨x0, x1, x2, _⟩ := three_cells (S2.out.blk 0 rfl)
    have S2' : Sep w none w2.drew (SetA w r (.slice a r.cells.length cap)) := S2.out.drew
    have H2 := Lib.hid S2'
    have H3 : Hid (Sep w none (w2.drew.alloc (.cells #[.int .i64 0, .int .i64 0, .slice none 0 0] 25)) (SetA w r (.slice a r.cells.length cap) ++ [.box w2.heap.size #[.int .i64 0, .int .i64 0, .slice none 0 0] 25])) := Lib.hid (S2'.box #[.int .i64 0, .int .i64 0, .slice none 0 0] 25)
    clear S2'
    go_region_held3 (fun w' => w'.cell? ⟨w.heap.size, 0, none⟩ = some (.int .i64 r.wide) ∧ w'.cell? ⟨w.heap.size, 1, none⟩ = some (.int .i64 r.tall) ∧ w'.cell? ⟨w.heap.size, 2, none⟩ = some (.slice a r.cells.length cap))
      (first | with_reducible exact K4.out | with_reducible exact A4.out _ | with_reducible exact P4.out _ _ _ | (go_keep; done) | assumption) ((go_at_call 51; refine (clone_bool _ r.cells _ ?_ hlen.1 (by omega)).mono ?_; exact Hs.out.below (S2.out.bel.trans (by go_grown)); rintro e w4 ⟨v4, rfl, hcl, hb4⟩; obtain ⟨g, cur, hv4, hg1, hg2, ht, _⟩ := hcl; rw [List.length_map] at hv4 ht; subst hv4; (first | ((have S5 := H2.out.cloned hb4 hg1 hg2); have P4 := Lib.hid trivial) | ((have S5 := H3.out.cloned hb4 hg1 hg2); (have P4 := Lib.hid (fun x y z => Sep.c3 (S5.put3 2 rfl x y z) 0 rfl)); obtain ⟨y0, y1, y2, y3, y4, y5⟩ := three_cells (S5.blk 2 rfl))); (have A4 := Lib.hid (fun o => Sep.c3 (S5.alloc o) 0 rfl)); obtain ⟨k0, k1, k2, _⟩ := three_cells (S5.blk 0 rfl); (have K4 := Lib.hid (And.intro k0 (And.intro k1 k2))); (have H5 := Lib.hid S5); (have T4 := Lib.hid ht); clear k0 k1 k2 S5 hb4 hg1 hg2 ht))
    all_goals
      clear K4 A4 P4
      go_wp2_with (fail)
      go_meet
    · exact ⟨w4.heap.size, g, cur, rfl, T4.out, (H5.out.box _ _).pick [0, 1, 3, 2] (by decide) rfl⟩
    · exact ⟨w2.heap.size, g, cur, rfl, T4.out, H5.out.put3 2 rfl _ _ _⟩
  case rest =>
    obtain ⟨X, g, cur, rfl, ht, S⟩ := hcut
    have hk : c.toNat < (r.cells.map Value.bool).length := by simp; omega
    obtain ⟨u, u1, u2, _⟩ := box_cell (S.blk 3 rfl) ht hk
    have T := Lib.hid (take_put (k := c.toNat) (v := .bool b) ht)
    have SS := Lib.hid (S.put 3 rfl c.toNat (.bool b))
    obtain ⟨x0, x1, x2, _⟩ := three_cells (S.blk 2 rfl)
    have hn : (r.cells.map Value.bool).set c.toNat (.bool b) = (r.cells.set c.toNat b).map Value.bool := by rw [List.map_set]
    rw [hn] at T
    clear ht S S2 s2 hn hk
    obtain ⟨y0, y1, y2, _⟩ := three_cells (SS.out.blk 2 rfl)
    go_wp2_with (fail)
    clear y0 y1 y2 x0 x1 x2 u1 u2
    have hV := Lib.hid (show RegV _ (.agg #[.int .i64 r.wide, .int .i64 r.tall, .slice (some ⟨g, 0, none⟩) r.cells.length r.cells.length]) (r.setc c.toNat b) from ⟨_, rfl, box_sl (SS.out.blk 3 rfl) T.out (by simp [Reg.setc]) (Nat.le_refl _) (by omega)⟩)
    obtain ⟨W, hW⟩ : ∃ W, W = wc.setCell ⟨g, c.toNat, none⟩ (.bool b) := ⟨_, rfl⟩
    rw [← hW] at hV SS ⊢
    clear hW
    refine (RegionValid_any _ (r.setc c.toNat b) _ hV.out).mono ?_
    rintro e w5 ⟨rfl, h5⟩
    have S5 := Lib.hid (SS.out.below h5)
    have V5 := Lib.hid (RegV.below hV.out h5)
    clear h5 hV SS
    obtain ⟨y0, y1, y2, _⟩ := three_cells (S5.out.blk 2 rfl)
    obtain ⟨z0, z1, z2, z3, z4, z5⟩ := three_cells (S5.out.blk 1 rfl)
    cases hv5 : (r.setc c.toNat b).valid
    · have DN := regB_done (x := 0) (y := 0) (c := false) (l := []) S5.out.bel (Sl.nil w5) (S5.out.blk 1 rfl) (by omega)
      rw [show ((⟨0, 0, []⟩ : Reg), false) = R from (setR_no3 hv5).symm.trans HR.out.symm] at DN
      have DN := Lib.hid DN
      obtain ⟨q0, q1, q2, _⟩ := three_cells (put3 (x' := .int .i64 0) (y' := .int .i64 0) (z' := .slice none 0 0) (S5.out.blk 1 rfl))
      have Q0 := Lib.hid q0
      have Q1 := Lib.hid q1
      have Q2 := Lib.hid q2
      clear q0 q1 q2 y0 y1 y2
      go_wp2
      exact bodyPost_ret (by simp [results, Try.results26, go_sem, Q0.out, Q1.out, Q2.out]) rfl DN.out
    · obtain ⟨sv, hsv, hbl⟩ := V5.out
      obtain rfl : Value.slice (some ⟨g, 0, none⟩) r.cells.length r.cells.length = sv := by simpa [Reg.setc] using hsv
      have DN := regB_done (x := r.wide) (y := r.tall) (c := true) S5.out.bel hbl (S5.out.blk 1 rfl) (by omega)
      rw [show (⟨r.wide, r.tall, (r.setc c.toNat b).cells⟩, true) = R from (setR_yes hv hc hv5).symm.trans HR.out.symm] at DN
      have DN := Lib.hid DN
      clear hbl hsv
      obtain ⟨q0, q1, q2, _⟩ := three_cells (put3 (x' := .int .i64 r.wide) (y' := .int .i64 r.tall) (z' := .slice (some ⟨g, 0, none⟩) r.cells.length r.cells.length) (S5.out.blk 1 rfl))
      have Q0 := Lib.hid q0
      have Q1 := Lib.hid q1
      have Q2 := Lib.hid q2
      clear q0 q1 q2
      go_wp2
      exact bodyPost_ret (by simp [results, Try.results26, go_sem, Q0.out, Q1.out, Q2.out]) rfl DN.out

end Go.Proofs.Ytjdnfmpnfogmpaa
