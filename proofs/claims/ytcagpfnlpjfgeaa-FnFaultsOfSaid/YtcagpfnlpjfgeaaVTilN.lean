/- Walks: l20Tiling: a drawn region and a tiling of it, which is not always one. -/
import Derived.Test.YtcagpfnlpjfgeaaVLaid
import Derived.Test.YtcagpfnlpjfgeaaVWtilsS
import Derived.Test.YtcagpfnlpjfgeaaZb
import Derived.Test.YtcagpfnlpjfgeaaVDrawL
set_option linter.unusedVariables false
namespace Go.Proofs.Ytcagpfnlpjfgeaa
open Go.RowKit Domi

def TilN (w : World) (b : Nat) (sl : Value) (ys : List Int) (M : Nat) (e : Ending) (w' : World) : Prop :=
  ∃ (s : Value) (r : Reg) (u : Value) (L : List Int), e = .returned (.tuple #[.agg #[.int .i64 r.wide, .int .i64 r.tall, s], u]) ∧ Own w' w.heap.size 4 s (r.cells.map Value.bool) ∧ Ow w' 0 3 u (L.map (Value.int .i64)) ∧ RegSmall r ∧ L.length ≤ 37 ∧ w.grownBy w' (some b) ∧ RdN w' b sl ys M
theorem kb_rd {w w' : World} {b : Nat} {sl : Value} {ys : List Int} {N : Nat} (hr : RdN w b sl ys N) (hg : w.grownBy w' (some b)) : KB 87 87 w w' :=
  KB.of_grown hg fun k cs t fr e hk => by
    cases e
    obtain ⟨p, _, hr⟩ := hr
    rw [hr.heap] at hk
    cases hk; exact .inl rfl
theorem ownL_picked {w w' : World} {b B : Nat} {sl : Value} {ys : List Int} {N : Nat} {v : Value} {xs : List (List Int)} (h : OwnL w B v xs) (hb : b < B) (hr : RdN w b sl ys N) (hg : w.grownBy w' (some b)) : OwnL w' B v xs := by
  obtain ⟨g, c, vs, h1, h2, h3, h4, h5⟩ := h
  exact ⟨g, c, vs, h1, h2.grown hg (fun k e => by cases e; exact hb), h3, h4, fun i hi => (h5 i hi).kb (kb_rd hr hg) (by decide) (by decide)⟩
/-- A cell of a list of lists. -/
theorem ownL_cell {w : World} {B : Nat} {v : Value} {xs : List (List Int)} (h : OwnL w B v xs) {k : Nat} (hk : k < xs.length) : ∃ g c u, v = .slice (some ⟨g, 0, none⟩) xs.length c ∧ w.cell? ⟨g, k, none⟩ = some u ∧ g < w.heap.size ∧ Ow w 0 3 u ((xs.getD k []).map (Value.int .i64)) := by
  obtain ⟨g, c, vs, rfl, h2, h3, h4, h5⟩ := h
  obtain ⟨a1, a2, a3⟩ := h2.cell k hk
  refine ⟨g, c, vs.getD k (.bool false), rfl, ?_, a3, h5 k hk⟩
  rw [a1, List.getElem?_eq_getElem (by omega), Domi.get_at vs (Value.bool false) k (by omega)]
theorem kb_box {w : World} {g : Nat} {x y z x' y' z' : Value} (h : w.heap[g]? = some (.cells #[x, y, z] 25 (0, 0))) : KB 25 25 w (((w.setCell ⟨g, 0, none⟩ x').setCell ⟨g, 1, none⟩ y').setCell ⟨g, 2, none⟩ z') :=
  KB.of_grown (grown_trans (grown_trans (grown_setCell w g 0 none x') (grown_setCell _ g 1 none y')) (grown_setCell _ g 2 none z')) fun k cs t fr e hk => by
    cases e
    rw [h] at hk
    cases hk; exact .inl rfl
def TnS (w : World) (r : Reg) (s : Value) (X : Nat) : List It :=
  [.box w.heap.size #[.int .i64 0, .int .i64 0, .slice none 0 0] 25, .row 4 s (r.cells.map Value.bool), .box X #[.int .i64 r.wide, .int .i64 r.tall, s] 25]

def TnF (r : Reg) (s : Value) (gv cv : Nat) (T : List (List Int)) (m b : Nat) : Nat → Value → World → Prop
  | 0, v, _ => v = .agg #[.int .i64 r.wide, .int .i64 r.tall, s]
  | 1, v, _ => v = .slice (some ⟨gv, 0, none⟩) T.length cv
  | 2, v, _ => v = .pointer (some ⟨b, 0, none⟩)
  | 3, v, _ => v = .slice (some ⟨gv, 0, none⟩) T.length cv
  | 4, v, _ => v = .int .i64 T.length
  | 5, v, _ => v = .int .i64 m
  | 6, v, _ => ∃ k : Nat, v = .int .i64 k ∧ k < T.length
  | 7, v, _ => ∃ k : Nat, v = .pointer (some ⟨gv, k, none⟩) ∧ k < T.length
  | 8, v, x => ∃ L : List Int, L.length ≤ 37 ∧ Ow x 0 3 v (L.map (Value.int .i64))
  | 10, v, x => ∃ L : List Int, L.length ≤ 37 ∧ Ow x 0 3 v (L.map (Value.int .i64))
  | _, _, _ => True
theorem tnF_on {r : Reg} {s : Value} {gv cv : Nat} {T : List (List Int)} {m b i : Nat} {v : Value} {x y : World} (h : TnF r s gv cv T m b i v x) (hs : KB 87 25 x y) : TnF r s gv cv T m b i v y := by
  match i, h with
  | 0, h => exact h
  | 1, h => exact h
  | 2, h => exact h
  | 3, h => exact h
  | 4, h => exact h
  | 5, h => exact h
  | 6, h => exact h
  | 7, h => exact h
  | 8, ⟨L, h1, h2⟩ => exact ⟨L, h1, h2.kb hs (by decide) (by decide)⟩
  | 9, h => exact trivial
  | 10, ⟨L, h1, h2⟩ => exact ⟨L, h1, h2.kb hs (by decide) (by decide)⟩
  | n + 11, _ => exact trivial
def TnI (w : World) (c : Bool) (r : Reg) (s : Value) (X : Nat) : List It :=
  [.box w.heap.size (if c then #[.int .i64 r.wide, .int .i64 r.tall, s] else #[.int .i64 0, .int .i64 0, .slice none 0 0]) 25, .row 4 s (r.cells.map Value.bool), .box X #[.int .i64 r.wide, .int .i64 r.tall, s] 25]
def TnG (w : World) (r : Reg) (s : Value) (X gv cv : Nat) (T : List (List Int)) (b : Nat) (sl : Value) (ys : List Int) (N : Nat) (D : Nat → Bool) (x : World) : Prop :=
  Dr w b sl ys (N + if D 6 then 1 else 0) x (TnI w (D 9) r s X) ∧ OwnL x X (.slice (some ⟨gv, 0, none⟩) T.length cv) T
section
variable {w x y : World} {r : Reg} {s : Value} {X gv cv : Nat} {T : List (List Int)} {b : Nat} {sl : Value} {ys : List Int} {N : Nat} {D : Nat → Bool} {i : Nat}
theorem tn_or {j : Nat} (h : i ≠ j) : (D j || j == i) = D j := by
  have : (j == i) = false := by simp; omega
  rw [this, Bool.or_false]
theorem TnG.to (h : TnG w r s X gv cv T b sl ys N D x) (h1 : i ≠ 6) (h2 : i ≠ 9) : TnG w r s X gv cv T b sl ys N (fun j => D j || j == i) x := by
  unfold TnG at h ⊢
  simp only [tn_or h1, tn_or h2]
  exact h
end

set_option maxRecDepth 100000 in
set_option maxHeartbeats 4000000 in
theorem tiling_n (b : Nat) (sl : Value) (ys : List Int) (N : Nat) (w : World) (h : RdN w b sl ys N) (hN : N < 30000) :
    Calls Try.prog 61 #[.pointer (some ⟨b, 0, none⟩)] w (TilN w b sl ys (N + 900)) := by
  have hb := rdN_lt h
  have D0 := Lib.hid ((Dr.start h).box #[.int .i64 0, .int .i64 0, .slice none 0 0] 25)
  clear h
  go_enter Try.func61, Try.ntmps61
  go_wp2_with (fail)
  refine (some_n b sl ys N 14 _ D0.out.r (by omega) (by omega)).mono ?_
  rintro e w1 ⟨s, r, rfl, ho1, hr1, hg1, hd1⟩
  have D1 := Lib.hid ((D0.out.row hg1 hd1 ho1).box #[.int .i64 r.wide, .int .i64 r.tall, s] 25)
  obtain ⟨p1, n1, rfl⟩ := ho1.formM
  have hbw : b < w1.heap.size := Nat.lt_of_lt_of_le (by simpa using Nat.lt_succ_of_lt hb) hg1.size
  clear ho1 hg1 hd1 D0
  go_wp2_with (fail)
  obtain ⟨T, hT⟩ : ∃ T, tilsR r = T := ⟨_, rfl⟩
  have HTm : Hid (∀ k, k < T.length → tilingOk r (T.getD k []) = true) := Lib.hid fun k hk => by
    rw [← hT] at hk ⊢
    refine mem_tilsR'.1 ?_
    rw [← Domi.get_at _ _ _ hk]
    exact List.getElem_mem hk
  have HTl : Hid (T.length ≤ 2 ^ 40) := Lib.hid (by rw [← hT]; exact tilsR_len r)
  refine (sTilingsAll_any _ r _ ⟨_, rfl, (D1.out.s.own 1 rfl).sl⟩).mono ?_
  rw [hT]
  clear hT
  rintro e w2 ⟨va, rfl, hov, hb2⟩
  have D2 : Hid (Dr w b sl ys (N + 300) w2 (TnS w r (.slice p1 r.cells.length n1) w1.heap.size)) := Lib.hid (D1.out.below hb2)
  have OV := Lib.hid (OwnL.mono hov (B' := w1.heap.size) (by simp))
  clear hov hb2 D1
  generalize w1.heap.size = X at *
  obtain ⟨gv, cv, vs, hvv, _, _⟩ := OV.out
  subst hvv
  have hTl := HTl.out
  go_upto_region 3 with (fail)
  go_cut [17] (fun s17 wx => ∃ c, s17 = .bool c ∧ (c = true → 0 < T.length) ∧ Dr w b sl ys (N + 301) wx (TnS w r (.slice p1 r.cells.length n1) X) ∧ OwnL wx X (.slice (some ⟨gv, 0, none⟩) T.length cv) T)
  case first =>
    by_cases hT0 : 0 < T.length
    · have hT0' : (0 : Int) < (T.length : Int) := by omega
      go_wp2_with (fail)
      refine (pick_n b sl ys (N + 300) 8 _ D2.out.r (by omega)).mono ?_
      rintro e w3 ⟨k3, rfl, hk3, hg3, hr3⟩
      have D3 := Lib.hid (D2.out.picked hg3 hr3)
      have O3 := Lib.hid (ownL_picked OV.out hbw D2.out.r hg3)
      clear hg3 hr3
      go_wp2
      go_meet
      exact ⟨decide (0 < k3), rfl, fun _ => hT0, D3.out, O3.out⟩
    · have hT0' : T.length = 0 := by omega
      have D3 := Lib.hid (D2.out.weak (M := N + 301) (by omega))
      have O3 := OV
      clear OV D2 HTm HTl hTl
      have hT1 : ¬ (0 : Int) < (T.length : Int) := by omega
      clear hT0'
      go_wp2
      go_meet
      exact ⟨false, rfl, fun e => (by cases e), D3.out, O3.out⟩
  case rest =>
    obtain ⟨c, rfl, hc, hD, hO⟩ := hcut
    have D3 := Lib.hid hD
    have O3 := Lib.hid hO
    clear hD hO D2 OV
    rename_i wx
    obtain ⟨x0, x1, x2, _⟩ := three_cells (D3.out.s.blk 2 rfl)
    have sX := D3.out.s.lt 2 rfl rfl
    cases c
    · clear x0 x1 x2 sX hc
      go_wp2_with (fail)
      refine (laid_n b sl ys (N + 301) 9 _ D3.out.r (by omega) (by omega)).mono ?_
      rintro e w4 ⟨s4, r4, u4, L4, rfl, ho4, hu4, hr4, hl4, hg4, hd4⟩
      have D4 := D3.out.row hg4 hd4 ho4
      obtain ⟨p4, n4, rfl⟩ := ho4.formM
      obtain ⟨a4, c4, rfl⟩ := hu4.formM
      obtain ⟨a0, a1, a2, e0, e1, e2⟩ := three_cells (D4.s.blk 0 rfl)
      have E1 := Lib.hid (D4.put3 0 rfl (.int .i64 r4.wide) (.int .i64 r4.tall) (.slice p4 r4.cells.length n4))
      obtain ⟨q0, q1, q2, _⟩ := three_cells (E1.out.s.blk 0 rfl)
      have Q0 := Lib.hid q0
      have Q1 := Lib.hid q1
      have Q2 := Lib.hid q2
      have hu5 := (Ow.of_owns (Own.mono hu4 (Nat.zero_le _))).kb (kb_box (x' := .int .i64 r4.wide) (y' := .int .i64 r4.tall) (z' := .slice p4 r4.cells.length n4) (D4.s.blk 0 rfl)) (by decide) (by decide)
      have DN : Hid (TilN w b sl ys (N + 900) (.returned (.tuple #[.agg #[.int .i64 r4.wide, .int .i64 r4.tall, .slice p4 r4.cells.length n4], .slice a4 L4.length c4])) _) := Lib.hid ⟨_, r4, _, L4, rfl, E1.out.s.high 3 rfl, hu5, hr4, hl4, E1.out.s.g, rdN_mono E1.out.r (by omega)⟩
      clear q0 q1 q2 ho4 hu4 hg4 hd4 hu5 D4
      go_wp2
      exact bodyPost_ret (by simp [results, Try.results61, go_sem, Q0.out, Q1.out, Q2.out]) rfl DN.out
    · have hT0 := hc rfl
      clear hc
      obtain ⟨m, hm, hm1, hm2⟩ : ∃ m : Nat, (if (256 : Int) < (T.length : Int) then (256 : Int) else (T.length : Int)) = (m : Int) ∧ 0 < m ∧ m ≤ T.length := by
        split
        · exact ⟨256, rfl, by omega, by omega⟩
        · exact ⟨T.length, rfl, hT0, Nat.le_refl _⟩
      have O3d := Lib.hid (O3.out.below (Below.refl _ _).drew)
      have HM := Lib.hid hm
      clear hm
      go_wp2_with (fail)
      clear x0 x1 x2 sX
      have hXw : w.heap.size < X := by have := D3.out.s.ne 0 2 rfl rfl (by decide) rfl rfl; have := D3.out.s.ge 2 rfl rfl; omega
      refine wp_region_by (TnF r (.slice p1 r.cells.length n1) gv cv T m b) (TnG w r (.slice p1 r.cells.length n1) X gv cv T b sl ys (N + 301)) (KB 87 25) (by kernel_rfl) (by kernel_rfl) ?_ ?_ ?_ ?_ ?_
      · exact fun i v x y h hs => tnF_on h hs
      · exact ⟨D3.out.drew, O3d.out⟩
      · intro i o D x y ho hg hf hD hall
        have hi : i = 0 ∨ i = 1 ∨ i = 2 ∨ i = 3 ∨ i = 4 ∨ i = 5 ∨ i = 6 ∨ i = 7 ∨ i = 8 ∨ i = 9 ∨ i = 10 := by
          have := (List.getElem?_eq_some_iff.1 ho).1
          simp at this
          omega
        have HG := Lib.hid hg
        clear hg
        rcases hi with rfl | rfl | rfl | rfl | rfl | rfl | rfl | rfl | rfl | rfl | rfl
        · cases Option.some.inj ho
          have e0 := hf.was 4 _ (by kernel_rfl) rfl
          obtain ⟨x0, x1, x2, _⟩ := three_cells (HG.out.1.s.blk 2 rfl)
          refine wpOp_at rfl rfl ?_
          simp [Oper.wp, go_sem, e0, x0, x1, x2]
          exact ⟨_, rfl, KB.refl _, rfl, HG.out.to (by decide) (by decide)⟩
        · cases Option.some.inj ho
          have e0 := hf.was 5 _ (by kernel_rfl) rfl
          refine wpOp_at rfl rfl ?_
          simp [Oper.wp, go_sem, e0]
          exact ⟨_, rfl, KB.refl _, rfl, HG.out.to (by decide) (by decide)⟩
        · cases Option.some.inj ho
          have e0 := hf.was 0 _ (by kernel_rfl) rfl
          refine wpOp_at rfl rfl ?_
          simp [Oper.wp, go_sem, e0]
          exact ⟨_, rfl, KB.refl _, rfl, HG.out.to (by decide) (by decide)⟩
        · cases Option.some.inj ho
          have e0 := hf.was 5 _ (by kernel_rfl) rfl
          refine wpOp_at rfl rfl ?_
          simp [Oper.wp, go_sem, e0]
          exact ⟨_, rfl, KB.refl _, rfl, HG.out.to (by decide) (by decide)⟩
        · cases Option.some.inj ho
          have e0 : _ = _ := hf.has 3 21 rfl (hall ⟨3, .data⟩ (by simp) rfl)
          refine wpOp_at rfl rfl ?_
          simp [Oper.wp, go_sem, e0]
          exact ⟨_, rfl, KB.refl _, rfl, HG.out.to (by decide) (by decide)⟩
        · cases Option.some.inj ho
          have e0 : _ = _ := hf.has 4 22 rfl (hall ⟨4, .data⟩ (by simp) rfl)
          have e1 := HM.out
          refine wpOp_at rfl rfl ?_
          simp [Oper.wp, go_sem, e0]
          exact ⟨_, rfl, KB.refl _, by show Value.int .i64 _ = .int .i64 (m : Int); rw [← e1], HG.out.to (by decide) (by decide)⟩
        · cases Option.some.inj ho
          have e0 : _ = _ := hf.has 2 20 rfl (hall ⟨2, .data⟩ (by simp) rfl)
          have e1 : _ = _ := hf.has 5 23 rfl (hall ⟨5, .data⟩ (by simp) rfl)
          have d := HG.out.1
          rw [hD] at d
          refine wpOp_at rfl rfl ?_
          simp [Oper.wp, go_sem, e0, e1]
          refine (pick_n b sl ys (N + 301) (m : Int) _ d.r (by omega)).mono ?_
          rintro e y' ⟨k, rfl, hk, hgr, hrd⟩
          obtain ⟨k, rfl⟩ := Int.eq_ofNat_of_zero_le hk.1
          refine ⟨_, rfl, KB.of_grown hgr (fun q cs t fr e hq => ?_), ⟨k, rfl, by omega⟩, ?_⟩
          · cases e
            obtain ⟨p, _, hr⟩ := d.r
            rw [hr.heap] at hq
            cases hq; exact .inl rfl
          · have h2 := d.picked hgr hrd
            have h3 := ownL_picked HG.out.2 hbw d.r hgr
            refine ⟨?_, h3⟩
            simp only [tn_or (D := D) (i := 6) (j := 9) (by decide)]
            simpa using h2
        · cases Option.some.inj ho
          have e0 : _ = _ := hf.has 1 19 rfl (hall ⟨1, .data⟩ (by simp) rfl)
          obtain ⟨k, e1, hk⟩ := hf.has 6 24 rfl (hall ⟨6, .data⟩ (by simp) rfl)
          have hk1 : (k : Int) < (T.length : Int) := by omega
          refine wpOp_at rfl rfl ?_
          simp [Oper.wp, go_sem, e0, e1, hk1]
          exact ⟨_, rfl, KB.refl _, ⟨k, rfl, hk⟩, HG.out.to (by decide) (by decide)⟩
        · cases Option.some.inj ho
          obtain ⟨k, e0, hk⟩ := hf.has 7 25 rfl (hall ⟨7, .data⟩ (by simp) rfl)
          obtain ⟨g', c', u, hge, hcu, hgl, how⟩ := ownL_cell HG.out.2 hk
          obtain ⟨rfl, rfl⟩ : gv = g' ∧ cv = c' := by simpa using hge
          have hL : (T.getD k []).length ≤ 37 := by
            rw [tiling_len (HTm.out k hk)]; exact hr1.2.2.2.2
          refine wpOp_at rfl rfl ?_
          simp [Oper.wp, go_sem, e0, hcu]
          exact ⟨_, rfl, KB.refl _, ⟨_, hL, how⟩, HG.out.to (by decide) (by decide)⟩
        · cases Option.some.inj ho
          have e4 := hf.was 2 _ (by kernel_rfl) rfl
          have e0 : _ = _ := hf.has 0 18 rfl (hall ⟨0, .data⟩ (by simp) rfl)
          have d := HG.out.1
          rw [hD] at d
          obtain ⟨z0, z1, z2, f0, f1, f2⟩ := three_cells (d.s.blk 0 rfl)
          have E1 := Lib.hid (d.put3 0 rfl (.int .i64 r.wide) (.int .i64 r.tall) (.slice p1 r.cells.length n1))
          have K1 := kb_box (x' := .int .i64 r.wide) (y' := .int .i64 r.tall) (z' := .slice p1 r.cells.length n1) (d.s.blk 0 rfl)
          have K2 := Lib.hid (show KB 87 25 y _ from ⟨K1.os, K1.tape, K1.output, K1.size, fun q cs t fr hq _ h2 => K1.blk q cs t fr hq h2 h2⟩)
          have O2 : Hid (OwnL _ X (.slice (some ⟨gv, 0, none⟩) T.length cv) T) := Lib.hid (by
            obtain ⟨g, c, vs, q1, q2, q3, q4, q5⟩ := HG.out.2
            exact ⟨g, c, vs, q1, q2.grown (grown_trans (grown_trans (grown_setCell y w.heap.size 0 none (.int .i64 r.wide)) (grown_setCell _ w.heap.size 1 none (.int .i64 r.tall))) (grown_setCell _ w.heap.size 2 none (.slice p1 r.cells.length n1))) (fun q e => by cases e; exact hXw), q3, q4, fun i hi => (q5 i hi).kb K1 (by decide) (by decide)⟩)
          clear d K1
          refine wpOp_at rfl rfl ?_
          simp [Oper.wp, go_sem, e0, e4, z0, z1, z2, f0, f1, f2]
          refine ⟨K2.out, ?_, O2.out⟩
          simp only [tn_or (D := D) (i := 9) (j := 6) (by decide)]
          simpa [TnI] using E1.out
        · cases Option.some.inj ho
          obtain ⟨L, hL, how⟩ := hf.has 8 26 rfl (hall ⟨8, .data⟩ (by simp) rfl)
          generalize hu : x.tmps[26]?.getD undef = u at how
          refine wpOp_at rfl rfl ?_
          simp [Oper.wp, go_sem, hu]
          exact ⟨_, rfl, KB.refl _, ⟨L, hL, how⟩, HG.out.to (by decide) (by decide)⟩
      · intro v x hg hfacts
        have d := (show Dr w b sl ys (N + 302) x [.box w.heap.size #[.int .i64 r.wide, .int .i64 r.tall, .slice p1 r.cells.length n1] 25, .row 4 (.slice p1 r.cells.length n1) (r.cells.map Value.bool), .box X #[.int .i64 r.wide, .int .i64 r.tall, .slice p1 r.cells.length n1] 25] from hg.1)
        obtain ⟨L, hL, how⟩ : ∃ L : List Int, L.length ≤ 37 ∧ Ow x 0 3 (v 3) (L.map (Value.int .i64)) := hfacts 10 _ 3 rfl rfl
        obtain ⟨q0, q1, q2, _⟩ := three_cells (d.s.blk 0 rfl)
        have Q0 := Lib.hid q0
        have Q1 := Lib.hid q1
        have Q2 := Lib.hid q2
        have DN : Hid (TilN w b sl ys (N + 900) (.returned (.tuple #[.agg #[.int .i64 r.wide, .int .i64 r.tall, .slice p1 r.cells.length n1], v 3])) x) := Lib.hid ⟨_, r, _, L, rfl, d.s.high 1 rfl, how, hr1, hL, d.s.g, rdN_mono d.r (by omega)⟩
        clear q0 q1 q2 d hfacts how
        simp only [List.filterMap_cons, List.filterMap_nil, puts]
        generalize v 3 = u3 at *
        go_wp2
        exact bodyPost_ret (by simp [results, Try.results61, go_sem, Q0.out, Q1.out, Q2.out]) rfl DN.out
      · rintro D D' x hD ⟨h1, h2⟩
        refine ⟨?_, h2⟩
        rw [← hD 6 (by simp), ← hD 9 (by simp)]; exact h1
end Go.Proofs.Ytcagpfnlpjfgeaa
