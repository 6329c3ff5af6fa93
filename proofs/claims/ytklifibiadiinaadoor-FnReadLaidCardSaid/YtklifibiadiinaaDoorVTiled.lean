/- Walks: l20Tiled: a drawn region that has a tiling. -/
import Derived.Test.YtklifibiadiinaaDoorVWone
import Derived.Test.YtklifibiadiinaaDoorVRegU
import Derived.Test.YtklifibiadiinaaDoorZc
set_option linter.unusedVariables false
namespace Go.Proofs.YtklifibiadiinaaDoor
open Go.RowKit Domi

/-- A drawn region, its cells of the call's own. -/
def DrawnN (w : World) (b : Nat) (sl : Value) (ys : List Int) (M : Nat) (e : Ending) (w' : World) : Prop :=
  ∃ s r, e = .returned (.agg #[.int .i64 r.wide, .int .i64 r.tall, s]) ∧ Own w' w.heap.size 4 s (r.cells.map Value.bool) ∧ RegSmall r ∧ w.grownBy w' (some b) ∧ RdN w' b sl ys M
theorem Dr.fresh {w0 w w' : World} {b : Nat} {sl : Value} {ys : List Int} {N : Nat} {S : List It} (h : Dr w0 b sl ys N w S) (hb : Below w.heap.size w w') {e : TypeId} {v : Value} {xs : List Value} (ho : Own w' w.heap.size e v xs) : Dr w0 b sl ys N w' (S ++ [.row e v xs]) :=
  h.row (grown_below hb (some b)) (h.below hb).r ho
theorem Dr.weak {w0 w : World} {b : Nat} {sl : Value} {ys : List Int} {N M : Nat} {S : List It} (h : Dr w0 b sl ys N w S) (hM : N ≤ M) : Dr w0 b sl ys M w S := ⟨h.s, rdN_mono h.r hM, h.r0⟩
theorem drawn_n {w w' : World} {b : Nat} {sl : Value} {ys : List Int} {M : Nat} {r : Reg} {s : Value} {S : List It} (h : Dr w b sl ys M w' S) (i : Nat) (hi : S[i]? = some (.row 4 s (r.cells.map Value.bool))) (hr : RegSmall r) :
    DrawnN w b sl ys M (.returned (.agg #[.int .i64 r.wide, .int .i64 r.tall, s])) w' := ⟨s, r, rfl, h.s.high i hi, hr, h.s.g, h.r⟩
theorem sLayOne_q (v u : Value) (r : Reg) (L : List Int) (c way : Int) (w : World) (h : RegV w v r) (hu : Il w u L) (q : List Int × Bool) (hq : layOne r L c way = q) :
    Calls Tryd.prog 48 #[v, u, .int .i64 c, .int .i64 way] w (RetLB q w) := by rw [← hq]; exact sLayOne_any v u r L c way w h hu
theorem layOne_len {r : Reg} {L : List Int} {c way : Int} {q : List Int × Bool} (h : layOne r L c way = q) (hq : q.2 = true) : q.1.length = L.length := by
  subst h
  unfold layOne at *
  split at hq
  · split at hq
    · rename_i h1 h2; rw [if_pos h1, if_pos h2]; simp [layL]
    · cases hq
  · cases hq

def TlS (w : World) (r : Reg) (s : Value) (X : Nat) (v : Value) (L : List Int) : List It :=
  [.box w.heap.size #[.int .i64 0, .int .i64 0, .slice none 0 0] 25, .row 4 s (r.cells.map Value.bool), .box X #[.int .i64 r.wide, .int .i64 r.tall, s] 25, .row 3 v (L.map (Value.int .i64))]
section
variable {w wr w' : World} {b : Nat} {sl : Value} {ys : List Int} {N : Nat} {r : Reg} {s : Value} {X : Nat} {v u : Value} {L M : List Int} {p : It}
theorem tlS_next (h : Dr w b sl ys N wr (TlS w r s X v L)) (hb : Below wr.heap.size wr w') (ho : Own w' wr.heap.size 3 u (M.map (Value.int .i64))) :
    Dr w b sl ys N w' (TlS w r s X u M) := by
  have := (h.fresh hb ho).pick [0, 1, 2, 4] (by decide) (by simp [TlS])
  simpa [TlS] using this
theorem tlS_next1 (h : Dr w b sl ys N wr (TlS w r s X v L ++ [p])) (hb : Below wr.heap.size wr w') (ho : Own w' wr.heap.size 3 u (M.map (Value.int .i64))) :
    Dr w b sl ys N w' (TlS w r s X u M) := by
  have := (h.fresh hb ho).pick [0, 1, 2, 5] (by decide) (by simp [TlS])
  simpa [TlS] using this
theorem tlS_skip1 (h : Dr w b sl ys N wr (TlS w r s X v L ++ [p])) (hb : Below wr.heap.size wr w') : Dr w b sl ys N w' (TlS w r s X v L) := by
  have := (h.below hb).pick [0, 1, 2, 3] (by decide) (by simp [TlS])
  simpa [TlS] using this
end
theorem layOne_ok {r : Reg} {L : List Int} {c way : Int} {q : List Int × Bool} (h : laidOk r L = true) (hc : 0 ≤ c) (hq : layOne r L c way = q) : laidOk r q.1 = true := by
  subst hq
  cases hf : free r L c way
  · rw [layOne_same h hf]; exact h
  · rw [layOne_yes h hf]
    obtain ⟨k, rfl⟩ := Int.eq_ofNat_of_zero_le hc
    exact lay_ok h hf
def TileF (r : Reg) (L : List Int) (s u : Value) (k : Nat) (B b : Nat) : Nat → Value → World → Prop
  | 0, v, _ => v = .agg #[.int .i64 r.wide, .int .i64 r.tall, s]
  | 1, v, _ => v = u
  | 2, v, _ => v = .int .i64 k
  | 3, v, x => ∃ g, v = .slice (some ⟨g, 0, none⟩) 4 4 ∧ LitAt B x g [1, 2, 3, 4]
  | 4, v, _ => v = .pointer (some ⟨b, 0, none⟩)
  | 5, v, _ => ∃ k : Nat, v = .int .i64 k ∧ k < 4
  | 6, v, x => ∃ g k : Nat, v = .pointer (some ⟨g, k, none⟩) ∧ k < 4 ∧ LitAt B x g [1, 2, 3, 4]
  | 7, v, _ => ∃ k : Int, v = .int .i64 k
  | 8, v, x => ∃ y c M, v = .tuple #[y, .bool c] ∧ laidOk r M = true ∧ Own x B 3 y (M.map (Value.int .i64))
  | 9, v, x => ∃ y c M, v = .tuple #[y, .bool c] ∧ laidOk r M = true ∧ Own x B 3 y (M.map (Value.int .i64))
  | 10, v, x => ∃ M, laidOk r M = true ∧ Own x B 3 v (M.map (Value.int .i64))
  | 11, v, _ => ∃ c, v = .bool c
  | 12, v, x => ∃ M, laidOk r M = true ∧ Own x B 3 v (M.map (Value.int .i64))
  | 13, v, _ => ∃ c, v = .bool c
  | _, _, _ => True
theorem tileF_on {r : Reg} {L : List Int} {s u : Value} {k B b i : Nat} {v : Value} {x y : World} (h : TileF r L s u k B b i v x) (hs : SomeS B x y) : TileF r L s u k B b i v y := by
  match i, h with
  | 0, h => exact h
  | 1, h => exact h
  | 2, h => exact h
  | 3, ⟨g, e, h⟩ => exact ⟨g, e, h.on hs⟩
  | 4, h => exact h
  | 5, h => exact h
  | 6, ⟨g, k, e, hk, h⟩ => exact ⟨g, k, e, hk, h.on hs⟩
  | 7, h => exact h
  | 8, ⟨y, c, M, e, hk, h⟩ => exact ⟨y, c, M, e, hk, own_on h hs⟩
  | 9, ⟨y, c, M, e, hk, h⟩ => exact ⟨y, c, M, e, hk, own_on h hs⟩
  | 10, ⟨M, hk, h⟩ => exact ⟨M, hk, own_on h hs⟩
  | 11, h => exact h
  | 12, ⟨M, hk, h⟩ => exact ⟨M, hk, own_on h hs⟩
  | 13, h => exact h
  | n + 14, _ => exact trivial
def TileG (w : World) (r : Reg) (s : Value) (X : Nat) (u : Value) (L : List Int) (B b : Nat) (sl : Value) (ys : List Int) (N : Nat) (D : Nat → Bool) (x : World) : Prop :=
  B ≤ x.heap.size ∧ Dr w b sl ys (N + if D 5 then 1 else 0) x (TlS w r s X u L)
theorem TileG.to {w : World} {r : Reg} {s : Value} {X : Nat} {u : Value} {L : List Int} {B b : Nat} {sl : Value} {ys : List Int} {N : Nat} {D : Nat → Bool} {x y : World} {i : Nat} (h : TileG w r s X u L B b sl ys N D x) (hi : i ≠ 5) (hz : x.heap.size ≤ y.heap.size) (f : ∀ M, Dr w b sl ys M x (TlS w r s X u L) → Dr w b sl ys M y (TlS w r s X u L)) :
    TileG w r s X u L B b sl ys N (fun j => D j || j == i) y := by
  have e : (fun j => D j || j == i) 5 = D 5 := by
    show (D 5 || 5 == i) = D 5
    have : (5 == i) = false := by simp; omega
    rw [this, Bool.or_false]
  refine ⟨by have := h.1; omega, ?_⟩
  rw [e]; exact f _ h.2

set_option maxRecDepth 100000 in
set_option maxHeartbeats 4000000 in
theorem tiled_n (b : Nat) (sl : Value) (ys : List Int) (N : Nat) (n : Int) (w : World) (h : RdN w b sl ys N) (hN : N < 60000) (hn : n ≤ 1000000) :
    Calls Tryd.prog 63 #[.pointer (some ⟨b, 0, none⟩), .int .i64 n] w (DrawnN w b sl ys (N + 200)) := by
  have hb := rdN_lt h
  have D0 := Lib.hid ((Dr.start h).box #[.int .i64 0, .int .i64 0, .slice none 0 0] 25)
  clear h
  go_enter Tryd.func63, Tryd.ntmps63
  go_wp2_with (fail)
  refine (region_n b sl ys N n _ D0.out.r (by omega) hn (by simp; omega)).mono ?_
  rintro e w1 ⟨s, r, rfl, ho1, hr1, hg1, hd1⟩
  have D1 := Lib.hid ((D0.out.row hg1 hd1 ho1).box #[.int .i64 r.wide, .int .i64 r.tall, s] 25)
  obtain ⟨p1, n1, rfl⟩ := ho1.formM
  clear ho1 hg1 hd1 D0
  go_wp2_with (fail)
  refine (sRegionValid_any _ r _ ⟨_, rfl, (D1.out.s.own 1 rfl).sl⟩).mono ?_
  rintro e w2 ⟨rfl, hb2⟩
  have D2 := Lib.hid (D1.out.below hb2)
  clear hb2 D1
  generalize w1.heap.size = X at *
  obtain ⟨x0, x1, x2, _⟩ := three_cells (D2.out.s.blk 2 rfl)
  cases hv : r.valid
  · obtain ⟨a0, a1, a2, e0, e1, e2⟩ := three_cells (D2.out.s.blk 0 rfl)
    have E1 := Lib.hid (D2.out.put3 0 rfl (.int .i64 r.wide) (.int .i64 r.tall) (.slice p1 r.cells.length n1))
    obtain ⟨q0, q1, q2, _⟩ := three_cells (E1.out.s.blk 0 rfl)
    have Q0 := Lib.hid q0
    have Q1 := Lib.hid q1
    have Q2 := Lib.hid q2
    have DN := Lib.hid (drawn_n (E1.out.weak (M := N + 200) (by omega)) 1 rfl hr1)
    clear q0 q1 q2
    go_wp2
    exact bodyPost_ret (by simp [results, Tryd.results63, go_sem, Q0.out, Q1.out, Q2.out]) rfl DN.out
  · go_wp2_with (fail)
    refine (sLaidBare_any _ r _ ⟨_, rfl, (D2.out.s.own 1 rfl).sl⟩).mono ?_
    rintro e w3 ⟨u, rfl, ho, hb3⟩
    have HBL := Lib.hid (show laidOk r (List.replicate r.cells.length 0) = true by rw [← bareL_yes hv]; exact bare_laid hv)
    rw [bareL_yes hv] at ho
    have D3 := Lib.hid (D2.out.fresh hb3 ho)
    have hl36 : r.cells.length ≤ 36 := by
      obtain ⟨b1, b2, b3, b4⟩ := Reg.valid_iff.1 hv
      have := area_in b1 b2
      omega
    have hl1 : 0 < r.cells.length := by
      obtain ⟨b1, b2, b3, b4⟩ := Reg.valid_iff.1 hv
      have := area_in b1 b2
      omega
    obtain ⟨ua, uc, hue⟩ := ho.formM
    rw [List.length_replicate] at hue
    subst hue
    clear ho hb3 D2 x0 x1 x2
    go_wp2_with (fail)
    go_loopw [6, 7] (fun u i wr => ∃ (k : Nat) (a : Option Addr) (c : Nat) (L : List Int), k ≤ r.cells.length ∧ i = .int .i64 k ∧ u = .slice a r.cells.length c ∧ laidOk r L = true ∧ Dr w b sl ys (N + 100 + k) wr (TlS w r (.slice p1 r.cells.length n1) X u L)) (fun _ i _ => r.cells.length - (intOf i).toNat)
    case atStart => exact ⟨0, ua, uc, _, Nat.zero_le _, rfl, rfl, HBL.out, D3.out⟩
    case round =>
      clear D3
      obtain ⟨k, a, c, L, hk, rfl, rfl, hlen, D⟩ := hrel
      have HD := Lib.hid D
      have HN := Lib.hid hlen
      clear D hlen
      obtain ⟨x0, x1, x2, _⟩ := three_cells (HD.out.s.blk 2 rfl)
      have sX := HD.out.s.lt 2 rfl rfl
      by_cases hlt : k < r.cells.length
      · have hlen := (laidOk_iff.1 HN.out).2.1
        have hbs : b < wr.heap.size := rdN_lt HD.out.r
        go_wp2_with (fail)
        refine wp_region_by (TileF r L (.slice p1 r.cells.length n1) (.slice a r.cells.length c) k wr.heap.size b) (TileG w r (.slice p1 r.cells.length n1) X (.slice a r.cells.length c) L wr.heap.size b sl ys (N + 100 + k)) (SomeS wr.heap.size) (by kernel_rfl) (by kernel_rfl) ?_ ?_ ?_ ?_ ?_
        · exact fun i v x y h hs => tileF_on h hs
        · exact ⟨Nat.le_refl _, HD.out.drew⟩
        · intro i o D x y ho hg hf hD hall
          have hi : i = 0 ∨ i = 1 ∨ i = 2 ∨ i = 3 ∨ i = 4 ∨ i = 5 ∨ i = 6 ∨ i = 7 ∨ i = 8 ∨ i = 9 ∨ i = 10 ∨ i = 11 ∨ i = 12 ∨ i = 13 := by
            have := (List.getElem?_eq_some_iff.1 ho).1
            simp at this
            omega
          have HG := Lib.hid hg
          have hy := hg.1
          have HY := Lib.hid hg.2
          clear hg
          rcases hi with rfl | rfl | rfl | rfl | rfl | rfl | rfl | rfl | rfl | rfl | rfl | rfl | rfl | rfl
          · cases Option.some.inj ho
            have e0 := hf.was 5 _ (by kernel_rfl) rfl
            obtain ⟨z0, z1, z2, _⟩ := three_cells (HY.out.s.blk 2 rfl)
            refine wpOp_at rfl rfl ?_
            simp [Oper.wp, go_sem, e0, z0, z1, z2]
            exact ⟨_, rfl, SomeS.refl _ _, rfl, HG.out.to (by decide) (Nat.le_refl _) fun _ d => d⟩
          · cases Option.some.inj ho
            have e0 := hf.was 6 _ (by kernel_rfl) rfl
            refine wpOp_at rfl rfl ?_
            simp [Oper.wp, go_sem, e0]
            exact ⟨_, rfl, SomeS.refl _ _, rfl, HG.out.to (by decide) (Nat.le_refl _) fun _ d => d⟩
          · cases Option.some.inj ho
            have e0 := hf.was 7 _ (by kernel_rfl) rfl
            refine wpOp_at rfl rfl ?_
            simp [Oper.wp, go_sem, e0]
            exact ⟨_, rfl, SomeS.refl _ _, rfl, HG.out.to (by decide) (Nat.le_refl _) fun _ d => d⟩
          · cases Option.some.inj ho
            refine wpOp_at rfl rfl ?_
            simp [Oper.wp, go_sem]
            exact ⟨_, rfl, someS_below (below_alloc _ _), ⟨_, rfl, hy, heap_alloc_new _ _⟩, HG.out.to (by decide) (by simp) fun _ d => d.alloc _⟩
          · cases Option.some.inj ho
            have e0 := hf.was 0 _ (by kernel_rfl) rfl
            refine wpOp_at rfl rfl ?_
            simp [Oper.wp, go_sem, e0]
            exact ⟨_, rfl, SomeS.refl _ _, rfl, HG.out.to (by decide) (Nat.le_refl _) fun _ d => d⟩
          · cases Option.some.inj ho
            have e0 : _ = _ := hf.has 4 36 rfl (hall ⟨4, .data⟩ (by simp) rfl)
            refine wpOp_at rfl rfl ?_
            simp [Oper.wp, go_sem, e0]
            refine (pick_n b sl ys _ 4 _ HY.out.r (by rw [hD]; simp; omega)).mono ?_
            rintro e y' ⟨m, rfl, hm, hgr, hrd⟩
            obtain ⟨m, rfl⟩ := Int.eq_ofNat_of_zero_le hm.1
            refine ⟨_, rfl, someS_grown hgr hbs, ⟨m, rfl, by omega⟩, Nat.le_trans hy hgr.size, ?_⟩
            rw [hD] at hrd
            exact HY.out.picked hgr (by simpa using hrd)
          · cases Option.some.inj ho
            obtain ⟨g, e0, hl⟩ := hf.has 3 35 rfl (hall ⟨3, .data⟩ (by simp) rfl)
            obtain ⟨m, e1, hm⟩ := hf.has 5 37 rfl (hall ⟨5, .data⟩ (by simp) rfl)
            have hm1 : (m : Int) < 4 := by omega
            refine wpOp_at rfl rfl ?_
            simp [Oper.wp, go_sem, e0, e1, hm1]
            exact ⟨_, rfl, SomeS.refl _ _, ⟨g, m, rfl, hm, hl⟩, HG.out.to (by decide) (Nat.le_refl _) fun _ d => d⟩
          · cases Option.some.inj ho
            obtain ⟨g, m, e0, hm, hl⟩ := hf.has 6 38 rfl (hall ⟨6, .data⟩ (by simp) rfl)
            have hc := hl.cell (k := m) hm
            refine wpOp_at rfl rfl ?_
            simp [Oper.wp, go_sem, e0, hc]
            exact ⟨_, rfl, SomeS.refl _ _, ⟨_, rfl⟩, HG.out.to (by decide) (Nat.le_refl _) fun _ d => d⟩
          · cases Option.some.inj ho
            have e0 : _ = _ := hf.has 0 32 rfl (hall ⟨0, .data⟩ (by simp) rfl)
            have e1 : _ = _ := hf.has 1 33 rfl (hall ⟨1, .data⟩ (by simp) rfl)
            have e2 : _ = _ := hf.has 2 34 rfl (hall ⟨2, .data⟩ (by simp) rfl)
            obtain ⟨m, e3⟩ := hf.has 7 39 rfl (hall ⟨7, .data⟩ (by simp) rfl)
            refine wpOp_at rfl rfl ?_
            simp [Oper.wp, go_sem, e0, e1, e2, e3]
            refine (sLayOne_any _ _ r L k m _ ⟨_, rfl, (HY.out.s.own 1 rfl).sl⟩ (own_il (HY.out.s.own 3 rfl))).mono ?_
            rintro e y' ⟨u', rfl, ho', hb'⟩
            exact ⟨_, rfl, someS_below hb', ⟨u', _, _, rfl, layOne_ok HN.out (by omega) rfl, ho'.mono hy⟩, HG.out.to (by decide) hb'.size fun _ d => d.below hb'⟩
          · cases Option.some.inj ho
            obtain ⟨u', c', M, e0, hM, ho'⟩ := hf.has 8 40 rfl (hall ⟨8, .data⟩ (by simp) rfl)
            refine wpOp_at rfl rfl ?_
            simp [Oper.wp, go_sem, e0]
            exact ⟨_, rfl, SomeS.refl _ _, ⟨u', c', M, rfl, hM, ho'⟩, HG.out.to (by decide) (Nat.le_refl _) fun _ d => d⟩
          · cases Option.some.inj ho
            obtain ⟨u', c', M, e0, hM, ho'⟩ := hf.has 9 31 rfl (hall ⟨9, .data⟩ (by simp) rfl)
            refine wpOp_at rfl rfl ?_
            simp [Oper.wp, go_sem, e0]
            exact ⟨_, rfl, SomeS.refl _ _, ⟨M, hM, ho'⟩, HG.out.to (by decide) (Nat.le_refl _) fun _ d => d⟩
          · cases Option.some.inj ho
            obtain ⟨u', c', M, e0, hM, ho'⟩ := hf.has 9 31 rfl (hall ⟨9, .data⟩ (by simp) rfl)
            refine wpOp_at rfl rfl ?_
            simp [Oper.wp, go_sem, e0]
            exact ⟨_, rfl, SomeS.refl _ _, ⟨c', rfl⟩, HG.out.to (by decide) (Nat.le_refl _) fun _ d => d⟩
          · cases Option.some.inj ho
            obtain ⟨M, hM, ho'⟩ := hf.has 10 41 rfl (hall ⟨10, .data⟩ (by simp) rfl)
            refine wpOp_at rfl rfl ?_
            simp [Oper.wp, go_sem]
            exact ⟨_, rfl, SomeS.refl _ _, ⟨M, hM, ho'⟩, HG.out.to (by decide) (Nat.le_refl _) fun _ d => d⟩
          · cases Option.some.inj ho
            obtain ⟨c', e0⟩ := hf.has 11 42 rfl (hall ⟨11, .data⟩ (by simp) rfl)
            refine wpOp_at rfl rfl ?_
            simp [Oper.wp, go_sem, e0]
            exact ⟨_, rfl, SomeS.refl _ _, ⟨c', rfl⟩, HG.out.to (by decide) (Nat.le_refl _) fun _ d => d⟩
        · intro v y hg hfacts
          have D4 := Lib.hid (show Dr w b sl ys (N + 100 + k + 1) y (TlS w r (.slice p1 r.cells.length n1) X (.slice a r.cells.length c) L) from hg.2)
          obtain ⟨M, hM, ho⟩ : ∃ M, laidOk r M = true ∧ Own y wr.heap.size 3 (v 8) (M.map (Value.int .i64)) := hfacts 12 _ 8 rfl rfl
          obtain ⟨c', hc'⟩ : ∃ c, v 9 = .bool c := hfacts 13 _ 9 rfl rfl
          obtain ⟨a5, c5, hv5⟩ := ho.formM
          rw [(laidOk_iff.1 hM).2.1] at hv5
          have D6 := Lib.hid (show Dr w b sl ys (N + 100 + k + 1) y (TlS w r (.slice p1 r.cells.length n1) X (v 8) M) by
            have := (show Dr w b sl ys (N + 100 + k + 1) y (TlS w r (.slice p1 r.cells.length n1) X (.slice a r.cells.length c) L ++ [.row 3 (v 8) (M.map (Value.int .i64))]) from ⟨D4.out.s.add HD.out.s ho, D4.out.r, D4.out.r0⟩).pick [0, 1, 2, 4] (by decide) (by simp [TlS])
            simpa [TlS] using this)
          rw [hv5] at D6
          have HM := Lib.hid hM
          clear hg hfacts ho hM x0 x1 x2 sX hlen hbs
          simp only [List.filterMap_cons, List.filterMap_nil, puts, hv5, hc']
          generalize v 31 = v31
          cases c'
          · go_wp2
            go_roundw
            case rel => exact ⟨k + 1, a, c, L, by omega, by go_num, rfl, HN.out, by simpa [Nat.add_assoc] using D4.out⟩
            case measure => simp [intOf]; omega
          · go_wp2
            go_roundw
            case rel => exact ⟨k + 1, a5, c5, M, by omega, by go_num, rfl, HM.out, by simpa [Nat.add_assoc] using D6.out⟩
            case measure => simp [intOf]; omega
        · rintro D D' x hD ⟨hB, d⟩
          exact ⟨hB, by rw [← hD 5 (by simp)]; exact d⟩
      · have e : k = r.cells.length := by omega
        subst e
        have D3 := Lib.hid (HD.out.weak (M := N + 150) (by omega))
        clear HD
        go_wp2_with (fail)
        clear x0 x1 x2 sX
        go_loopw [6, 10] (fun u i wr => ∃ (k : Nat) (a : Option Addr) (c : Nat) (L : List Int), k ≤ r.cells.length ∧ i = .int .i64 k ∧ u = .slice a r.cells.length c ∧ laidOk r L = true ∧ Dr w b sl ys (N + 150) wr (TlS w r (.slice p1 r.cells.length n1) X u L)) (fun _ i _ => r.cells.length - (intOf i).toNat)
        case atStart => exact ⟨0, a, c, L, Nat.zero_le _, rfl, rfl, HN.out, D3.out⟩
        case round =>
          clear D3 HN
          obtain ⟨k, a, c, L, hk, rfl, rfl, hlen, D⟩ := hrel
          have HD := Lib.hid D
          have HN := Lib.hid hlen
          clear D hlen
          by_cases hlt : k < r.cells.length
          · go_wp2_with (fail)
            go_loopw [6, 11] (fun u i wr => ∃ (m : Nat) (a : Option Addr) (c : Nat) (L : List Int), 1 ≤ m ∧ m ≤ 3 ∧ i = .int .i64 m ∧ u = .slice a r.cells.length c ∧ laidOk r L = true ∧ Dr w b sl ys (N + 150) wr (TlS w r (.slice p1 r.cells.length n1) X u L)) (fun _ i _ => 4 - (intOf i).toNat)
            case atStart => exact ⟨1, a, c, L, by omega, by omega, rfl, rfl, HN.out, HD.out⟩
            case round =>
              clear HD HN
              obtain ⟨m, a, c, L, hm1, hm3, rfl, rfl, hlen, D⟩ := hrel
              have HD := Lib.hid D
              have HN := Lib.hid hlen
              clear D hlen
              by_cases hm : m < 3
              · have hm2 : (m : Int) ≤ 2 := by omega
                obtain ⟨x0, x1, x2, _⟩ := three_cells (HD.out.s.blk 2 rfl)
                go_wp2_with (fail)
                obtain ⟨q, hq⟩ : ∃ q, layOne r L (k : Int) (m : Int) = q := ⟨_, rfl⟩
                refine (sLayOne_q _ _ r L _ _ _ ⟨_, rfl, (HD.out.s.own 1 rfl).sl⟩ (own_il (HD.out.s.own 3 rfl)) q hq).mono ?_
                rintro e w5 ⟨v5, rfl, ho5, hb5⟩
                have HQ := Lib.hid hq
                have HO5 := Lib.hid ho5
                have HB5 := Lib.hid hb5
                clear hq ho5 hb5 x0 x1 x2
                cases hq2 : q.2
                · have D6 := Lib.hid (HD.out.below HB5.out)
                  go_wp2
                  go_roundw
                  case rel => exact ⟨m + 1, a, c, L, by omega, by omega, by go_num, rfl, HN.out, D6.out⟩
                  case measure => simp [intOf]; omega
                · have D6 := Lib.hid (tlS_next HD.out HB5.out HO5.out)
                  obtain ⟨a5, c5, hv5⟩ := HO5.out.formM
                  have hql := layOne_ok HN.out (by omega) HQ.out
                  rw [(laidOk_iff.1 hql).2.1] at hv5
                  subst hv5
                  have HQL := Lib.hid hql
                  clear hql
                  go_wp2
                  go_roundw
                  case rel => exact ⟨m + 1, a5, c5, q.1, by omega, by omega, by go_num, rfl, HQL.out, D6.out⟩
                  case measure => simp [intOf]; omega
              · have hm2 : ¬ (m : Int) ≤ 2 := by omega
                go_wp2
                go_roundw
                case rel => exact ⟨k + 1, a, c, L, by omega, by go_num, rfl, HN.out, HD.out⟩
                case measure => simp [intOf]; omega
          · have e : k = r.cells.length := by omega
            subst e
            obtain ⟨x0, x1, x2, _⟩ := three_cells (HD.out.s.blk 2 rfl)
            have D7 := Lib.hid ((HD.out.box #[.int .i64 r.wide, .int .i64 r.tall, .slice none 0 0] 25).nil 4)
            clear HD
            go_wp2_with (fail)
            clear x0 x1 x2
            obtain ⟨g, cg, hge, _, hg2, hg3, hg4⟩ := (D7.out.s.own 3 rfl).formN (by rw [List.length_map, (laidOk_iff.1 HN.out).2.1]; exact hl1)
            rw [List.length_map, (laidOk_iff.1 HN.out).2.1] at hge
            obtain ⟨rfl, hcg⟩ : a = some ⟨g, 0, none⟩ ∧ c = cg := by simpa using hge
            subst hcg
            clear hge
            obtain ⟨W7, hW7⟩ : ∃ W, W = wr.alloc (.cells #[.int .i64 r.wide, .int .i64 r.tall, .slice none 0 0] 25) := ⟨_, rfl⟩
            rw [← hW7] at D7 ⊢
            clear hW7
            generalize wr.heap.size = Y at *
            go_loopw [15] (fun i w8 => ∃ (k : Nat) (a2 : Option Addr) (c2 : Nat) (l : List Bool), k ≤ r.cells.length ∧ i = .int .i64 k ∧ l.length = k ∧ Dr w b sl ys (N + 150) w8 (TlS w r (.slice p1 r.cells.length n1) X (.slice (some ⟨g, 0, none⟩) r.cells.length c) L ++ [.box Y #[.int .i64 r.wide, .int .i64 r.tall, .slice a2 k c2] 25, .row 4 (.slice a2 k c2) (l.map Value.bool)])) (fun i _ => r.cells.length - (intOf i).toNat)
            case atStart => exact ⟨0, none, 0, [], Nat.zero_le _, rfl, rfl, by simpa [TlS] using D7.out⟩
            case round =>
              clear D7
              obtain ⟨_, a2, c2, l, hk, rfl, rfl, D⟩ := hrel
              have HD := Lib.hid D
              clear D
              obtain ⟨y0, y1, y2, f0, f1, f2⟩ := three_cells (HD.out.s.blk 4 rfl)
              have sY := HD.out.s.lt 4 rfl rfl
              by_cases hlt : l.length < r.cells.length
              · obtain ⟨u1, u2, u3⟩ := own_num (HD.out.s.own 3 rfl) (j := l.length) (by have := (laidOk_iff.1 HN.out).2.1; omega)
                obtain ⟨x, hx⟩ : ∃ x, L.getD l.length 0 = x := ⟨_, rfl⟩
                rw [hx] at u1
                clear hx
                go_wp2_with (fail)
                go_region_law (refine step_app elem_bools 0 (.slice a2 l.length c2) (l.map Value.bool) ?_ wr.heap.size (.bool (x != 0)) (.tmp 77) (.tmp 83) (by rfl) (by rfl) (by rfl) (by rfl) (heap_alloc_new _ _) (by rfl) ?_ ?_ ?_; exact Own.alloc (HD.out.s.drew.own 5 rfl) _; (rw [List.length_map]; omega); (exact Nat.zero_le _); intro g2 cap w7 A7; (have D8 := Lib.hid ((HD.out.drew.alloc _).app 5 rfl A7)); (obtain ⟨z0, z1, z2, e0, e1, e2⟩ := three_cells (D8.out.s.blk 4 rfl)); clear A7)
                all_goals
                  have D9 := Lib.hid (D8.out.put 4 rfl 2 (.slice (some ⟨g2, 0, none⟩) (l.length + 1) cap))
                  go_wp2
                  go_roundw
                  case rel => exact ⟨l.length + 1, some ⟨g2, 0, none⟩, cap, l ++ [x != 0], by omega, by go_num, by simp, by simpa [TlS] using D9.out⟩
                  case measure => simp [intOf]; omega
              · have hq : RegSmall ⟨r.wide, r.tall, l⟩ := ⟨hr1.1, hr1.2.1, hr1.2.2.1, hr1.2.2.2.1, by show l.length ≤ 37; omega⟩
                obtain ⟨b0, b1, b2, e0, e1, e2⟩ := three_cells (HD.out.s.blk 0 rfl)
                have E1 := Lib.hid (HD.out.put3 0 rfl (.int .i64 r.wide) (.int .i64 r.tall) (.slice a2 l.length c2))
                obtain ⟨q0, q1, q2, _⟩ := three_cells (E1.out.s.blk 0 rfl)
                have Q0 := Lib.hid q0
                have Q1 := Lib.hid q1
                have Q2 := Lib.hid q2
                have DN := Lib.hid (drawn_n (E1.out.weak (M := N + 200) (by omega)) 5 rfl hq)
                clear q0 q1 q2
                go_wp2
                exact bodyPost_ret (by simp [results, Tryd.results63, go_sem, Q0.out, Q1.out, Q2.out]) rfl DN.out
end Go.Proofs.YtklifibiadiinaaDoor
