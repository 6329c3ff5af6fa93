/- Walks: count, total, TilingsMany of the program. -/
import Derived.Test.YtklifibiadiinaaVWcnt
import Derived.Laws.EntriesVeiled
set_option linter.unusedVariables false
namespace Go.Proofs.Ytklifibiadiinaa
open Go.RowKit Domi

set_option maxRecDepth 100000 in
set_option maxHeartbeats 4000000 in
theorem count_any (v u : Value) (r : Reg) (L : List Int) (w : World) (h : RegV w v r) (hu : Il w u L) (hv : r.valid = true) (hlen : L.length = r.cells.length) :
    Calls Try.prog 93 #[v, u] w (Ret (.int .i64 (withL r L : Nat)) w) := by
  obtain ⟨v1, v2, v3, _⟩ := Reg.valid_iff.1 hv
  have hA := area_in v1 v2
  have hl36 : 1 ≤ r.cells.length ∧ r.cells.length ≤ 36 := by omega
  obtain ⟨a, cap, rfl, hs, hlc, hcm⟩ := h.opened
  obtain ⟨ub, uo, uc, rfl, hub, hucell, hul, hum⟩ := Il.pos hu (by omega)
  have HUC := Lib.hid hucell
  have HS := Lib.hid hs
  have HN := Lib.hid hlen
  have hmm := @run_makeMap Try.prog
  obtain ⟨fv, hfv⟩ : ∃ fv, fv = Value.func (.func 104) #[] #[.pointer (some ⟨w.heap.size, 0, none⟩), .pointer (some ⟨w.heap.size + 1 + 1, 0, none⟩), .pointer (some ⟨w.heap.size + 1 + 1 + 1, 0, none⟩)] := ⟨_, rfl⟩
  have e1 : ((w.alloc (.cells #[.int .i64 r.wide, .int .i64 r.tall, .slice a r.cells.length cap] 28)).alloc (.map #[] 0)).heap.size = w.heap.size + 1 + 1 := by simp
  have e2 : (((w.alloc (.cells #[.int .i64 r.wide, .int .i64 r.tall, .slice a r.cells.length cap] 28)).alloc (.map #[] 0)).alloc (.cells #[.map (some (w.heap.size + 1))] 91)).heap.size = w.heap.size + 1 + 1 + 1 := by simp
  have e0 : (w.alloc (.cells #[.int .i64 r.wide, .int .i64 r.tall, .slice a r.cells.length cap] 28)).heap.size = w.heap.size + 1 := by simp
  have S1 := (Sep.start w none).box #[.int .i64 r.wide, .int .i64 r.tall, .slice a r.cells.length cap] 28
  have S3 := (S1.alloc (.map #[] 0)).box #[.map (some (w.heap.size + 1))] 91
  rw [e1] at S3
  have S4 := S3.box #[.nilFunc] 52
  rw [e2] at S4
  have M0 : OM ((w.alloc (.cells #[.int .i64 r.wide, .int .i64 r.tall, .slice a r.cells.length cap] 28)).alloc (.map #[] 0)) (w.heap.size + 1) 0 (.map []) := by
    have := World.ownsMap_made (w.alloc (.cells #[.int .i64 r.wide, .int .i64 r.tall, .slice a r.cells.length cap] 28)) Try.prog 9 (plainElem (H := Unit) Try.prog 3)
    rwa [e0] at this
  have M4 : OM _ (w.heap.size + 1) 0 (.map []) := (M0.alloc (.cells #[.map (some (w.heap.size + 1))] 91)).alloc (.cells #[.nilFunc] 52)
  obtain ⟨W4, hW4⟩ : ∃ W, W = (((w.alloc (.cells #[.int .i64 r.wide, .int .i64 r.tall, .slice a r.cells.length cap] 28)).alloc (.map #[] 0)).alloc (.cells #[.map (some (w.heap.size + 1))] 91)).alloc (.cells #[.nilFunc] 52) := ⟨_, rfl⟩
  rw [← hW4] at S4 M4
  have S5 := S4.put 2 rfl 0 fv
  have M5 := M4.kept (grown_setCell _ (w.heap.size + 1 + 1 + 1) 0 none fv) (by simp)
  have hf4 := S4.blk 2 rfl
  have c4 := cell_of_one hf4
  have f4 := free_of_one hf4
  have l4 := lt_of_heap hf4
  have hb5 := S5.bel
  have CW5 : CW r (.slice a r.cells.length cap) w.heap.size (w.heap.size + 1 + 1) (w.heap.size + 1 + 1 + 1) (w.heap.size + 1) (W4.setCell ⟨w.heap.size + 1 + 1 + 1, 0, none⟩ fv) := ⟨S5.blk 0 rfl, S5.blk 1 rfl, by have := S5.blk 2 rfl; rw [this, hfv]; rfl, HS.out.below hb5⟩
  obtain ⟨z0, z1, z2, _, z4⟩ := CW5.cells
  have s0 := lt_of_heap CW5.box
  have s3 := lt_of_heap CW5.fn
  have CW5 := Lib.hid CW5
  have M5 := Lib.hid M5
  have HB5 := Lib.hid hb5
  have HW4 := Lib.hid hW4
  subst hfv
  clear e0 e1 e2 S1 S3 S4 M0 M4 S5 hf4 hb5 hs hu hucell hlen v3 hA h hW4
  go_enter Try.func93, Try.ntmps93
  go_upto_region 3 with (fail)
  rw [← HW4.out]
  clear HW4
  go_wp2_with (at_make; refine list_make elem_bools (.bool false) zero_bool rfl r.cells.length (.tmp 14) (.tmp 14) rfl rfl (r.cells.length : Int) ?_ ?_ rfl ?_ ?_ ?_; rfl; rfl; omega; omega; intro cs hcs)
  clear z0 z1 z2 c4 f4 l4
  have hgc : W4.heap.size = (W4.setCell ⟨w.heap.size + 1 + 1 + 1, 0, none⟩ (.func (.func 104) #[] #[.pointer (some ⟨w.heap.size, 0, none⟩), .pointer (some ⟨w.heap.size + 1 + 1, 0, none⟩), .pointer (some ⟨w.heap.size + 1 + 1 + 1, 0, none⟩)])).heap.size := by simp
  obtain ⟨W5, hW5⟩ : ∃ x, x = W4.setCell ⟨w.heap.size + 1 + 1 + 1, 0, none⟩ (.func (.func 104) #[] #[.pointer (some ⟨w.heap.size, 0, none⟩), .pointer (some ⟨w.heap.size + 1 + 1, 0, none⟩), .pointer (some ⟨w.heap.size + 1 + 1 + 1, 0, none⟩)]) := ⟨_, rfl⟩
  rw [← hW5] at hgc CW5 M5 HB5 z4 s0 s3 ⊢
  have O0 := Own.made (w := W5) (B := W5.heap.size) (e := 4) hcs (Nat.le_refl _) (by omega)
  rw [← hgc] at O0
  have O0 := Lib.hid (show Own (W5.alloc (.cells cs 4)) W4.heap.size 4 (.slice (some ⟨W4.heap.size, 0, none⟩) r.cells.length r.cells.length) ((fillL (fun i => decide (L.getD i 0 ≠ 0)) false r.cells.length 0).map Value.bool) from by
    rw [fillL_zero, List.map_replicate]; exact O0)
  have hs5 := HB5.out.size
  have BX := below_alloc W5 (.cells cs 4)
  obtain ⟨W6, hW6⟩ : ∃ x, x = W5.alloc (.cells cs 4) := ⟨_, rfl⟩
  rw [← hW6] at O0 BX ⊢
  have BX := Lib.hid BX
  have HGC := Lib.hid hgc
  clear hW5 hW6 hcs hgc
  generalize W4.heap.size = gc at *
  generalize hXe : w.heap.size = X at *
  have hX5 : X ≤ W5.heap.size := hXe ▸ HB5.out.size
  have HXE := Lib.hid hXe
  clear hXe
  go_loopw [18] (fun i wr => ∃ k : Nat, k ≤ L.length ∧ i = .int .i64 k ∧ Own wr gc 4 (.slice (some ⟨gc, 0, none⟩) r.cells.length r.cells.length) ((fillL (fun i => decide (L.getD i 0 ≠ 0)) false r.cells.length k).map Value.bool) ∧ Below W5.heap.size W5 wr) (fun i _ => L.length - (intOf i).toNat)
  case atStart => exact ⟨0, Nat.zero_le _, rfl, O0.out, BX.out⟩
  case round =>
    clear O0 BX
    obtain ⟨k, hk, rfl, ho, hbw⟩ := hrel
    have HO := Lib.hid ho
    have HB := Lib.hid hbw
    have CWr := Lib.hid (CW5.out.below hbw)
    have Mr := Lib.hid (om_below M5.out hbw)
    have hws := hbw.size
    clear ho hbw
    by_cases hlt : k < L.length
    · have huk := HUC.out wr (HB5.out.trans (HB.out.mono hX5)) k hlt
      have hub2 : ub < wr.heap.size := by omega
      obtain ⟨x, hx⟩ : ∃ x, L.getD k 0 = x := ⟨_, rfl⟩
      rw [hx] at huk
      have hlr : k < r.cells.length := by have := HN.out; omega
      have hfl : ((fillL (fun i => decide (L.getD i 0 ≠ 0)) false r.cells.length k).map Value.bool).length = r.cells.length := by rw [List.length_map, fillL_length]
      have HO' : Own wr gc 4 (.slice (some ⟨gc, 0, none⟩) r.cells.length r.cells.length) ((fillL (fun i => decide (L.getD i 0 ≠ 0)) false r.cells.length k).map Value.bool) := HO.out
      obtain ⟨_, q1, q2, q3⟩ := Own.there HO' k hlr
      have O1 := Own.stored HO' k (.bool (decide (L.getD k 0 ≠ 0)))
      rw [← List.map_set, fillL_set] at O1
      rw [hx] at O1
      have HX := Lib.hid hx
      clear hx HO' hfl
      by_cases hx0 : x = 0
      · subst hx0
        have O1 := Lib.hid O1
        go_wp2
        go_roundw
        case rel => exact ⟨k + 1, by omega, by go_num, by simpa using O1.out, HB.out.setCell (by rw [← HGC.out]; exact Nat.le_refl _) _⟩
        case measure => simp [intOf]; omega
      · have hxe : (x != 0) = true := by simpa using hx0
        rw [show decide (x ≠ 0) = true from decide_eq_true hx0] at O1
        have O1 := Lib.hid O1
        go_wp2
        go_roundw
        case rel => exact ⟨k + 1, by omega, by go_num, O1.out, HB.out.setCell (by rw [← HGC.out]; exact Nat.le_refl _) _⟩
        case measure => simp [intOf]; omega
    · have e : k = L.length := by omega
      subst e
      have HCV := Lib.hid (show (fillL (fun i => decide (L.getD i 0 ≠ 0)) false r.cells.length L.length) = covB L by
        rw [HN.out, fillL_full]
        apply List.ext_getElem
        · simp [covB, HN.out]
        · intro i h1 h2
          rw [List.getElem_map, List.getElem_range]
          have := covB_get L i
          rw [← Domi.get_at (covB L) false i h2] at this
          exact this.symm)
      have HBL := Lib.hid (show Bl wr (.slice (some ⟨gc, 0, none⟩) r.cells.length r.cells.length) (covB L) from by rw [← HCV.out]; exact HO.out.sl)
      obtain ⟨y0, y1, y2, y3, y4⟩ := CWr.out.cells
      have s3' := lt_of_heap CWr.out.fn
      have HW := Lib.hid (show withL r L = tilC r.cells.length r (covB L) 0 by unfold withL; rw [HN.out])
      go_wp2_with (fail)
      refine (count_walk r hv _ X (X + 1 + 1) (X + 1 + 1 + 1) (X + 1) r.cells.length _ (covB L) 0 wr 0 (.map []) (by simp [covB, HN.out]) (by omega) CWr.out Mr.out (Memo.start r) (by
        have : 2 ^ (r.cells.length + 1) ≤ 2 ^ 40 := Nat.pow_le_pow_right (by omega) (by omega)
        omega) HBL.out).mono ?_
      rintro e w7 ⟨rfl, hg7, _⟩
      have B7 := Lib.hid (show Below w.heap.size w w7 from HXE.out ▸ HB5.out.trans ((HB.out.mono hX5).trans (below_grown hg7 (Nat.le_trans hX5 hws) (fun i hi => by cases hi; exact Nat.le_succ _))))
      clear hg7 y0 y1 y2 y3 y4
      go_wp2
      go_ret
      exact ⟨ret_int (by rw [HW.out]), B7.out⟩
set_option maxRecDepth 100000 in
set_option maxHeartbeats 2000000 in
theorem total_any (v : Value) (r : Reg) (w : World) (h : RegV w v r) (hv : r.valid = true) : Calls Try.prog 67 #[v] w (Ret (.int .i64 (manyT r)) w) := by
  obtain ⟨a, cap, rfl, hs, hlc, hcm⟩ := h.opened
  have hA : 0 < r.cells.length ∧ r.cells.length ≤ 36 := by
    obtain ⟨b1, b2, b3, b4⟩ := Reg.valid_iff.1 hv
    have := area_in b1 b2
    omega
  have HS := Lib.hid hs
  have S4 := ((Sep.start w none).box #[.int .i64 r.wide, .int .i64 r.tall, .slice a r.cells.length cap] 28).made (e := 3) (mkRow_hid r.cells.length (.int .i64 0)) (by omega)
  have hsz : (w.alloc (.cells #[.int .i64 r.wide, .int .i64 r.tall, .slice a r.cells.length cap] 28)).heap.size = w.heap.size + 1 := by simp
  rw [hsz] at S4
  have S4 := Lib.hid S4.drew
  have U4 := Lib.hid (show Il _ _ (bareL r) from by
    have := (S4.out.own 1 rfl).sl
    rw [show List.replicate r.cells.length (Value.int .i64 0) = (bareL r).map (Value.int .i64) by rw [bareL_yes hv, List.map_replicate]] at this
    exact this)
  obtain ⟨y0, y1, y2⟩ := S4.out.c3 0 rfl
  have S2 := ((Sep.start w none).box #[.int .i64 r.wide, .int .i64 r.tall, .slice a r.cells.length cap] 28).drew
  obtain ⟨x0, x1, x2⟩ := S2.c3 0 rfl
  have HBW := Lib.hid (withL_bare hv)
  have hmk := run_make_row1 elem_ints (.int .i64 0) zero_int rfl r.cells.length (by omega) (by omega)
  have HLB := Lib.hid (show (bareL r).length = r.cells.length by rw [bareL_yes hv]; simp)
  clear h hs hsz S2 y0 y1 y2
  go_enter Try.func67, Try.ntmps67
  go_wp2_with (fail)
  go_region_held3 (fun w' => w'.cell? ⟨w.heap.size, 0, none⟩ = some (.int .i64 r.wide) ∧ w'.cell? ⟨w.heap.size, 1, none⟩ = some (.int .i64 r.tall) ∧ w'.cell? ⟨w.heap.size, 2, none⟩ = some (.slice a r.cells.length cap))
    (first | with_reducible exact K5.out | (go_keep; done) | assumption)
    ((first
      | (go_at_call 93; refine (count_any _ _ r (bareL r) _ ⟨_, rfl, HS.out.below S4.out.bel⟩ U4.out hv HLB.out).mono ?_; rw [HBW.out]; rintro e w6 ⟨rfl, hb6⟩; (have S6 := Lib.hid (S4.out.below hb6)); (have K5 := Lib.hid (Sep.c3 S6.out 0 rfl)); clear hb6)))
  all_goals
    go_wp2
    go_ret
    exact ⟨rfl, S6.out.bel⟩
set_option maxHeartbeats 400000 in
theorem TilingsMany_any (v : Value) (r : Reg) (w : World) (h : RegV w v r) : Calls Try.prog 33 #[v] w (Ret (.int .i64 (manyT r)) w) := by
  obtain ⟨a, cap, rfl, hs, hlc, hcm⟩ := h.opened
  have R0 := Lib.hid (RB.new hs)
  have B0 := Lib.hid (below_alloc w (.cells #[.int .i64 r.wide, .int .i64 r.tall, .slice a r.cells.length cap] 28))
  clear h hs
  cases hv : r.valid
  · go_enter Try.func33, Try.ntmps33
    go_wp2_with (fail)
    refine (RegionValid_any _ r _ R0.out.v).mono ?_
    rw [hv]
    rintro e w1 ⟨rfl, hb⟩
    have HB := Lib.hid (B0.out.trans (hb.mono B0.out.size))
    have HT := Lib.hid (manyT_no hv)
    clear hb
    go_wp2
    go_ret
    exact ⟨ret_int HT.out.symm, HB.out⟩
  · go_enter Try.func33, Try.ntmps33
    go_wp2_with (fail)
    refine (RegionValid_any _ r _ R0.out.v).mono ?_
    rw [hv]
    rintro e w1 ⟨rfl, hb⟩
    have R1 := Lib.hid (R0.out.on hb)
    have HB := Lib.hid (B0.out.trans (hb.mono B0.out.size))
    obtain ⟨x0, x1, x2⟩ := R1.out.c3
    clear hb
    go_wp2_with (fail)
    refine (total_any _ r _ R1.out.v hv).mono ?_
    rintro e w2 ⟨rfl, hb⟩
    have HB2 := Lib.hid (HB.out.trans (hb.mono HB.out.size))
    clear hb x0 x1 x2
    go_wp2
    go_ret
    exact ⟨rfl, HB2.out⟩
end Go.Proofs.Ytklifibiadiinaa
