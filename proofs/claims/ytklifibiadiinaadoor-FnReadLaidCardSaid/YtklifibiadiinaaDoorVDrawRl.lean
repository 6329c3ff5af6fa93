/- Walks: DrawReadLaid. -/
import Derived.Test.YtklifibiadiinaaDoorVDrawRd
import Derived.Test.YtklifibiadiinaaDoorVLaid
import Derived.Test.YtklifibiadiinaaDoorVWltxS
set_option linter.unusedVariables false
namespace Go.Proofs.YtklifibiadiinaaDoor
open Go.RowKit Domi

set_option maxRecDepth 100000 in
set_option maxHeartbeats 4000000 in
theorem DrawReadLaid_any (v : Value) (ys : List Int) (w : World) (h : Yl w v ys) (hr : ∀ i, i < ys.length → 0 ≤ ys.getD i 0 ∧ ys.getD i 0 ≤ 255) :
    Calls Tryd.prog 15 #[v] w (DrawnS w) := by
  have H := Lib.hid h
  have Hr := Lib.hid hr
  clear h hr
  go_enter Tryd.func15, Tryd.ntmps15
  go_wp2_with (fail)
  refine (open_n v ys w H.out Hr.out).mono ?_
  rintro e w1 ⟨b, sl, zs, rfl, hb1, hb2, hr1⟩
  have Hb := Lib.hid hb2
  have hb1w : b < w1.heap.size := rdN_lt hr1
  have Hr1 := Lib.hid hr1
  clear hb2 hr1
  go_wp2_with (fail)
  refine (laid_n b sl zs 0 0 w1 Hr1.out (by omega) (by omega)).mono ?_
  rintro e w2 ⟨s2, r, u2, L, rfl, ho, hu, hsm, hl, hg, hr2⟩
  obtain ⟨p2, n2, rfl⟩ := ho.formM
  obtain ⟨p3, n3, rfl⟩ := hu.formM
  have Hb := Lib.hid (Hb.out.trans (below_grown hg (Hb.out.size) (fun i hi => by cases hi; exact hb1)))
  have R := RB.new ho.sl
  obtain ⟨W2, hW2⟩ : ∃ W2, W2 = w2.alloc (.cells #[.int .i64 r.wide, .int .i64 r.tall, .slice p2 r.cells.length n2] 25) := ⟨_, rfl⟩
  have B2 := Lib.hid (show Below w2.heap.size w2 W2 by rw [hW2]; exact below_alloc _ _)
  rw [← hW2] at R
  have R := Lib.hid R
  have Hr2 := Lib.hid (rdN_belowS hr2 B2.out)
  have HU := Lib.hid (show Il W2 (.slice p3 L.length n3) L from (show Il w2 (.slice p3 L.length n3) L from hu.sl).below B2.out)
  have Hb := Lib.hid (Hb.out.trans (B2.out.mono Hb.out.size))
  have HSM := Lib.hid hsm
  clear ho hu hg hsm hr2 Hr1 B2
  have CT := sLaidText_any _ _ r L W2 R.out.v HU.out (by have := HSM.out; unfold RegSmall at this; omega) (by have := HSM.out; unfold RegSmall at this; omega)
  obtain ⟨S, hS⟩ : ∃ S, bs (laidText r L) = S := ⟨_, rfl⟩
  have hS42 : S.size ≤ 42 := by rw [← hS, bs_size]; exact laidText_len r L
  rw [hS] at CT
  have CT := Lib.hid CT
  clear hS
  go_upto_region 3 with (fail)
  rw [← hW2]
  clear hW2
  generalize w2.heap.size = X2 at *
  obtain ⟨x0, x1, x2⟩ := R.out.c3
  go_wp2_with (fail)
  refine CT.out.mono ?_
  rintro e w3 ⟨rfl, hb⟩
  have Hb := Lib.hid (Hb.out.trans (hb.mono Hb.out.size))
  have Hr3 := Lib.hid (rdN_belowS Hr2.out hb)
  clear hb CT Hr2 x0 x1 x2 R HU
  go_wp2_with (fail)
  refine (pick_n b sl zs _ 3 w3 Hr3.out (by omega)).mono ?_
  rintro e w4 ⟨k, rfl, hk, hg, hr4⟩
  have Hb := Lib.hid (Hb.out.trans (below_grown hg (Hb.out.size) (fun i hi => by cases hi; exact hb1)))
  have Hr4 := Lib.hid hr4
  clear hg hr4 hk Hr3
  by_cases h0 : k = 0
  rotate_left
  · go_wp2
    go_ret
    exact ⟨S, rfl, by omega, Hb.out⟩
  subst h0
  by_cases hS0 : 0 < S.size
  rotate_left
  · have hS0' : ¬ (0 : Int) < (S.size : Int) := by omega
    go_wp2
    go_ret
    exact ⟨S, rfl, by omega, Hb.out⟩
  have hS0' : (0 : Int) < (S.size : Int) := by omega
  obtain ⟨n, hn⟩ : ∃ n, S.size = n := ⟨_, rfl⟩
  go_wp2_with (fail)
  rw [hn] at hS0 hS0' hS42
  refine (pick_n b sl zs _ n w4 Hr4.out (by omega)).mono ?_
  rintro e w5 ⟨kv, rfl, hkv, hg, hr5⟩
  obtain ⟨k, rfl⟩ := Int.eq_ofNat_of_zero_le hkv.1
  have hkn : k < n := by omega
  have Hb := Lib.hid (Hb.out.trans (below_grown hg (Hb.out.size) (fun i hi => by cases hi; exact hb1)))
  have Hr5 := Lib.hid hr5
  have hbs : b < w5.heap.size := rdN_lt hr5
  clear hg hr5 hkv Hr4
  go_wp2_with (fail)
  refine wp_region_by (TxF w5.heap.size b S k #[.string ⟨#[]⟩, .string ⟨#[35]⟩, .string ⟨#[101]⟩, .string ⟨#[47]⟩, .string ⟨#[119]⟩, .string ⟨#[46]⟩]) (TxG w5 w5.heap.size b sl zs 700) (SomeS w5.heap.size) (by kernel_rfl) (by kernel_rfl) ?_ ?_ ?_ ?_ ?_
  · exact fun i v x y h hs => txF_on h hs
  · exact ⟨Nat.le_refl _, grown_drew (grown_refl w5 _), _, by simp, rdN_drew Hr5.out⟩
  · intro i o D x y ho hg hf hD hall
    have hi : i = 0 ∨ i = 1 ∨ i = 2 ∨ i = 3 ∨ i = 4 ∨ i = 5 ∨ i = 6 ∨ i = 7 ∨ i = 8 ∨ i = 9 ∨ i = 10 ∨ i = 11 ∨ i = 12 ∨ i = 13 ∨ i = 14 := by
      have := (List.getElem?_eq_some_iff.1 ho).1
      simp at this
      omega
    have HG := Lib.hid hg
    have hy : w5.heap.size ≤ y.heap.size := hg.1
    clear hg
    rcases hi with rfl | rfl | rfl | rfl | rfl | rfl | rfl | rfl | rfl | rfl | rfl | rfl | rfl | rfl | rfl
    · cases Option.some.inj ho
      have e0 := hf.was 6 (.string S) (by kernel_rfl) rfl
      refine wpOp_at rfl rfl ?_
      simp [Oper.wp, go_sem, e0]
      exact ⟨_, rfl, SomeS.refl _ _, rfl, HG.out.same⟩
    · cases Option.some.inj ho
      have e0 := hf.was 7 (.int .i64 k) (by kernel_rfl) rfl
      refine wpOp_at rfl rfl ?_
      simp [Oper.wp, go_sem, e0]
      exact ⟨_, rfl, SomeS.refl _ _, rfl, HG.out.same⟩
    · cases Option.some.inj ho
      have e0 : _ = _ := hf.has 0 30 rfl (hall ⟨0, .data⟩ (by simp) rfl)
      have e1 : _ = _ := hf.has 1 31 rfl (hall ⟨1, .data⟩ (by simp) rfl)
      have hk1 : (k : Int) ≤ (S.size : Int) := by omega
      have hk2 : k ≤ S.size := by omega
      refine wpOp_at rfl rfl ?_
      simp [Oper.wp, go_sem, e0, e1, hk1]
      exact ⟨_, rfl, SomeS.refl _ _, ⟨_, rfl, by rw [ByteArray.size_extract]; omega⟩, HG.out.same⟩
    · cases Option.some.inj ho
      refine wpOp_at rfl rfl ?_
      simp [Oper.wp, go_sem]
      exact ⟨_, rfl, someS_below (below_alloc _ _), ⟨_, rfl, hy, heap_alloc_new _ _⟩, HG.out.to (by simp) (World.grownBy_alloc y _ _) (fun _ h => rdN_alloc h _)⟩
    · cases Option.some.inj ho
      have e0 := hf.was 3 (.pointer (some ⟨b, 0, none⟩)) (by kernel_rfl) rfl
      refine wpOp_at rfl rfl ?_
      simp [Oper.wp, go_sem, e0]
      exact ⟨_, rfl, SomeS.refl _ _, rfl, HG.out.same⟩
    · cases Option.some.inj ho
      have e0 : _ = _ := hf.has 4 34 rfl (hall ⟨4, .data⟩ (by simp) rfl)
      obtain ⟨_, hgw, M, hM, hr⟩ := HG.out
      have HR := Lib.hid hr
      have HGW := Lib.hid hgw
      rw [hD] at hM
      have hM2 : M ≤ 700 := hM
      clear hr hgw
      refine wpOp_at rfl rfl ?_
      simp [Oper.wp, go_sem, e0]
      refine (pick_n b sl zs M 6 _ HR.out (by omega)).mono ?_
      rintro e y' ⟨jv, rfl, hj, hgr, hrd⟩
      obtain ⟨j, rfl⟩ := Int.eq_ofNat_of_zero_le hj.1
      exact ⟨_, rfl, someS_grown hgr hbs, ⟨j, rfl, by show j < 6; omega⟩, ⟨Nat.le_trans hy hgr.size, grown_trans HGW.out hgr, M + 1, by simp; omega, hrd⟩⟩
    · cases Option.some.inj ho
      obtain ⟨g, e0, hl⟩ := hf.has 3 33 rfl (hall ⟨3, .data⟩ (by simp) rfl)
      obtain ⟨j, e1, hj⟩ := hf.has 5 35 rfl (hall ⟨5, .data⟩ (by simp) rfl)
      have hj0 : j < 6 := hj
      have hj1 : (j : Int) < 6 := by omega
      refine wpOp_at rfl rfl ?_
      simp [Oper.wp, go_sem, e0, e1, hj1]
      exact ⟨_, rfl, SomeS.refl _ _, ⟨g, j, rfl, hj, hl⟩, HG.out.same⟩
    · cases Option.some.inj ho
      obtain ⟨g, j, e0, hj, hl⟩ := hf.has 6 36 rfl (hall ⟨6, .data⟩ (by simp) rfl)
      have hj0 : j < 6 := hj
      obtain ⟨P, hc, hP⟩ : ∃ P : ByteArray, y.cell? ⟨g, j, none⟩ = some (.string P) ∧ P.size ≤ 1 := by
        rw [cell_of_row y g j _ _ _ hl.2]
        have hjj : j = 0 ∨ j = 1 ∨ j = 2 ∨ j = 3 ∨ j = 4 ∨ j = 5 := by omega
        rcases hjj with rfl | rfl | rfl | rfl | rfl | rfl <;> exact ⟨_, rfl, by decide⟩
      refine wpOp_at rfl rfl ?_
      simp [Oper.wp, go_sem, e0, hc]
      exact ⟨_, rfl, SomeS.refl _ _, ⟨_, rfl, hP⟩, HG.out.same⟩
    · cases Option.some.inj ho
      obtain ⟨P, e0, hP⟩ := hf.has 2 32 rfl (hall ⟨2, .data⟩ (by simp) rfl)
      obtain ⟨Q, e1, hQ⟩ := hf.has 7 37 rfl (hall ⟨7, .data⟩ (by simp) rfl)
      have hPQ : ¬ 9223372036854775807 < P.size + Q.size := by omega
      refine wpOp_at rfl rfl ?_
      simp [Oper.wp, go_sem, e0, e1, hPQ]
      exact ⟨_, rfl, SomeS.refl _ _, ⟨_, rfl, by rw [ByteArray.size_append]; omega⟩, HG.out.same⟩
    · cases Option.some.inj ho
      have e0 := hf.was 6 (.string S) (by kernel_rfl) rfl
      refine wpOp_at rfl rfl ?_
      simp [Oper.wp, go_sem, e0]
      exact ⟨_, rfl, SomeS.refl _ _, rfl, HG.out.same⟩
    · cases Option.some.inj ho
      have e0 := hf.was 7 (.int .i64 k) (by kernel_rfl) rfl
      refine wpOp_at rfl rfl ?_
      simp [Oper.wp, go_sem, e0]
      exact ⟨_, rfl, SomeS.refl _ _, rfl, HG.out.same⟩
    · cases Option.some.inj ho
      have e0 : _ = _ := hf.has 10 40 rfl (hall ⟨10, .data⟩ (by simp) rfl)
      have hw1 : IntKind.i64.wrap ((k : Int) + 1) = (k : Int) + 1 := by unfold IntKind.wrap; simp [IntKind.signed, IntKind.bits]; omega
      refine wpOp_at rfl rfl ?_
      simp [Oper.wp, go_sem, e0, hw1]
      exact ⟨_, rfl, SomeS.refl _ _, rfl, HG.out.same⟩
    · cases Option.some.inj ho
      have e0 : _ = _ := hf.has 9 39 rfl (hall ⟨9, .data⟩ (by simp) rfl)
      have e1 : _ = _ := hf.has 11 41 rfl (hall ⟨11, .data⟩ (by simp) rfl)
      have hk1 : (k : Int) + 1 ≤ (S.size : Int) := by omega
      have hk2 : k + 1 ≤ S.size := by omega
      refine wpOp_at rfl rfl ?_
      simp [Oper.wp, go_sem, e0, e1, hk1]
      exact ⟨_, rfl, SomeS.refl _ _, ⟨_, rfl, by rw [ByteArray.size_extract]; omega⟩, HG.out.same⟩
    · cases Option.some.inj ho
      obtain ⟨P, e0, hP⟩ := hf.has 8 38 rfl (hall ⟨8, .data⟩ (by simp) rfl)
      obtain ⟨Q, e1, hQ⟩ := hf.has 12 42 rfl (hall ⟨12, .data⟩ (by simp) rfl)
      have hPQ : ¬ 9223372036854775807 < P.size + Q.size := by omega
      refine wpOp_at rfl rfl ?_
      simp [Oper.wp, go_sem, e0, e1, hPQ]
      exact ⟨_, rfl, SomeS.refl _ _, ⟨_, rfl, by rw [ByteArray.size_append]; omega⟩, HG.out.same⟩
    · cases Option.some.inj ho
      obtain ⟨P, e0, hP⟩ := hf.has 13 43 rfl (hall ⟨13, .data⟩ (by simp) rfl)
      refine wpOp_at rfl rfl ?_
      simp [Oper.wp, go_sem, e0]
      exact ⟨_, rfl, SomeS.refl _ _, ⟨_, rfl, hP⟩, HG.out.same⟩
  · intro v x hg hfacts
    obtain ⟨P, hP, hle⟩ := hfacts 14 _ 2 rfl rfl
    have BE := Lib.hid (Hb.out.trans (below_grown hg.2.1 Hb.out.size (fun i hi => by cases hi; exact hb1)))
    clear hg hfacts
    simp only [List.filterMap_cons, List.filterMap_nil, puts]
    rw [hP]
    go_wp2
    refine bodyPost_ret (v := .string P) (by simp [results, Tryd.results15, go_sem]) rfl ⟨P, rfl, by omega, BE.out⟩
  · rintro D D' x hD ⟨h1, h2, M, hM, h3⟩
    exact ⟨h1, h2, M, by rw [← hD 5 (by simp)]; exact hM, h3⟩
end Go.Proofs.YtklifibiadiinaaDoor
