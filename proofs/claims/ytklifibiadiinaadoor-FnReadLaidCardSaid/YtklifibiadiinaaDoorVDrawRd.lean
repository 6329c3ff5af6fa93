/- Walks: DrawReadRegion. -/
import Derived.Test.YtklifibiadiinaaDoorVWtxtS
import Derived.Test.YtklifibiadiinaaDoorVDrawD
import Derived.Test.YtklifibiadiinaaDoorZb
import Derived.Test.YtklifibiadiinaaDoorVRegU
set_option linter.unusedVariables false
namespace Go.Proofs.YtklifibiadiinaaDoor
open Go.RowKit Domi

/-- A drawn text. -/
def DrawnS (w : World) (e : Ending) (w' : World) : Prop := ∃ S : ByteArray, e = .returned (.string S) ∧ S.size ≤ 200 ∧ Below w.heap.size w w'
def LitS (B : Nat) (x : World) (g : Nat) (cs : Array Value) : Prop := B ≤ g ∧ x.heap[g]? = some (.cells cs 9 (0, 0))
theorem LitS.on {B g : Nat} {x y : World} {cs : Array Value} (h : LitS B x g cs) (hs : SomeS B x y) : LitS B y g cs := ⟨h.1, by rw [hs.2 g h.1 (lt_of_heap h.2)]; exact h.2⟩
def StrLe (n : Nat) (v : Value) : Prop := ∃ P : ByteArray, v = .string P ∧ P.size ≤ n
/-- What each operation of the drawn text's region leaves. -/
def TxF (B b : Nat) (S : ByteArray) (k : Nat) (cs : Array Value) : Nat → Value → World → Prop
  | 0, v, _ => v = .string S
  | 1, v, _ => v = .int .i64 k
  | 2, v, _ => StrLe 60 v
  | 3, v, x => ∃ g, v = .slice (some ⟨g, 0, none⟩) cs.size cs.size ∧ LitS B x g cs
  | 4, v, _ => v = .pointer (some ⟨b, 0, none⟩)
  | 5, v, _ => ∃ j : Nat, v = .int .i64 j ∧ j < cs.size
  | 6, v, x => ∃ g j : Nat, v = .pointer (some ⟨g, j, none⟩) ∧ j < cs.size ∧ LitS B x g cs
  | 7, v, _ => StrLe 1 v
  | 8, v, _ => StrLe 61 v
  | 9, v, _ => v = .string S
  | 10, v, _ => v = .int .i64 k
  | 11, v, _ => v = .int .i64 (k + 1)
  | 12, v, _ => StrLe 60 v
  | 13, v, _ => StrLe 130 v
  | 14, v, _ => StrLe 130 v
  | _, _, _ => True
theorem txF_on {B b k i : Nat} {S : ByteArray} {cs : Array Value} {v : Value} {x y : World} (h : TxF B b S k cs i v x) (hs : SomeS B x y) : TxF B b S k cs i v y := by
  match i, h with
  | 0, h => exact h
  | 1, h => exact h
  | 2, h => exact h
  | 3, ⟨g, e, h⟩ => exact ⟨g, e, h.on hs⟩
  | 4, h => exact h
  | 5, h => exact h
  | 6, ⟨g, j, e, hj, h⟩ => exact ⟨g, j, e, hj, h.on hs⟩
  | 7, h => exact h
  | 8, h => exact h
  | 9, h => exact h
  | 10, h => exact h
  | 11, h => exact h
  | 12, h => exact h
  | 13, h => exact h
  | 14, h => exact h
  | n + 15, _ => exact trivial
def TxG (wb : World) (B b : Nat) (sl : Value) (ys : List Int) (N : Nat) (D : Nat → Bool) (x : World) : Prop :=
  B ≤ x.heap.size ∧ wb.grownBy x (some b) ∧ ∃ M, M ≤ N + (if D 5 then 1 else 0) ∧ RdN x b sl ys M
theorem TxG.to {wb x y : World} {B b N i : Nat} {sl : Value} {ys : List Int} {D : Nat → Bool} (h : TxG wb B b sl ys N D x) (hz : x.heap.size ≤ y.heap.size) (hg : x.grownBy y (some b)) (hr : ∀ M, RdN x b sl ys M → RdN y b sl ys M) : TxG wb B b sl ys N (fun j => D j || j == i) y := by
  obtain ⟨h1, h2, M, hM, h3⟩ := h
  refine ⟨by omega, grown_trans h2 hg, M, ?_, hr M h3⟩
  refine Nat.le_trans hM ?_
  show N + (if D 5 = true then 1 else 0) ≤ N + (if (D 5 || 5 == i) = true then 1 else 0)
  have l1 : (if D 5 = true then 1 else 0) ≤ if (D 5 || 5 == i) = true then 1 else 0 := by cases D 5 <;> simp
  omega
theorem TxG.same {wb x : World} {B b N i : Nat} {sl : Value} {ys : List Int} {D : Nat → Bool} (h : TxG wb B b sl ys N D x) : TxG wb B b sl ys N (fun j => D j || j == i) x := h.to (Nat.le_refl _) (grown_refl x _) fun _ h => h
theorem rdN_belowS {w w' : World} {b : Nat} {sl : Value} {ys : List Int} {N : Nat} (h : RdN w b sl ys N) (hb : Below w.heap.size w w') : RdN w' b sl ys N :=
  rdN_grown (row := none) h (grown_below hb none) (by simp) (.inr (by cases sl.ownBlock <;> simp))
set_option maxRecDepth 100000 in
set_option maxHeartbeats 4000000 in
theorem DrawReadRegion_any (v : Value) (ys : List Int) (w : World) (h : Yl w v ys) (hr : ∀ i, i < ys.length → 0 ≤ ys.getD i 0 ∧ ys.getD i 0 ≤ 255) :
    Calls Tryd.prog 22 #[v] w (DrawnS w) := by
  have H := Lib.hid h
  have Hr := Lib.hid hr
  clear h hr
  go_enter Tryd.func22, Tryd.ntmps22
  go_wp2_with (fail)
  refine (open_n v ys w H.out Hr.out).mono ?_
  rintro e w1 ⟨b, sl, zs, rfl, hb1, hb2, hr1⟩
  have Hb := Lib.hid hb2
  have hb1w : b < w1.heap.size := rdN_lt hr1
  have Hr1 := Lib.hid hr1
  clear hb2 hr1
  go_wp2_with (fail)
  refine (region_n b sl zs 0 0 w1 Hr1.out (by omega) (by omega) hb1w).mono ?_
  rintro e w2 ⟨s2, r, rfl, ho, hsm, hg, hr2⟩
  have Hb := Lib.hid (Hb.out.trans (below_grown hg (Hb.out.size) (fun i hi => by cases hi; exact hb1)))
  have HV := Lib.hid (show RegV w2 (.agg #[.int .i64 r.wide, .int .i64 r.tall, s2]) r from ⟨_, rfl, ho.sl⟩)
  have Hr2 := Lib.hid hr2
  have HSM := Lib.hid hsm
  clear ho hg hsm hr2 Hr1
  have CT := sRegionText_any _ r w2 HV.out (by have := HSM.out; unfold RegSmall at this; omega) (by have := HSM.out; unfold RegSmall at this; omega)
  obtain ⟨S, hS⟩ : ∃ S, bs (rgText r) = S := ⟨_, rfl⟩
  have hS42 : S.size ≤ 42 := by rw [← hS, bs_size]; exact rgText_len r
  rw [hS] at CT
  have CT := Lib.hid CT
  clear hS
  go_wp2_with (fail)
  refine CT.out.mono ?_
  rintro e w3 ⟨rfl, hb⟩
  have Hb := Lib.hid (Hb.out.trans (hb.mono Hb.out.size))
  have Hr3 := Lib.hid (rdN_belowS Hr2.out hb)
  clear hb CT HV Hr2
  go_wp2_with (fail)
  refine (pick_n b sl zs _ 3 w3 Hr3.out (by omega)).mono ?_
  rintro e w4 ⟨k, rfl, hk, hg, hr4⟩
  have Hb := Lib.hid (Hb.out.trans (below_grown hg (Hb.out.size) (fun i hi => by cases hi; exact hb1)))
  have Hr4 := Lib.hid hr4
  clear hg hr4 hk Hr3
  by_cases h0 : k = 0
  rotate_left
  · go_wp2
    go_ret
    exact ⟨S, rfl, by omega, Hb.out⟩
  subst h0
  by_cases hS0 : 0 < S.size
  rotate_left
  · have hS0' : ¬ (0 : Int) < (S.size : Int) := by omega
    go_wp2
    go_ret
    exact ⟨S, rfl, by omega, Hb.out⟩
  have hS0' : (0 : Int) < (S.size : Int) := by omega
  obtain ⟨n, hn⟩ : ∃ n, S.size = n := ⟨_, rfl⟩
  go_wp2_with (fail)
  rw [hn] at hS0 hS0' hS42
  refine (pick_n b sl zs _ n w4 Hr4.out (by omega)).mono ?_
  rintro e w5 ⟨kv, rfl, hkv, hg, hr5⟩
  obtain ⟨k, rfl⟩ := Int.eq_ofNat_of_zero_le hkv.1
  have hkn : k < n := by omega
  have Hb := Lib.hid (Hb.out.trans (below_grown hg (Hb.out.size) (fun i hi => by cases hi; exact hb1)))
  have Hr5 := Lib.hid hr5
  have hbs : b < w5.heap.size := rdN_lt hr5
  clear hg hr5 hkv Hr4
  go_wp2_with (fail)
  refine wp_region_by (TxF w5.heap.size b S k #[.string ⟨#[]⟩, .string ⟨#[35]⟩, .string ⟨#[46]⟩, .string ⟨#[47]⟩, .string ⟨#[120]⟩]) (TxG w5 w5.heap.size b sl zs 200) (SomeS w5.heap.size) (by kernel_rfl) (by kernel_rfl) ?_ ?_ ?_ ?_ ?_
  · exact fun i v x y h hs => txF_on h hs
  · exact ⟨Nat.le_refl _, grown_drew (grown_refl w5 _), _, by simp, rdN_drew Hr5.out⟩
  · intro i o D x y ho hg hf hD hall
    have hi : i = 0 ∨ i = 1 ∨ i = 2 ∨ i = 3 ∨ i = 4 ∨ i = 5 ∨ i = 6 ∨ i = 7 ∨ i = 8 ∨ i = 9 ∨ i = 10 ∨ i = 11 ∨ i = 12 ∨ i = 13 ∨ i = 14 := by
      have := (List.getElem?_eq_some_iff.1 ho).1
      simp at this
      omega
    have HG := Lib.hid hg
    have hy : w5.heap.size ≤ y.heap.size := hg.1
    clear hg
    rcases hi with rfl | rfl | rfl | rfl | rfl | rfl | rfl | rfl | rfl | rfl | rfl | rfl | rfl | rfl | rfl
    · cases Option.some.inj ho
      have e0 := hf.was 4 (.string S) (by kernel_rfl) rfl
      refine wpOp_at rfl rfl ?_
      simp [Oper.wp, go_sem, e0]
      exact ⟨_, rfl, SomeS.refl _ _, rfl, HG.out.same⟩
    · cases Option.some.inj ho
      have e0 := hf.was 5 (.int .i64 k) (by kernel_rfl) rfl
      refine wpOp_at rfl rfl ?_
      simp [Oper.wp, go_sem, e0]
      exact ⟨_, rfl, SomeS.refl _ _, rfl, HG.out.same⟩
    · cases Option.some.inj ho
      have e0 : _ = _ := hf.has 0 23 rfl (hall ⟨0, .data⟩ (by simp) rfl)
      have e1 : _ = _ := hf.has 1 24 rfl (hall ⟨1, .data⟩ (by simp) rfl)
      have hk1 : (k : Int) ≤ (S.size : Int) := by omega
      have hk2 : k ≤ S.size := by omega
      refine wpOp_at rfl rfl ?_
      simp [Oper.wp, go_sem, e0, e1, hk1]
      exact ⟨_, rfl, SomeS.refl _ _, ⟨_, rfl, by rw [ByteArray.size_extract]; omega⟩, HG.out.same⟩
    · cases Option.some.inj ho
      refine wpOp_at rfl rfl ?_
      simp [Oper.wp, go_sem]
      exact ⟨_, rfl, someS_below (below_alloc _ _), ⟨_, rfl, hy, heap_alloc_new _ _⟩, HG.out.to (by simp) (World.grownBy_alloc y _ _) (fun _ h => rdN_alloc h _)⟩
    · cases Option.some.inj ho
      have e0 := hf.was 3 (.pointer (some ⟨b, 0, none⟩)) (by kernel_rfl) rfl
      refine wpOp_at rfl rfl ?_
      simp [Oper.wp, go_sem, e0]
      exact ⟨_, rfl, SomeS.refl _ _, rfl, HG.out.same⟩
    · cases Option.some.inj ho
      have e0 : _ = _ := hf.has 4 27 rfl (hall ⟨4, .data⟩ (by simp) rfl)
      obtain ⟨_, hgw, M, hM, hr⟩ := HG.out
      have HR := Lib.hid hr
      have HGW := Lib.hid hgw
      rw [hD] at hM
      have hM2 : M ≤ 200 := hM
      clear hr hgw
      refine wpOp_at rfl rfl ?_
      simp [Oper.wp, go_sem, e0]
      refine (pick_n b sl zs M 5 _ HR.out (by omega)).mono ?_
      rintro e y' ⟨jv, rfl, hj, hgr, hrd⟩
      obtain ⟨j, rfl⟩ := Int.eq_ofNat_of_zero_le hj.1
      exact ⟨_, rfl, someS_grown hgr hbs, ⟨j, rfl, by show j < 5; omega⟩, ⟨Nat.le_trans hy hgr.size, grown_trans HGW.out hgr, M + 1, by simp; omega, hrd⟩⟩
    · cases Option.some.inj ho
      obtain ⟨g, e0, hl⟩ := hf.has 3 26 rfl (hall ⟨3, .data⟩ (by simp) rfl)
      obtain ⟨j, e1, hj⟩ := hf.has 5 28 rfl (hall ⟨5, .data⟩ (by simp) rfl)
      have hj0 : j < 5 := hj
      have hj1 : (j : Int) < 5 := by omega
      refine wpOp_at rfl rfl ?_
      simp [Oper.wp, go_sem, e0, e1, hj1]
      exact ⟨_, rfl, SomeS.refl _ _, ⟨g, j, rfl, hj, hl⟩, HG.out.same⟩
    · cases Option.some.inj ho
      obtain ⟨g, j, e0, hj, hl⟩ := hf.has 6 29 rfl (hall ⟨6, .data⟩ (by simp) rfl)
      have hj0 : j < 5 := hj
      obtain ⟨P, hc, hP⟩ : ∃ P : ByteArray, y.cell? ⟨g, j, none⟩ = some (.string P) ∧ P.size ≤ 1 := by
        rw [cell_of_row y g j _ _ _ hl.2]
        have hjj : j = 0 ∨ j = 1 ∨ j = 2 ∨ j = 3 ∨ j = 4 := by omega
        rcases hjj with rfl | rfl | rfl | rfl | rfl <;> exact ⟨_, rfl, by decide⟩
      refine wpOp_at rfl rfl ?_
      simp [Oper.wp, go_sem, e0, hc]
      exact ⟨_, rfl, SomeS.refl _ _, ⟨_, rfl, hP⟩, HG.out.same⟩
    · cases Option.some.inj ho
      obtain ⟨P, e0, hP⟩ := hf.has 2 25 rfl (hall ⟨2, .data⟩ (by simp) rfl)
      obtain ⟨Q, e1, hQ⟩ := hf.has 7 30 rfl (hall ⟨7, .data⟩ (by simp) rfl)
      have hPQ : ¬ 9223372036854775807 < P.size + Q.size := by omega
      refine wpOp_at rfl rfl ?_
      simp [Oper.wp, go_sem, e0, e1, hPQ]
      exact ⟨_, rfl, SomeS.refl _ _, ⟨_, rfl, by rw [ByteArray.size_append]; omega⟩, HG.out.same⟩
    · cases Option.some.inj ho
      have e0 := hf.was 4 (.string S) (by kernel_rfl) rfl
      refine wpOp_at rfl rfl ?_
      simp [Oper.wp, go_sem, e0]
      exact ⟨_, rfl, SomeS.refl _ _, rfl, HG.out.same⟩
    · cases Option.some.inj ho
      have e0 := hf.was 5 (.int .i64 k) (by kernel_rfl) rfl
      refine wpOp_at rfl rfl ?_
      simp [Oper.wp, go_sem, e0]
      exact ⟨_, rfl, SomeS.refl _ _, rfl, HG.out.same⟩
    · cases Option.some.inj ho
      have e0 : _ = _ := hf.has 10 33 rfl (hall ⟨10, .data⟩ (by simp) rfl)
      have hw1 : IntKind.i64.wrap ((k : Int) + 1) = (k : Int) + 1 := by unfold IntKind.wrap; simp [IntKind.signed, IntKind.bits]; omega
      refine wpOp_at rfl rfl ?_
      simp [Oper.wp, go_sem, e0, hw1]
      exact ⟨_, rfl, SomeS.refl _ _, rfl, HG.out.same⟩
    · cases Option.some.inj ho
      have e0 : _ = _ := hf.has 9 32 rfl (hall ⟨9, .data⟩ (by simp) rfl)
      have e1 : _ = _ := hf.has 11 34 rfl (hall ⟨11, .data⟩ (by simp) rfl)
      have hk1 : (k : Int) + 1 ≤ (S.size : Int) := by omega
      have hk2 : k + 1 ≤ S.size := by omega
      refine wpOp_at rfl rfl ?_
      simp [Oper.wp, go_sem, e0, e1, hk1]
      exact ⟨_, rfl, SomeS.refl _ _, ⟨_, rfl, by rw [ByteArray.size_extract]; omega⟩, HG.out.same⟩
    · cases Option.some.inj ho
      obtain ⟨P, e0, hP⟩ := hf.has 8 31 rfl (hall ⟨8, .data⟩ (by simp) rfl)
      obtain ⟨Q, e1, hQ⟩ := hf.has 12 35 rfl (hall ⟨12, .data⟩ (by simp) rfl)
      have hPQ : ¬ 9223372036854775807 < P.size + Q.size := by omega
      refine wpOp_at rfl rfl ?_
      simp [Oper.wp, go_sem, e0, e1, hPQ]
      exact ⟨_, rfl, SomeS.refl _ _, ⟨_, rfl, by rw [ByteArray.size_append]; omega⟩, HG.out.same⟩
    · cases Option.some.inj ho
      obtain ⟨P, e0, hP⟩ := hf.has 13 36 rfl (hall ⟨13, .data⟩ (by simp) rfl)
      refine wpOp_at rfl rfl ?_
      simp [Oper.wp, go_sem, e0]
      exact ⟨_, rfl, SomeS.refl _ _, ⟨_, rfl, hP⟩, HG.out.same⟩
  · intro v x hg hfacts
    obtain ⟨P, hP, hle⟩ := hfacts 14 _ 2 rfl rfl
    have BE := Lib.hid (Hb.out.trans (below_grown hg.2.1 Hb.out.size (fun i hi => by cases hi; exact hb1)))
    clear hg hfacts
    simp only [List.filterMap_cons, List.filterMap_nil, puts]
    rw [hP]
    go_wp2
    refine bodyPost_ret (v := .string P) (by simp [results, Tryd.results22, go_sem]) rfl ⟨P, rfl, by omega, BE.out⟩
  · rintro D D' x hD ⟨h1, h2, M, hM, h3⟩
    exact ⟨h1, h2, M, by rw [← hD 5 (by simp)]; exact hM, h3⟩
end Go.Proofs.YtklifibiadiinaaDoor
