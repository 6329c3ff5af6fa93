/- Walks: helpers of the exact laws for lists of lists. -/
import Derived.Test.YtdggcfpkbmdllaaVWex
import Derived.Test.YtdggcfpkbmdllaaZe
set_option linter.unusedVariables false
namespace Go.Proofs.Ytdggcfpkbmdllaa
open Go.RowKit Domi

set_option maxRecDepth 100000 in
set_option maxHeartbeats 1000000 in
theorem eqIntSS_same (v u : Value) (l : List (List Int)) (w : World) (h : Ll w v l) (g : Ll w u l) :
    Calls Try.prog 14 #[v, u] w (Ret (.bool true) w) := by
  obtain ⟨a, cap, rfl, hlc, hcm, hc⟩ := h.opened
  obtain ⟨a', cap', rfl, glc, gcm, gc⟩ := g.opened
  clear h g
  have hne' : ((l.length : Int) != (l.length : Int)) = false := by simp
  go_enter Try.func14, Try.ntmps14
  go_wp2_with (fail)
  go_loopw [5] (fun i wr => ∃ k : Nat, k ≤ l.length ∧ i = .int .i64 k ∧ Below w.heap.size w wr) (fun i _ => l.length - (intOf i).toNat)
  case atStart => exact ⟨0, Nat.zero_le _, rfl, Below.refl _ _⟩
  case round =>
    obtain ⟨k, hk, rfl, hbw⟩ := hrel
    have HBW := Lib.hid hbw
    by_cases hlt : k < l.length
    · rcases hc with rfl | ⟨b, off, rfl, hb, hc⟩
      · simp at hlt
      rcases gc with rfl | ⟨b', off', rfl, hb', gc⟩
      · simp at hlt
      obtain ⟨u1, c1, i1⟩ := hc k hlt
      obtain ⟨u2, c2, i2⟩ := gc k hlt
      have hck := ((bcell hbw).1 b (off + k) hb).trans c1
      have gck := ((bcell hbw).1 b' (off' + k) hb').trans c2
      have hlt' : (k : Int) < (l.length : Int) := by omega
      have hbr := Nat.lt_of_lt_of_le hb hbw.size
      have hbr' := Nat.lt_of_lt_of_le hb' hbw.size
      have I1 := Lib.hid (i1.below hbw)
      have I2 := Lib.hid (i2.below hbw)
      have hLc : ∀ (T : Later wr) (b o : Nat), b < wr.heap.size → T.x.cell? ⟨b, o, none⟩ = wr.cell? ⟨b, o, none⟩ := Later.cell
      clear hc gc c1 c2 i1 i2 hbw
      go_wp2_with (fail)
      refine wp_region_later_all (by kernel_rfl) (by kernel_rfl) ?_
      repeat (go_big_quiet_step (fail))
      go_big_quiet_step (with_reducible exact calls_later _ (eqIntS_is _ _ (l.getD k []) (l.getD k []) _ (Il.below I1.out (Later.h _)) (Il.below I2.out (Later.h _)) true (by simp)))
      repeat (go_big_quiet_step (fail))
      refine wpQuiet_nil ?_
      intro T
      have B2 := Lib.hid (HBW.out.trans (T.h.mono HBW.out.size))
      clear hLc hck gck hbr hbr'
      go_wp2
      go_roundw
      case rel => exact ⟨k + 1, by omega, by go_num, B2.out⟩
      case measure => simp [intOf]; omega
    · go_wp2
      go_ret
      exact ⟨rfl, HBW.out⟩
theorem ll_got {w : World} {a : Option Addr} {n c : Nat} {T : List (List Int)} (h : Ll w (.slice a n c) T) {k : Nat} (hk : k < T.length) :
    ∃ b o u, a = some ⟨b, o, none⟩ ∧ b < w.heap.size ∧ w.cell? ⟨b, o + k, none⟩ = some u ∧ Il w u (T.getD k []) := by
  obtain ⟨_, _, e, _, _, h3⟩ := h.opened
  simp only [Value.slice.injEq] at e
  obtain ⟨rfl, _, rfl⟩ := e
  rcases h3 with e | ⟨b, o, rfl, hb, hc⟩
  · rw [e] at hk; simp at hk
  · obtain ⟨v, h1, h2⟩ := hc k hk
    exact ⟨b, o, v, rfl, hb, h1, h2⟩
theorem mo_at {w0 w : World} {tO tR : TypeId} {a : Option Addr} {n c : Nat} {vs : List Value} {M : List (List Int)} (h : Mo w0 w tO tR (.slice a n c) vs M) {i : Nat} (hi : i < M.length) : ∃ g m cc aa, a = some ⟨g, 0, none⟩ ∧ g < w.heap.size ∧ w.cell? ⟨g, i, none⟩ = some (vs.getD i nilV) ∧ vs.getD i nilV = .slice aa m cc := by
  have hi' : i < vs.length := by rw [h.len]; exact hi
  obtain ⟨g, c', u, hv, h1, h2, h3⟩ := h.out.cellN (j := i) hi'
  simp only [Value.slice.injEq] at hv
  obtain ⟨rfl, -, -⟩ := hv
  obtain ⟨aa, cc, hr⟩ := (h.rows i hi').formM
  refine ⟨g, _, cc, aa, rfl, h3, ?_, hr⟩
  have hs := h.out.sl
  obtain ⟨b2, o2, c2, e2, _, h5⟩ := hs.form (by omega)
  simp only [Value.slice.injEq, Option.some.injEq, Addr.mk.injEq, and_true] at e2
  obtain ⟨⟨rfl, rfl⟩, -, -⟩ := e2
  have h6 := h5 i (vs.getD i nilV) (by rw [List.getElem?_eq_getElem hi', Domi.get_at _ nilV _ hi'])
  have h7 : (⟨g, 0, none⟩ : Addr).add i = ⟨g, 0 + i, none⟩ := by unfold Addr.add; split <;> simp_all
  rw [h7, Nat.zero_add] at h6
  exact h6
set_option maxRecDepth 100000 in
set_option maxHeartbeats 1000000 in
theorem markIntSS_any (v : Value) (vs : List Value) (M : List (List Int)) (k : Int) (w0 w : World) (h : Mo w0 w 39 3 v vs M) (hl : M.length ≤ 1000) (hr : ∀ i, i < M.length → (M.getD i []).length ≤ 1000) (hk : 0 ≤ k ∧ k ≤ 1000) :
    Calls Try.prog 17 #[v, .int .i64 k] w fun e w' => e = .returned (.int .i64 (k + (offM M M.length : Int))) ∧ Mo w0 w' 39 3 v vs (markRows k M M.length) := by
  obtain ⟨a, cap, rfl, hlc, hcm, _⟩ := h.ll.opened
  have HM := Lib.hid h
  have HR := Lib.hid hr
  have HB := Lib.hid (offM_bd hr)
  obtain ⟨n, hn⟩ : ∃ n, M.length = n := ⟨_, rfl⟩
  have HN := Lib.hid hn
  rw [hn] at HM HB hlc hl ⊢
  clear h hn hr
  go_enter Try.func17, Try.ntmps17
  go_wp2_with (fail)
  go_loopw [1, 5] (fun x i wr => ∃ j : Nat, j ≤ n ∧ i = .int .i64 j ∧ x = .int .i64 (k + (offM M j : Int)) ∧ Mo w0 wr 39 3 (.slice a n cap) vs (markRows k M j)) (fun _ i _ => n - (intOf i).toNat)
  case atStart => exact ⟨0, Nat.zero_le _, rfl, by simp [offM], by rw [markRows_zero]; exact HM.out⟩
  case round =>
    clear HM
    obtain ⟨j, hj, rfl, rfl, hmo⟩ := hrel
    have MO := Lib.hid hmo
    clear hmo
    by_cases hlt : j < n
    · have hlt' : (j : Int) < (n : Int) := by omega
      obtain ⟨g, m, cc, aa, rfl, hg, hcell, hrow⟩ := mo_at MO.out (i := j) (by rw [markRows_len, HN.out]; exact hlt)
      have hgt := markRows_get (k := k) (M := M) (i := j) (j := j) (by rw [HN.out]; exact hlt)
      rw [if_neg (by omega)] at hgt
      have hor := MO.out.rows j (by rw [MO.out.len, markRows_len, HN.out]; exact hlt)
      rw [hgt] at hor
      have hob := HB.out j hj
      have hjo : j * 1000 ≤ 1000000 := by omega
      have hrl := HR.out j (by rw [HN.out]; exact hlt)
      have HOR := Lib.hid hor
      rw [hrow] at hcell
      have HROW := Lib.hid hrow
      clear hor hgt hrow
      go_wp2_with (fail)
      refine (markIntS_any _ (M.getD j []) (k + (offM M j : Int)) _ w0.heap.size (by rw [← HROW.out]; exact HOR.out) (by omega) (by omega)).mono ?_
      rintro e w4 ⟨rfl, ho, hgr⟩
      have NX : Hid (Mo w0 w4 39 3 (.slice (some ⟨g, 0, none⟩) n cap) vs (markRows k M (j + 1))) := Lib.hid (by
        rw [← markRows_set (by rw [HN.out]; exact hlt)]
        refine MO.out.turn (by rw [markRows_len, HN.out]; exact hlt) (by rw [HROW.out]; exact hgr) ?_
        rw [HROW.out]
        rw [markL_full] at ho
        exact ho)
      have HOF : Hid (k + (offM M j : Int) + ((M.getD j []).length : Int) = k + (offM M (j + 1) : Int)) := Lib.hid (by rw [offM]; push_cast; omega)
      clear ho hgr hcell
      rw [HOF.out]
      go_wp2_with (fail)
      go_roundw
      case rel => exact ⟨j + 1, by omega, by go_num, rfl, NX.out⟩
      case measure => simp [intOf]; omega
    · have e : n = j := by omega
      subst e
      go_wp2_with (fail)
      go_ret
      exact ⟨rfl, MO.out⟩
set_option maxRecDepth 100000 in
set_option maxHeartbeats 1000000 in
theorem heldIntSS_any (v : Value) (M : List (List Int)) (k : Int) (w : World) (h : Ll w v (markRows k M M.length)) (hl : M.length ≤ 1000) (hr : ∀ i, i < M.length → (M.getD i []).length ≤ 100) (hk : 0 ≤ k ∧ k ≤ 1000) (x : Int) (hx : k + (offM M M.length : Int) = x) :
    Calls Try.prog 18 #[v, .int .i64 k] w (Ret (.int .i64 x) w) := by
  obtain ⟨a, cap, rfl, hlc, hcm, _⟩ := h.opened
  have HL := Lib.hid h
  have HR := Lib.hid hr
  have HB := Lib.hid (offM_bd hr)
  obtain ⟨n, hn⟩ : ∃ n, M.length = n := ⟨_, rfl⟩
  have HN := Lib.hid hn
  rw [markRows_len] at HL hlc ⊢
  rw [hn] at HL HB hlc hl hx ⊢
  have HX := Lib.hid hx
  clear h hn hr hx
  go_enter Try.func18, Try.ntmps18
  go_wp2_with (fail)
  go_loopw [1, 5] (fun x i wr => ∃ j : Nat, j ≤ n ∧ i = .int .i64 j ∧ x = .int .i64 (k + (offM M j : Int)) ∧ Below w.heap.size w wr) (fun _ i _ => n - (intOf i).toNat)
  case atStart => exact ⟨0, Nat.zero_le _, rfl, by simp [offM], Below.refl _ _⟩
  case round =>
    obtain ⟨j, hj, rfl, rfl, hbw⟩ := hrel
    have HBW := Lib.hid hbw
    clear hbw
    by_cases hlt : j < n
    · have hlt' : (j : Int) < (n : Int) := by omega
      obtain ⟨b, o, u, rfl, hb, hcell, hil⟩ := ll_got (HL.out.below HBW.out) (k := j) (by rw [markRows_len, HN.out]; exact hlt)
      rw [markRows_get (by rw [HN.out]; exact hlt), if_pos hlt] at hil
      obtain ⟨ua, uc, rfl, hu1, hu2, _⟩ := hil.opened
      have hob := HB.out j hj
      have hjo : j * 100 ≤ 100000 := by omega
      have hrl := HR.out j (by rw [HN.out]; exact hlt)
      have HIL := Lib.hid hil
      clear hil
      rw [List.length_map, List.length_range] at hcell HIL hu1
      go_wp2_with (fail)
      refine (heldIntS_any _ (M.getD j []) (k + (offM M j : Int)) _ HIL.out (by omega) (by omega)).mono ?_
      rintro e w4 ⟨rfl, hb4⟩
      have NB := Lib.hid (HBW.out.trans (hb4.mono HBW.out.size))
      have HOF : Hid (k + (offM M j : Int) + ((M.getD j []).length : Int) = k + (offM M (j + 1) : Int)) := Lib.hid (by rw [offM]; push_cast; omega)
      have hneg : ¬ k + (offM M (j + 1) : Int) < 0 := by omega
      clear hb4 hcell
      rw [HOF.out]
      go_wp2_with (fail)
      go_roundw
      case rel => exact ⟨j + 1, by omega, by go_num, rfl, NB.out⟩
      case measure => simp [intOf]; omega
    · have e : n = j := by omega
      subst e
      rw [HX.out]
      go_wp2_with (fail)
      go_ret
      exact ⟨rfl, HBW.out⟩
end Go.Proofs.Ytdggcfpkbmdllaa
