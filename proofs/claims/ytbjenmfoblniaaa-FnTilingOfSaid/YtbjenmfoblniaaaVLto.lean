/- The law FnTilingOf: its walk. -/
import Derived.Test.YtbjenmfoblniaaaVDrawTo
import Derived.Test.YtbjenmfoblniaaaVWrankI
import Derived.Test.YtbjenmfoblniaaaVWcntB
import Derived.Test.YtbjenmfoblniaaaVSame
import Derived.Test.YtbjenmfoblniaaaVLil
set_option linter.unusedVariables false
namespace Go.Proofs.Ytbjenmfoblniaaa
open Go.RowKit Domi

theorem tilOf_false {r : Reg} {c : Int} {G : List Int} (h : tilOf r c = (G, false)) : G = [] ∧ (c < 0 ∨ manyT r ≤ c) := by
  cases hv : r.valid
  · rw [tilOf_no1 hv] at h
    simp only [Prod.mk.injEq, and_true] at h
    rw [manyT_no hv]
    exact ⟨h.symm, by omega⟩
  · cases hi : inB c 0 (((tilsR r).length : Int) - 1)
    · rw [tilOf_no2 hi] at h
      simp only [Prod.mk.injEq, and_true] at h
      refine ⟨h.symm, ?_⟩
      rw [manyT_yes hv]
      have : ¬ (0 ≤ c ∧ c ≤ ((tilsR r).length : Int) - 1) := fun h2 => by rw [inB_iff.2 h2] at hi; cases hi
      omega
    · rw [tilOf_yes hv hi] at h
      simp at h
theorem tilOf_true {r : Reg} {c : Int} {G : List Int} (h : tilOf r c = (G, true)) : ∃ k : Nat, c = k ∧ k < (tilsR r).length ∧ (tilsR r).getD k [] = G ∧ rankR r G = c := by
  cases hv : r.valid
  · rw [tilOf_no1 hv] at h; simp at h
  · cases hi : inB c 0 (((tilsR r).length : Int) - 1)
    · rw [tilOf_no2 hi] at h; simp at h
    · rw [tilOf_yes hv hi] at h
      have hcc := inB_iff.1 hi
      obtain ⟨k, rfl⟩ := Int.eq_ofNat_of_zero_le hcc.1
      have hk : k < (tilsR r).length := by omega
      simp only [Prod.mk.injEq, and_true, Int.toNat_natCast] at h
      refine ⟨k, rfl, hk, h, ?_⟩
      have hm : G ∈ tilsR r := by rw [← h, ← Domi.get_at _ _ _ hk]; exact List.getElem_mem hk
      rw [rankR_yes (mem_tilsR'.1 hm), ← h, idxN_at (tilsR_nodup r) hk]
set_option maxRecDepth 100000 in
set_option maxHeartbeats 4000000 in
theorem FnTilingOf_walk (v : Value) (ys : List Int) (w : World) (h : Yl w v ys) (hr : ∀ i, i < ys.length → 0 ≤ ys.getD i 0 ∧ ys.getD i 0 ≤ 255) :
    Calls Try.prog 13 #[v] w (Ret (.bool true) w) := by
  have H := Lib.hid h
  have Hr := Lib.hid hr
  obtain ⟨a0, cap0, rfl, hlc0, hcm0, _⟩ := h.opened
  clear h hr
  by_cases hlen : (1048576 : Int) < (ys.length : Int)
  · go_enter Try.func13, Try.ntmps13
    go_wp2
    go_ret
    exact ⟨rfl, Below.refl _ _⟩
  go_enter Try.func13, Try.ntmps13
  go_wp2_with (fail)
  refine (DrawTilingOf_any _ ys w H.out Hr.out).mono ?_
  rintro e w1 ⟨s1, r, c, rfl, hs1, hsm, hcb, hb1⟩
  obtain ⟨a1, cap1, rfl, hlc1, hcm1, _⟩ := hs1.opened
  have R := RB.new hs1
  obtain ⟨W, hW⟩ : ∃ W, W = w1.alloc (.cells #[.int .i64 r.wide, .int .i64 r.tall, .slice a1 r.cells.length cap1] 29) := ⟨_, rfl⟩
  rw [← hW] at R
  have R := Lib.hid R
  have BW := Lib.hid (show Below w.heap.size w W by rw [hW]; exact hb1.alloc hb1.size _)
  have hX : w1.heap.size < W.heap.size := by rw [hW]; simp
  clear hs1 hb1
  go_wp2_with (fail)
  rw [← hW]
  clear hW
  generalize w1.heap.size = X at *
  clear hX
  have HF : Hid (∀ G, tilOf r c = (G, false) → G = [] ∧ (c < 0 ∨ manyT r ≤ c)) := Lib.hid fun G h => tilOf_false h
  have HT : Hid (∀ G, tilOf r c = (G, true) → ∃ k : Nat, c = k ∧ k < (tilsR r).length ∧ (tilsR r).getD k [] = G ∧ rankR r G = c) := Lib.hid fun G h => tilOf_true h
  have HI := fun (v : Value) (w : World) (h : RegV w v r) => TilingOf_any v r c w h
  have HS := fun (v : Value) (w : World) (h : RegV w v r) => sTilingOf_any v r c w h
  obtain ⟨⟨G, b⟩, hq⟩ : ∃ q, tilOf r c = q := ⟨_, rfl⟩
  rw [hq] at HI HS
  have HI := Lib.hid HI
  have HS := Lib.hid HS
  have HQ := Lib.hid hq
  have hbb : (b != b) = false := by simp
  clear hq
  obtain ⟨x0, x1, x2⟩ := R.out.c3
  go_wp2_with (fail)
  refine (HI.out _ _ R.out.v).mono ?_
  rintro e w2 ⟨v2, rfl, hv2, hb⟩
  have BW := Lib.hid (BW.out.trans (hb.mono BW.out.size))
  have R := Lib.hid (R.out.on hb)
  have V := Lib.hid hv2
  dsimp only
  clear hb hv2 x0 x1 x2
  obtain ⟨x0, x1, x2⟩ := R.out.c3
  go_wp2_with (fail)
  refine (HS.out _ _ R.out.v).mono ?_
  rintro e w3 ⟨v3, rfl, hv3, hb⟩
  have BW := Lib.hid (BW.out.trans (hb.mono BW.out.size))
  have R := Lib.hid (R.out.on hb)
  have V := Lib.hid (Sl.below V.out hb)
  have V3 := Lib.hid hv3
  dsimp only
  clear hb hv3 x0 x1 x2
  go_wp2_with (fail)
  refine (sameInts_is _ _ G G _ V.out V3.out true (by simp)).mono ?_
  rintro e w4 ⟨rfl, hb⟩
  have BW := Lib.hid (BW.out.trans (hb.mono BW.out.size))
  have R := Lib.hid (R.out.on hb)
  have V := Lib.hid (Sl.below V.out hb)
  clear hb V3
  obtain ⟨ga, gc, rfl, _, _, _⟩ := (show Il w4 v2 G from V.out).opened
  obtain ⟨x0, x1, x2⟩ := R.out.c3
  cases b
  · obtain ⟨e1, hc⟩ := HF.out G HQ.out
    subst e1
    obtain ⟨M, hM⟩ : ∃ M, manyT r = M := ⟨_, rfl⟩
    rw [hM] at hc
    have HMY : Hid (∀ v w, RegV w v r → Calls Try.prog 19 #[v] w (Ret (.int .i64 M) w)) := Lib.hid fun v w h => by rw [← hM]; exact TilingsMany_any v r w h
    rw [show (([] : List Int).length) = 0 from rfl]
    clear hM HQ HF HT
    by_cases hc0 : c < 0
    · go_wp2_with (fail)
      refine (alive_any _).mono ?_
      rintro e w5 ⟨rfl, hb⟩
      have BW := Lib.hid (BW.out.trans (hb.mono BW.out.size))
      clear hb
      go_wp2
      go_ret
      exact ⟨rfl, BW.out⟩
    · have hcM : M ≤ c := by omega
      clear hc
      go_wp2_with (fail)
      refine (HMY.out _ _ R.out.v).mono ?_
      rintro e w5 ⟨rfl, hb⟩
      have BW := Lib.hid (BW.out.trans (hb.mono BW.out.size))
      clear hb
      go_wp2_with (fail)
      refine (alive_any _).mono ?_
      rintro e w6 ⟨rfl, hb⟩
      have BW := Lib.hid (BW.out.trans (hb.mono BW.out.size))
      clear hb
      go_wp2
      go_ret
      exact ⟨rfl, BW.out⟩
  · obtain ⟨k, rfl, hk, hG, hrk⟩ := HT.out G HQ.out
    have HRK := Lib.hid hrk
    clear HQ HF HT hrk
    go_wp2_with (fail)
    refine (TilingsAll_any _ r _ R.out.v).mono ?_
    obtain ⟨T, hT⟩ : ∃ T, tilsR r = T := ⟨_, rfl⟩
    rw [hT] at hk hG ⊢
    clear hT
    rintro e w5 ⟨v5, rfl, hv5, hb⟩
    have BW := Lib.hid (BW.out.trans (hb.mono BW.out.size))
    have R := Lib.hid (R.out.on hb)
    have V := Lib.hid (Sl.below V.out hb)
    have A := Lib.hid hv5
    clear hv5 hb x0 x1 x2
    obtain ⟨za, zc, rfl, hz1, hz2, _⟩ := A.out.opened
    obtain ⟨m, hm⟩ : ∃ m, G.length = m := ⟨_, rfl⟩
    rw [hm] at V ⊢
    obtain ⟨zb, zf, u, q, rfl, hzb, hcell, hq, hil⟩ := ll_at A.out hk hG hm
    have HIL := Lib.hid hil
    have hk' : (k : Int) < (T.length : Int) := by omega
    clear hG hil hm
    obtain ⟨x0, x1, x2⟩ := R.out.c3
    go_wp2_with (fail)
    refine (sameInts_is _ _ G G _ HIL.out V.out true (by simp)).mono ?_
    rintro e w6 ⟨rfl, hb⟩
    have BW := Lib.hid (BW.out.trans (hb.mono BW.out.size))
    have R := Lib.hid (R.out.on hb)
    have V := Lib.hid (Sl.below V.out hb)
    clear hb x0 x1 x2 hcell HIL
    obtain ⟨x0, x1, x2⟩ := R.out.c3
    go_wp2_with (fail)
    refine (RankOf_any _ _ r G _ R.out.v V.out _ HRK.out).mono ?_
    rintro e w7 ⟨rfl, hb⟩
    have BW := Lib.hid (BW.out.trans (hb.mono BW.out.size))
    clear hb x0 x1 x2
    have hkk : ((k : Int) == (k : Int)) = true := by simp
    go_wp2
    go_ret
    exact ⟨by first | rfl | exact ret_bool hkk, BW.out⟩
end Go.Proofs.Ytbjenmfoblniaaa
