/- The law FnThreeRows: its walk. -/
import Derived.Test.YtbjenmfoblniaaaVLrows
set_option linter.unusedVariables false
namespace Go.Proofs.Ytbjenmfoblniaaa
open Go.RowKit Domi

theorem pow4 {j : Nat} (h : j ≤ 20) : (4 : Int) ^ j ≤ 1099511627776 := by
  have key : ∀ i : Fin 21, (4 : Int) ^ i.val ≤ 1099511627776 := by decide
  exact key ⟨j, by omega⟩
theorem threeRows_no {c : Int} (h : inB c 0 40 = false) : threeRows c = -1 := by unfold threeRows; rw [h]; rfl
theorem threeRows_odd {k : Nat} (h : inB (k : Int) 0 40 = true) (h2 : (k : Int) % 2 = 1) : threeRows k = 0 := by unfold threeRows; rw [h, if_pos rfl, if_pos h2]
theorem threeRows_even {k n : Nat} (h : inB (k : Int) 0 40 = true) (h2 : (k : Int) % 2 = 0) (hn : (k : Int) / 2 = n) : threeRows k = tri3 n := by
  unfold threeRows; rw [h, if_pos rfl, if_neg (by omega), Int.toNat_natCast, show k / 2 = n by omega]
set_option maxHeartbeats 1000000 in
theorem ThreeRows_any (c m : Int) (w : World) (hc : -100 ≤ c ∧ c ≤ 100) (hm : threeRows c = m) : Calls Try.prog 22 #[.int .i64 c] w fun e w' => e = .returned (.int .i64 m) ∧ w = w' := by
  have HM := Lib.hid hm
  clear hm
  cases hi : inB c 0 40
  · have HR := Lib.hid ((threeRows_no hi).symm.trans HM.out)
    go_enter Try.func22, Try.ntmps22
    go_wp2_with (fail)
    refine (in_b _ _ _ _ false hi).mono ?_
    rintro e w1 ⟨rfl, rfl⟩
    go_wp2
    go_ret
    exact ⟨ret_int HR.out, rfl⟩
  · have hin := inB_iff.1 hi
    obtain ⟨k, rfl⟩ := Int.eq_ofNat_of_zero_le hin.1
    have hmod : (k : Int) % 2 = 1 ∨ (k : Int) % 2 = 0 := by omega
    rcases hmod with h2 | h2
    · have HR := Lib.hid ((threeRows_odd hi h2).symm.trans HM.out)
      go_enter Try.func22, Try.ntmps22
      go_wp2_with (fail)
      refine (in_b _ _ _ _ true hi).mono ?_
      rintro e w1 ⟨rfl, rfl⟩
      go_wp2
      go_ret
      exact ⟨ret_int HR.out, rfl⟩
    · obtain ⟨n, hn⟩ : ∃ n : Nat, (k : Int) / 2 = n := ⟨k / 2, by omega⟩
      have HR := Lib.hid ((threeRows_even hi h2 hn).symm.trans HM.out)
      have hn20 : n ≤ 20 := by omega
      go_enter Try.func22, Try.ntmps22
      go_wp2_with (fail)
      refine (in_b _ _ _ _ true hi).mono ?_
      rintro e w1 ⟨rfl, rfl⟩
      go_wp2_with (fail)
      go_loop [3, 4, 15] (fun a b i => ∃ j : Nat, j ≤ n ∧ i = .int .i64 j ∧ a = .int .i64 (tri3 j) ∧ b = .int .i64 (tri3 (j + 1))) (fun _ _ i => n - (intOf i).toNat)
      case atStart => exact ⟨0, Nat.zero_le _, rfl, rfl, rfl⟩
      case round =>
        obtain ⟨j, hj, rfl, rfl, rfl⟩ := hrel
        have h1 := tri3_le j
        have h3 := tri3_up j
        have h4 := pow4 (j := j) (by omega)
        have h5 : (4 : Int) ^ (j + 1) = 4 ^ j * 4 := Int.pow_succ _ _
        obtain ⟨x, hx⟩ : ∃ x, tri3 j = x := ⟨_, rfl⟩
        obtain ⟨y, hy⟩ : ∃ y, tri3 (j + 1) = y := ⟨_, rfl⟩
        have HS := Lib.hid (show tri3 (j + 1 + 1) = 4 * y - x by rw [← hx, ← hy]; rfl)
        have HX := Lib.hid hx
        have HY := Lib.hid hy
        have b1 : 1 ≤ x ∧ x ≤ 1099511627776 := by omega
        have b2 : 1 ≤ y ∧ y ≤ 4398046511104 := by omega
        rw [hx, hy]
        clear h1 h3 h4 h5 hx hy
        by_cases hlt : j < n
        · go_wp2
          go_round
          case rel => exact ⟨j + 1, by omega, by go_num, by rw [HY.out], by rw [HS.out]⟩
          case measure => simp [intOf]; omega
        · have e : j = n := by omega
          have HE := Lib.hid (show x = m by rw [← HR.out, ← e, HX.out])
          subst e
          go_wp2
          go_ret
          exact ⟨ret_int HE.out, rfl⟩
set_option maxHeartbeats 1000000 in
theorem sThreeRows_any (c m : Int) (w : World) (hc : -100 ≤ c ∧ c ≤ 100) (hm : threeRows c = m) : Calls Try.prog 23 #[.int .i64 c] w fun e w' => e = .returned (.int .i64 m) ∧ w = w' := by
  have HM := Lib.hid hm
  clear hm
  cases hi : inB c 0 40
  · have HR := Lib.hid ((threeRows_no hi).symm.trans HM.out)
    go_enter Try.func23, Try.ntmps23
    go_wp2_with (fail)
    refine (l1In_b _ _ _ _ false hi).mono ?_
    rintro e w1 ⟨rfl, rfl⟩
    go_wp2
    go_ret
    exact ⟨ret_int HR.out, rfl⟩
  · have hin := inB_iff.1 hi
    obtain ⟨k, rfl⟩ := Int.eq_ofNat_of_zero_le hin.1
    have hmod : (k : Int) % 2 = 1 ∨ (k : Int) % 2 = 0 := by omega
    rcases hmod with h2 | h2
    · have HR := Lib.hid ((threeRows_odd hi h2).symm.trans HM.out)
      go_enter Try.func23, Try.ntmps23
      go_wp2_with (fail)
      refine (l1In_b _ _ _ _ true hi).mono ?_
      rintro e w1 ⟨rfl, rfl⟩
      go_wp2
      go_ret
      exact ⟨ret_int HR.out, rfl⟩
    · obtain ⟨n, hn⟩ : ∃ n : Nat, (k : Int) / 2 = n := ⟨k / 2, by omega⟩
      have HR := Lib.hid ((threeRows_even hi h2 hn).symm.trans HM.out)
      have hn20 : n ≤ 20 := by omega
      have hkn : (k : Int) = 2 * n := by omega
      have HKN := Lib.hid hkn
      clear hkn
      go_enter Try.func23, Try.ntmps23
      go_wp2_with (fail)
      refine (l1In_b _ _ _ _ true hi).mono ?_
      rintro e w1 ⟨rfl, rfl⟩
      go_wp2_with (fail)
      go_loop [3, 4, 5] (fun a b i => ∃ (j : Nat) (x : Int), j ≤ n ∧ i = .int .i64 (2 * (j : Int)) ∧ a = .int .i64 x ∧ b = .int .i64 (tri3 j) ∧ 4 * tri3 j - x = tri3 (j + 1) ∧ 1 ≤ x ∧ x ≤ tri3 j) (fun _ _ i => (2 * (n : Int) - intOf i).toNat)
      case atStart => exact ⟨0, 1, Nat.zero_le _, rfl, rfl, rfl, by decide, by decide, by decide⟩
      case round =>
        obtain ⟨j, x, hj, rfl, rfl, rfl, hs, hx1, hx2⟩ := hrel
        have h1 := tri3_le j
        have h3 := tri3_up j
        have h4 := pow4 (j := j) (by omega)
        obtain ⟨y, hy⟩ : ∃ y, tri3 j = y := ⟨_, rfl⟩
        have HS := Lib.hid hs
        have HUP := Lib.hid h3
        have b1 : x ≤ 1099511627776 := by omega
        have b2 : 1 ≤ y ∧ y ≤ 1099511627776 := by omega
        have HY := Lib.hid hy
        rw [hy] at HS ⊢
        clear h1 h3 h4 hs hy hx2
        have hkn : (k : Int) = 2 * n := HKN.out
        by_cases hlt : j < n
        · have hlt2 : 2 * (j : Int) < k := by omega
          clear hkn
          go_wp2
          go_round
          case rel => exact ⟨j + 1, y, by omega, by go_num, rfl, by rw [← HS.out], by rw [← HY.out]; rfl, by omega, by have := HUP.out; rw [HY.out] at this; exact this.2⟩
          case measure => simp [intOf]; omega
        · have e : j = n := by omega
          have hlt2 : ¬ 2 * (j : Int) < k := by omega
          have HE := Lib.hid (show y = m by rw [← HR.out, ← e, HY.out])
          clear hkn
          go_wp2
          go_ret
          exact ⟨ret_int HE.out, rfl⟩
set_option maxRecDepth 100000 in
set_option maxHeartbeats 2000000 in
theorem FnThreeRows_walk (v : Value) (ys : List Int) (w : World) (h : Yl w v ys) (hr : ∀ i, i < ys.length → 0 ≤ ys.getD i 0 ∧ ys.getD i 0 ≤ 255) :
    Calls Try.prog 4 #[v] w (Ret (.bool true) w) := by
  have H := Lib.hid h
  have Hr := Lib.hid hr
  obtain ⟨a0, cap0, rfl, hlc0, hcm0, _⟩ := h.opened
  clear h hr
  by_cases hlen : (1048576 : Int) < (ys.length : Int)
  · go_enter Try.func4, Try.ntmps4
    go_wp2
    go_ret
    exact ⟨rfl, Below.refl _ _⟩
  go_enter Try.func4, Try.ntmps4
  go_wp2_with (fail)
  refine (DrawThreeRows_any _ ys w H.out Hr.out).mono ?_
  rintro e w1 ⟨c, rfl, hc, hb1⟩
  have BW := Lib.hid hb1
  clear hb1
  obtain ⟨q, hq⟩ : ∃ q, threeRows c = q := ⟨_, rfl⟩
  have HQ := Lib.hid hq
  clear hq
  go_wp2_with (fail)
  refine (ThreeRows_any c q _ (by omega) HQ.out).mono ?_
  rintro e w2 ⟨rfl, rfl⟩
  go_wp2_with (fail)
  refine (sThreeRows_any c q _ (by omega) HQ.out).mono ?_
  rintro e w2 ⟨rfl, rfl⟩
  by_cases hin : 0 ≤ c ∧ c ≤ 40
  rotate_left
  · have hq1 : q = -1 := by rw [← HQ.out]; exact threeRows_no (inB_not hin)
    subst hq1
    go_wp2_with (fail)
    refine (alive_any _).mono ?_
    rintro e w7 ⟨rfl, hb⟩
    have BW := Lib.hid (BW.out.trans (hb.mono BW.out.size))
    clear hb
    go_wp2
    go_ret
    exact ⟨rfl, BW.out⟩
  · obtain ⟨n, rfl⟩ := Int.eq_ofNat_of_zero_le hin.1
    have hi : inB (n : Int) 0 40 = true := inB_iff.2 (by omega)
    have HM : ¬ n < 1 → ¬ 6 < n → Hid (manyT (boxReg (n : Nat) 3) = q) := fun h1 h6 => Lib.hid (by
      rw [← HQ.out]; exact box_many3 ⟨n, by omega⟩ (by show 1 ≤ n; omega) (by show n * 3 ≤ 24; omega))
    have hmod : ((n : Int) % 2 = 1 ∧ q = 0) ∨ ((n : Int) % 2 = 0 ∧ 1 ≤ q) := by
      have : (n : Int) % 2 = 1 ∨ (n : Int) % 2 = 0 := by omega
      rcases this with h2 | h2
      · exact .inl ⟨h2, by rw [← HQ.out]; exact threeRows_odd hi h2⟩
      · obtain ⟨m, hm⟩ : ∃ m : Nat, (n : Int) / 2 = m := ⟨n / 2, by omega⟩
        exact .inr ⟨h2, by rw [← HQ.out, threeRows_even hi h2 hm]; exact (tri3_up m).1⟩
    clear hi
    rcases hmod with ⟨h2, rfl⟩ | ⟨h2, hq1⟩
    all_goals
      try have hq0 : (q == 0) = false := by simp; omega
      by_cases h1 : n < 1
      · have h1' : (n : Int) < 1 := by omega
        clear HM
        go_wp2
        go_ret
        exact ⟨rfl, BW.out⟩
      by_cases h6 : 6 < n
      · have h6' : (6 : Int) < (n : Int) := by omega
        have h1' : ¬ (n : Int) < 1 := by omega
        clear HM
        go_wp2
        go_ret
        exact ⟨rfl, BW.out⟩
      have HM := HM h1 h6
      go_wp2_with (fail)
      refine (RegionBox_any (n : Int) 3 _).mono ?_
      rintro e w3 ⟨v3, rfl, hv3, hb⟩
      have HV3 := Lib.hid hv3
      have BW := Lib.hid (BW.out.trans (hb.mono BW.out.size))
      obtain ⟨sv, rfl, _⟩ := hv3
      clear hb
      go_wp2_with (fail)
      refine (TilingsMany_any _ _ _ HV3.out).mono ?_
      rw [HM.out]
      rintro e w4 ⟨rfl, hb⟩
      have BW := Lib.hid (BW.out.trans (hb.mono BW.out.size))
      clear hb
      go_wp2
      go_ret
      exact ⟨rfl, BW.out⟩
end Go.Proofs.Ytbjenmfoblniaaa
