/- The laws FnTwoRows and FnThreeRows: their walks. -/
import Derived.Test.YtbjenmfoblniaaaVWcntB
import Derived.Test.YtbjenmfoblniaaaVDrawB
import Derived.Test.YtbjenmfoblniaaaZc
set_option linter.unusedVariables false
namespace Go.Proofs.Ytbjenmfoblniaaa
open Go.RowKit Domi

theorem in_b (n lo hi : Int) (w : World) (b : Bool) (h : inB n lo hi = b) : Calls Try.prog 67 #[.int .i64 n, .int .i64 lo, .int .i64 hi] w fun e w' => e = .returned (.bool b) ∧ w = w' := by rw [← h]; exact in_any n lo hi w
theorem l1In_b (n lo hi : Int) (w : World) (b : Bool) (h : inB n lo hi = b) : Calls Try.prog 68 #[.int .i64 n, .int .i64 lo, .int .i64 hi] w fun e w' => e = .returned (.bool b) ∧ w = w' := by rw [← h]; exact l1In_any n lo hi w
theorem inB_not {n lo hi : Int} (h : ¬ (lo ≤ n ∧ n ≤ hi)) : inB n lo hi = false := by
  cases e : inB n lo hi
  · rfl
  · exact absurd (inB_iff.1 e) h
theorem box_many2 : ∀ c : Fin 7, 1 ≤ c.val → c.val * 2 ≤ 24 → manyT (boxReg (c.val : Nat) 2) = (fib2 c.val : Nat) := by
  intro c h1 h2
  have hv : (boxReg (c.val : Nat) 2).valid = true := by revert h2; revert h1; revert c; decide +kernel
  rw [← withL_bare hv]
  clear hv
  revert h2; revert h1; revert c; decide +kernel
theorem box_many3 : ∀ c : Fin 7, 1 ≤ c.val → c.val * 3 ≤ 24 → manyT (boxReg (c.val : Nat) 3) = threeRows (c.val : Nat) := by
  intro c h1 h2
  have hv : (boxReg (c.val : Nat) 3).valid = true := by revert h2; revert h1; revert c; decide +kernel
  rw [← withL_bare hv]
  clear hv
  revert h2; revert h1; revert c; decide +kernel

set_option maxHeartbeats 1000000 in
theorem TwoRows_any (c : Int) (w : World) (hc : -100 ≤ c ∧ c ≤ 100) : Calls Try.prog 16 #[.int .i64 c] w fun e w' => e = .returned (.int .i64 (twoRows c)) ∧ w = w' := by
  cases hi : inB c 0 60
  · have HR := Lib.hid (show twoRows c = -1 by unfold twoRows; rw [hi]; rfl)
    go_enter Try.func16, Try.ntmps16
    go_wp2_with (fail)
    refine (in_b _ _ _ _ false hi).mono ?_
    rintro e w1 ⟨rfl, rfl⟩
    go_wp2
    go_ret
    exact ⟨ret_int HR.out.symm, rfl⟩
  · have hin := inB_iff.1 hi
    obtain ⟨n, rfl⟩ := Int.eq_ofNat_of_zero_le hin.1
    have HR := Lib.hid (show twoRows (n : Int) = (fib2 n : Nat) by unfold twoRows; rw [hi]; rfl)
    go_enter Try.func16, Try.ntmps16
    go_wp2_with (fail)
    refine (in_b _ _ _ _ true hi).mono ?_
    rintro e w1 ⟨rfl, rfl⟩
    go_wp2_with (fail)
    go_loop [3, 4, 9] (fun a b i => ∃ k : Nat, k ≤ n ∧ i = .int .i64 k ∧ a = .int .i64 (fib2 k : Nat) ∧ b = .int .i64 (fib2 (k + 1) : Nat)) (fun _ _ i => n - (intOf i).toNat)
    case atStart => exact ⟨0, Nat.zero_le _, rfl, rfl, rfl⟩
    case round =>
      obtain ⟨k, hk, rfl, rfl, rfl⟩ := hrel
      have h1 := fib2_le k
      have h2 : 2 ^ k ≤ 2 ^ 60 := Nat.pow_le_pow_right (by omega) (by omega)
      have h3 : 2 ^ (k + 1) = 2 * 2 ^ k := by rw [Nat.pow_succ]; omega
      obtain ⟨x, hx⟩ : ∃ x, fib2 k = x := ⟨_, rfl⟩
      obtain ⟨y, hy⟩ : ∃ y, fib2 (k + 1) = y := ⟨_, rfl⟩
      have HS := Lib.hid (show fib2 (k + 1 + 1) = x + y by rw [fib2, hx, hy])
      rw [hx, hy] at h1
      have b1 : (x : Int) ≤ 1152921504606846976 := by omega
      have b2 : (y : Int) ≤ 2305843009213693952 := by omega
      have HX := Lib.hid hx
      have HY := Lib.hid hy
      rw [hx, hy]
      clear h1 h2 h3 hx hy
      by_cases hlt : k < n
      · go_wp2
        go_round
        case rel => exact ⟨k + 1, by omega, by go_num, by rw [HY.out], by rw [HS.out]; go_num⟩
        case measure => simp [intOf]; omega
      · have e : k = n := by omega
        subst e
        go_wp2
        go_ret
        exact ⟨ret_int (by rw [HR.out, HX.out]), rfl⟩
set_option maxHeartbeats 1000000 in
theorem sTwoRows_any (c : Int) (w : World) (hc : -100 ≤ c ∧ c ≤ 100) : Calls Try.prog 17 #[.int .i64 c] w fun e w' => e = .returned (.int .i64 (twoRows c)) ∧ w = w' := by
  cases hi : inB c 0 60
  · have HR := Lib.hid (show twoRows c = -1 by unfold twoRows; rw [hi]; rfl)
    go_enter Try.func17, Try.ntmps17
    go_wp2_with (fail)
    refine (l1In_b _ _ _ _ false hi).mono ?_
    rintro e w1 ⟨rfl, rfl⟩
    go_wp2
    go_ret
    exact ⟨ret_int HR.out.symm, rfl⟩
  · have hin := inB_iff.1 hi
    obtain ⟨n, rfl⟩ := Int.eq_ofNat_of_zero_le hin.1
    have HR := Lib.hid (show twoRows (n : Int) = (fib2 n : Nat) by unfold twoRows; rw [hi]; rfl)
    go_enter Try.func17, Try.ntmps17
    go_wp2_with (fail)
    refine (l1In_b _ _ _ _ true hi).mono ?_
    rintro e w1 ⟨rfl, rfl⟩
    go_wp2_with (fail)
    go_loop [3, 4, 5] (fun a b i => ∃ k : Nat, (k + 1 ≤ n ∨ k = 0) ∧ i = .int .i64 ((k : Int) + 1) ∧ a = .int .i64 (fib2 k : Nat) ∧ b = .int .i64 (fib2 (k + 1) : Nat)) (fun _ _ i => n + 1 - (intOf i).toNat)
    case atStart => exact ⟨0, .inr rfl, rfl, rfl, rfl⟩
    case round =>
      obtain ⟨k, hk, rfl, rfl, rfl⟩ := hrel
      have hk60 : k ≤ 60 := by omega
      have h1 := fib2_le k
      have h2 : 2 ^ k ≤ 2 ^ 60 := Nat.pow_le_pow_right (by omega) (by omega)
      have h3 : 2 ^ (k + 1) = 2 * 2 ^ k := by rw [Nat.pow_succ]; omega
      obtain ⟨x, hx⟩ : ∃ x, fib2 k = x := ⟨_, rfl⟩
      obtain ⟨y, hy⟩ : ∃ y, fib2 (k + 1) = y := ⟨_, rfl⟩
      have HS := Lib.hid (show fib2 (k + 1 + 1) = x + y by rw [fib2, hx, hy])
      rw [hx, hy] at h1
      have b1 : (x : Int) ≤ 1152921504606846976 := by omega
      have b2 : (y : Int) ≤ 2305843009213693952 := by omega
      have HX := Lib.hid hx
      have HY := Lib.hid hy
      rw [hx, hy]
      clear h1 h2 h3 hx hy
      by_cases hlt : k + 1 < n
      · go_wp2
        go_round
        case rel => exact ⟨k + 1, by omega, by go_num, by rw [HY.out], by rw [HS.out]; go_num⟩
        case measure => simp [intOf]; omega
      · have HE := Lib.hid (show twoRows (n : Int) = (y : Nat) by
          rw [HR.out, ← HY.out]
          rcases hk with h | h
          · rw [show n = k + 1 by omega]
          · subst h
            have : n = 0 ∨ n = 1 := by omega
            rcases this with rfl | rfl <;> rfl)
        have hge : ¬ ((k : Int) + 1 < n) := by omega
        go_wp2
        go_ret
        exact ⟨ret_int HE.out.symm, rfl⟩
set_option maxHeartbeats 400000 in
theorem DrawTwoRows_any (v : Value) (ys : List Int) (w : World) (h : Yl w v ys) (hr : ∀ i, i < ys.length → 0 ≤ ys.getD i 0 ∧ ys.getD i 0 ≤ 255) :
    Calls Try.prog 15 #[v] w (fun e w' => ∃ c : Int, e = .returned (.int .i64 c) ∧ (-2 ≤ c ∧ c ≤ 61) ∧ Below w.heap.size w w') := by
  have H := Lib.hid h
  have Hr := Lib.hid hr
  clear h hr
  go_enter Try.func15, Try.ntmps15
  go_wp2_with (fail)
  refine (open_n v ys _ H.out Hr.out).mono ?_
  rintro e w1 ⟨b, sl, zs, rfl, hb1, hb2, hr1⟩
  have Hr1 := Lib.hid hr1
  have HB := Lib.hid hb2
  clear hb2 hr1
  go_wp2_with (fail)
  refine (pick_n b sl zs 0 64 _ Hr1.out (by omega)).mono ?_
  rintro e w2 ⟨k1, rfl, hk1, hg1, hd1⟩
  have HB2 := Lib.hid (HB.out.trans (below_grown hg1 HB.out.size (by simp; omega)))
  clear hg1 hd1
  go_wp2
  go_ret
  exact ⟨k1 - 2, rfl, by omega, HB2.out⟩
set_option maxHeartbeats 400000 in
theorem DrawThreeRows_any (v : Value) (ys : List Int) (w : World) (h : Yl w v ys) (hr : ∀ i, i < ys.length → 0 ≤ ys.getD i 0 ∧ ys.getD i 0 ≤ 255) :
    Calls Try.prog 21 #[v] w (fun e w' => ∃ c : Int, e = .returned (.int .i64 c) ∧ (-2 ≤ c ∧ c ≤ 42) ∧ Below w.heap.size w w') := by
  have H := Lib.hid h
  have Hr := Lib.hid hr
  clear h hr
  go_enter Try.func21, Try.ntmps21
  go_wp2_with (fail)
  refine (open_n v ys _ H.out Hr.out).mono ?_
  rintro e w1 ⟨b, sl, zs, rfl, hb1, hb2, hr1⟩
  have Hr1 := Lib.hid hr1
  have HB := Lib.hid hb2
  clear hb2 hr1
  go_wp2_with (fail)
  refine (pick_n b sl zs 0 45 _ Hr1.out (by omega)).mono ?_
  rintro e w2 ⟨k1, rfl, hk1, hg1, hd1⟩
  have HB2 := Lib.hid (HB.out.trans (below_grown hg1 HB.out.size (by simp; omega)))
  clear hg1 hd1
  go_wp2
  go_ret
  exact ⟨k1 - 2, rfl, by omega, HB2.out⟩
theorem TwoRows_is (c m : Int) (w : World) (hc : -100 ≤ c ∧ c ≤ 100) (h : twoRows c = m) : Calls Try.prog 16 #[.int .i64 c] w fun e w' => e = .returned (.int .i64 m) ∧ w = w' := by rw [← h]; exact TwoRows_any c w hc
theorem sTwoRows_is (c m : Int) (w : World) (hc : -100 ≤ c ∧ c ≤ 100) (h : twoRows c = m) : Calls Try.prog 17 #[.int .i64 c] w fun e w' => e = .returned (.int .i64 m) ∧ w = w' := by rw [← h]; exact sTwoRows_any c w hc
theorem twoRows_at {n : Nat} (h : n ≤ 60) : twoRows n = (fib2 n : Nat) := by
  unfold twoRows; rw [inB_iff.2 (by omega)]; rfl
set_option maxRecDepth 100000 in
set_option maxHeartbeats 2000000 in
theorem FnTwoRows_walk (v : Value) (ys : List Int) (w : World) (h : Yl w v ys) (hr : ∀ i, i < ys.length → 0 ≤ ys.getD i 0 ∧ ys.getD i 0 ≤ 255) :
    Calls Try.prog 3 #[v] w (Ret (.bool true) w) := by
  have H := Lib.hid h
  have Hr := Lib.hid hr
  obtain ⟨a0, cap0, rfl, hlc0, hcm0, _⟩ := h.opened
  clear h hr
  by_cases hlen : (1048576 : Int) < (ys.length : Int)
  · go_enter Try.func3, Try.ntmps3
    go_wp2
    go_ret
    exact ⟨rfl, Below.refl _ _⟩
  go_enter Try.func3, Try.ntmps3
  go_wp2_with (fail)
  refine (DrawTwoRows_any _ ys w H.out Hr.out).mono ?_
  rintro e w1 ⟨c, rfl, hc, hb1⟩
  have BW := Lib.hid hb1
  clear hb1
  obtain ⟨q, hq⟩ : ∃ q, twoRows c = q := ⟨_, rfl⟩
  have HQ := Lib.hid hq
  clear hq
  go_wp2_with (fail)
  refine (TwoRows_is c q _ (by omega) HQ.out).mono ?_
  rintro e w2 ⟨rfl, rfl⟩
  go_wp2_with (fail)
  refine (sTwoRows_is c q _ (by omega) HQ.out).mono ?_
  rintro e w2 ⟨rfl, rfl⟩
  by_cases hin : 0 ≤ c ∧ c ≤ 60
  rotate_left
  · have hq1 : q = -1 := by rw [← HQ.out]; unfold twoRows; rw [inB_not hin]; rfl
    subst hq1
    go_wp2_with (fail)
    refine (alive_any _).mono ?_
    rintro e w7 ⟨rfl, hb⟩
    have BW := Lib.hid (BW.out.trans (hb.mono BW.out.size))
    clear hb
    go_wp2
    go_ret
    exact ⟨rfl, BW.out⟩
  · obtain ⟨n, rfl⟩ := Int.eq_ofNat_of_zero_le hin.1
    have hq1 : q = (fib2 n : Nat) := by rw [← HQ.out]; exact twoRows_at (by omega)
    have h60 : (2 : Nat) ^ n ≤ 2 ^ 60 := Nat.pow_le_pow_right (by omega) (by omega)
    have hq0 : 0 ≤ q ∧ q ≤ 1152921504606846976 := by
      have := (fib2_le n).1
      omega
    have HF := Lib.hid hq1
    clear hq1 h60
    go_wp2_with (fail)
    go_loop [5] (fun i => ∃ k : Nat, 1 ≤ k ∧ k ≤ n + 1 ∧ i = .int .i64 k) (fun i => n + 1 - (intOf i).toNat)
    case atStart => exact ⟨1, by omega, by omega, rfl⟩
    case round =>
      obtain ⟨k, hk1, hkn, rfl⟩ := hrel
      by_cases hlt : k < n
      · have hcut := fib2_two hk1 hlt
        have HA := Lib.hid (twoRows_at (n := k) (by omega))
        have HB := Lib.hid (show twoRows ((n : Int) - k) = (fib2 (n - k) : Nat) by rw [show (n : Int) - k = ((n - k : Nat) : Int) by omega]; exact twoRows_at (by omega))
        have HC := Lib.hid (show twoRows ((k : Int) - 1) = (fib2 (k - 1) : Nat) by rw [show (k : Int) - 1 = ((k - 1 : Nat) : Int) by omega]; exact twoRows_at (by omega))
        have HD := Lib.hid (show twoRows ((n : Int) - k - 1) = (fib2 (n - k - 1) : Nat) by rw [show (n : Int) - k - 1 = ((n - k - 1 : Nat) : Int) by omega]; exact twoRows_at (by omega))
        generalize fib2 k = x1 at *
        generalize fib2 (n - k) = x2 at *
        generalize fib2 (k - 1) = x3 at *
        generalize fib2 (n - k - 1) = x4 at *
        have hsum : (x1 : Int) * x2 + (x3 : Int) * x4 = q := by rw [HF.out, ← hcut]; push_cast; rfl
        have p1 : 0 ≤ (x1 : Int) * x2 := by have := Int.natCast_nonneg (x1 * x2); push_cast at this; exact this
        have p2 : 0 ≤ (x3 : Int) * x4 := by have := Int.natCast_nonneg (x3 * x4); push_cast at this; exact this
        clear hcut
        go_wp2_with (fail)
        refine (TwoRows_is _ _ _ (by omega) HA.out).mono ?_
        rintro e w2 ⟨rfl, rfl⟩
        go_wp2_with (fail)
        refine (TwoRows_is _ _ _ (by omega) HB.out).mono ?_
        rintro e w2 ⟨rfl, rfl⟩
        go_wp2_with (fail)
        refine (TwoRows_is _ _ _ (by omega) HC.out).mono ?_
        rintro e w2 ⟨rfl, rfl⟩
        go_wp2_with (fail)
        refine (TwoRows_is _ _ _ (by omega) HD.out).mono ?_
        rintro e w2 ⟨rfl, rfl⟩
        go_wp2
        go_round
        case rel => exact ⟨k + 1, by omega, by omega, by go_num⟩
        case measure => simp [intOf]; omega
      · by_cases h1 : n < 1
        · go_wp2
          go_ret
          exact ⟨rfl, BW.out⟩
        by_cases h6 : 6 < n
        · go_wp2
          go_ret
          exact ⟨rfl, BW.out⟩
        have HM := Lib.hid (show manyT (boxReg (n : Nat) 2) = q by rw [HF.out]; exact box_many2 ⟨n, by omega⟩ (by show 1 ≤ n; omega) (by show n * 2 ≤ 24; omega))
        go_wp2_with (fail)
        refine (RegionBox_any (n : Int) 2 _).mono ?_
        rintro e w3 ⟨v3, rfl, hv3, hb⟩
        have HV3 := Lib.hid hv3
        have BW := Lib.hid (BW.out.trans (hb.mono BW.out.size))
        obtain ⟨sv, rfl, _⟩ := hv3
        clear hb
        go_wp2_with (fail)
        refine (TilingsMany_any _ _ _ HV3.out).mono ?_
        rw [HM.out]
        rintro e w4 ⟨rfl, hb⟩
        have BW := Lib.hid (BW.out.trans (hb.mono BW.out.size))
        clear hb
        go_wp2
        go_ret
        exact ⟨rfl, BW.out⟩
end Go.Proofs.Ytbjenmfoblniaaa
