/- The law FnTilingsMany: its walk. -/
import Derived.Test.YtbjenmfoblniaaaVDrawE
import Derived.Test.YtbjenmfoblniaaaVWprod
import Derived.Test.YtbjenmfoblniaaaVWwith
import Derived.Test.YtbjenmfoblniaaaVWtilsC
import Derived.Test.YtbjenmfoblniaaaVWd
import Derived.Test.YtbjenmfoblniaaaVLaw
set_option linter.unusedVariables false
namespace Go.Proofs.Ytbjenmfoblniaaa
open Go.RowKit Domi

/-- The sum over the first directions. -/
def wsum (r : Reg) (c : Int) : Nat → Int
  | 0 => 0
  | m + 1 => wsum r c m + withT r c ((m : Int) + 1)
theorem withT_nn {r : Reg} (hv : r.valid = true) (c way : Int) : 0 ≤ withT r c way := by
  unfold withT; rw [if_pos hv]; split <;> omega
theorem wsum_bd {r : Reg} (hv : r.valid = true) (c : Int) (m : Nat) : 0 ≤ wsum r c m ∧ wsum r c m ≤ m * manyT r := by
  induction m with
  | zero => simp [wsum]
  | succ m ih =>
    have h1 := withT_nn hv c ((m : Int) + 1)
    have h2 := with_le hv c ((m : Int) + 1)
    rw [wsum]
    push_cast
    rw [Int.add_mul]
    omega
theorem wsum_four {r : Reg} (hv : r.valid = true) (k : Nat) : wsum r k 4 = if r.f k then manyT r else 0 := by
  rw [← with_sum hv k]
  simp only [wsum]
  simp
theorem all_len (v : Value) (q : Reg) (w : World) (h : RegV w v q) (n : Nat) (hn : (tilsR q).length = n) : Calls Try.prog 28 #[v] w fun e w' => ∃ a c, e = .returned (.slice a n c) ∧ (n ≤ c ∧ c ≤ 9223372036854775807) ∧ Below w.heap.size w w' :=
  (TilingsAll_any v q w h).mono fun e w' ⟨u, he, hu, hb⟩ => by
    obtain ⟨a, c, rfl, h1, h2, _⟩ := hu.opened
    rw [hn] at he h1
    exact ⟨a, c, he, ⟨h1, h2⟩, hb⟩
set_option maxRecDepth 100000 in
set_option maxHeartbeats 4000000 in
theorem FnTilingsMany_walk (v : Value) (ys : List Int) (w : World) (h : Yl w v ys) (hr : ∀ i, i < ys.length → 0 ≤ ys.getD i 0 ∧ ys.getD i 0 ≤ 255) :
    Calls Try.prog 5 #[v] w (Ret (.bool true) w) := by
  have H := Lib.hid h
  have Hr := Lib.hid hr
  obtain ⟨a0, cap0, rfl, hlc0, hcm0, _⟩ := h.opened
  clear h hr
  by_cases hlen : (1048576 : Int) < (ys.length : Int)
  · go_enter Try.func5, Try.ntmps5
    go_wp2
    go_ret
    exact ⟨rfl, Below.refl _ _⟩
  go_enter Try.func5, Try.ntmps5
  go_wp2_with (fail)
  refine (DrawTilingsMany_any _ ys w H.out Hr.out).mono ?_
  rintro e w1 ⟨v1, r, rfl, hv1, hsm, hb1⟩
  obtain ⟨a1, cap1, rfl, hs1, _, _⟩ := hv1.opened
  have R := RB.new hs1
  obtain ⟨W, hW⟩ : ∃ W, W = w1.alloc (.cells #[.int .i64 r.wide, .int .i64 r.tall, .slice a1 r.cells.length cap1] 29) := ⟨_, rfl⟩
  rw [← hW] at R
  have R := Lib.hid R
  have BW := Lib.hid (show Below w.heap.size w W by rw [hW]; exact hb1.alloc hb1.size _)
  have hX : w1.heap.size < W.heap.size := by rw [hW]; simp
  clear hs1 hb1 hv1
  go_wp2_with (fail)
  rw [← hW]
  clear hW
  generalize w1.heap.size = X at *
  clear hX
  obtain ⟨n, hn⟩ : ∃ n, manyT r = n := ⟨_, rfl⟩
  have HI := fun (v : Value) (w : World) (h : RegV w v r) => TilingsMany_any v r w h
  have HS := fun (v : Value) (w : World) (h : RegV w v r) => sTilingsMany_any v r w h
  have HP := fun (v : Value) (w : World) (h : RegV w v r) => PartsProduct_any v r w h
  rw [prodR_is] at HP
  rw [hn] at HI HS HP
  have HI := Lib.hid HI
  have HS := Lib.hid HS
  have HP := Lib.hid HP
  have HN := Lib.hid hn
  have hnn : (n != n) = false := by simp
  have hee : (n == n) = true := by simp
  clear hn
  obtain ⟨x0, x1, x2⟩ := R.out.c3
  have sX := R.out.lt
  go_wp2_with (fail)
  refine (HI.out _ _ R.out.v).mono ?_
  rintro e w2 ⟨rfl, hb⟩
  have BW := Lib.hid (BW.out.trans (hb.mono BW.out.size))
  have R := Lib.hid (R.out.on hb)
  clear hb
  clear x0 x1 x2 sX
  obtain ⟨x0, x1, x2⟩ := R.out.c3
  have sX := R.out.lt
  go_wp2_with (fail)
  refine (HS.out _ _ R.out.v).mono ?_
  rintro e w3 ⟨rfl, hb⟩
  have BW := Lib.hid (BW.out.trans (hb.mono BW.out.size))
  have R := Lib.hid (R.out.on hb)
  clear hb
  clear x0 x1 x2 sX
  cases hv : r.valid
  · have hn1 : n = -1 := by rw [← HN.out]; exact manyT_no hv
    have HV := Lib.hid hv
    clear hv HN HI HS HP
    subst hn1
    obtain ⟨x0, x1, x2⟩ := R.out.c3
    have sX := R.out.lt
    go_wp2_with (fail)
    refine (RegionValid_any _ r _ R.out.v).mono ?_
    rw [HV.out]
    rintro e w5 ⟨rfl, hb⟩
    have BW := Lib.hid (BW.out.trans (hb.mono BW.out.size))
    have R := Lib.hid (R.out.on hb)
    clear hb
    go_wp2_with (fail)
    refine (alive_any _).mono ?_
    rintro e w4 ⟨rfl, hb⟩
    have BW := Lib.hid (BW.out.trans (hb.mono BW.out.size))
    clear hb
    go_wp2
    go_ret
    exact ⟨rfl, BW.out⟩
  · have hn0 : 0 ≤ n ∧ n ≤ 1099511627776 := by rw [← HN.out]; exact manyT_bd hv
    have hl36 : 0 < r.cells.length ∧ r.cells.length ≤ 36 := by
      obtain ⟨b1, b2, b3, b4⟩ := Reg.valid_iff.1 hv
      have := area_in b1 b2; omega
    have HV := Lib.hid hv
    have HLn : Hid (((tilsR r).length : Int) = n) := Lib.hid (by rw [← HN.out, manyT_yes hv])
    clear hv
    go_wp2_with (fail)
    go_loopw [5] (fun i wr => ∃ k : Nat, k ≤ r.cells.length ∧ i = .int .i64 k ∧ Below w3.heap.size w3 wr) (fun i _ => r.cells.length - (intOf i).toNat)
    case atStart => exact ⟨0, Nat.zero_le _, rfl, Below.refl _ _⟩
    case round =>
      obtain ⟨k, hk, rfl, hbw⟩ := hrel
      have HBW := Lib.hid hbw
      have R := Lib.hid (R.out.on hbw)
      have BW := Lib.hid (BW.out.trans (hbw.mono BW.out.size))
      clear hbw
      obtain ⟨x0, x1, x2⟩ := R.out.c3
      have sX := R.out.lt
      by_cases hlt : k < r.cells.length
      · go_wp2_with (fail)
        clear x0 x1 x2 sX
        go_loopw [6, 7] (fun s i wq => ∃ m : Nat, m ≤ 4 ∧ i = .int .i64 ((m : Int) + 1) ∧ s = .int .i64 (wsum r k m) ∧ Below wr.heap.size wr wq) (fun _ i _ => 6 - (intOf i).toNat)
        case atStart => exact ⟨0, by omega, rfl, rfl, Below.refl _ _⟩
        case round =>
          obtain ⟨m, hm, rfl, rfl, hbw⟩ := hrel
          have HBQ := Lib.hid hbw
          have R := Lib.hid (R.out.on hbw)
          have BW := Lib.hid (BW.out.trans (hbw.mono BW.out.size))
          clear hbw
          obtain ⟨x0, x1, x2⟩ := R.out.c3
          have sX := R.out.lt
          by_cases hm4 : m < 4
          · have hb1 := wsum_bd HV.out k m
            have hb2 := withT_nn HV.out k ((m : Int) + 1)
            have hb3 := with_le HV.out k ((m : Int) + 1)
            have hb4 : (m : Int) * manyT r ≤ 4 * manyT r := Int.mul_le_mul_of_nonneg_right (by omega) (by rw [HN.out]; exact hn0.1)
            rw [HN.out] at hb1 hb3 hb4
            have hb5 : wsum r k m ≤ 4 * n := by omega
            have hb6 := hb1.1
            have HE : Hid (wsum r k (m + 1) = wsum r k m + withT r k ((m : Int) + 1)) := Lib.hid rfl
            clear hb1 hb4
            go_wp2_with (fail)
            refine (TilingsWith_any _ r k ((m : Int) + 1) _ R.out.v).mono ?_
            rintro e w6 ⟨rfl, hb⟩
            have HB6 := Lib.hid (HBQ.out.trans (hb.mono HBQ.out.size))
            clear hb x0 x1 x2 sX
            generalize withT r k ((m : Int) + 1) = t at *
            generalize wsum r k m = S at *
            go_wp2
            go_roundw
            case rel => exact ⟨m + 1, by omega, by go_num, by rw [HE.out], HB6.out⟩
            case measure => simp [intOf]; omega
          · have e4 : m = 4 := by omega
            subst e4
            rw [wsum_four HV.out, HN.out]
            obtain ⟨_, _, _, b, o, rfl, hsc, hbc⟩ := bl_cell R.out.bl hlt
            clear hm4 hm
            have HBX := Lib.hid (HBW.out.trans (HBQ.out.mono HBW.out.size))
            cases hfk : r.cells.getD k false
            · have hz : (if r.f k = true then n else 0) = 0 := by rw [show r.f k = false from hfk]; rfl
              rw [hz]
              rw [hfk] at hbc
              clear hfk hz
              go_wp2
              go_roundw
              case rel => exact ⟨k + 1, by omega, by go_num, HBX.out⟩
              case measure => simp [intOf]; omega
            · have hz : (if r.f k = true then n else 0) = n := by rw [show r.f k = true from hfk]; rfl
              rw [hz]
              rw [hfk] at hbc
              clear hfk hz
              go_wp2
              go_roundw
              case rel => exact ⟨k + 1, by omega, by go_num, HBX.out⟩
              case measure => simp [intOf]; omega
      · go_wp2_with (fail)
        refine (all_len _ r _ R.out.v _ rfl).mono ?_
        rintro e w7 ⟨a7, c7, rfl, hc7, hb⟩
        have R := Lib.hid (R.out.on hb)
        have BW := Lib.hid (BW.out.trans (hb.mono BW.out.size))
        clear hb x0 x1 x2 sX
        have hln := HLn.out
        generalize (tilsR r).length = N at *
        subst hln
        obtain ⟨x0, x1, x2⟩ := R.out.c3
        have sX := R.out.lt
        go_wp2_with (fail)
        refine (HP.out _ _ R.out.v).mono ?_
        rintro e w8 ⟨rfl, hb⟩
        have BW := Lib.hid (BW.out.trans (hb.mono BW.out.size))
        clear hb
        go_wp2
        go_ret
        exact ⟨rfl, BW.out⟩
end Go.Proofs.Ytbjenmfoblniaaa
