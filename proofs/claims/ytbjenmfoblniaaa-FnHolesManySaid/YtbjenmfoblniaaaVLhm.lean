/- The law FnHolesMany: its walk. -/
import Derived.Test.YtbjenmfoblniaaaVWe
import Derived.Test.YtbjenmfoblniaaaVDrawD
import Derived.Test.YtbjenmfoblniaaaZe
import Derived.Test.YtbjenmfoblniaaaZc
import Derived.Test.YtbjenmfoblniaaaVWpm
import Derived.Test.YtbjenmfoblniaaaVWholes
import Derived.Test.YtbjenmfoblniaaaVWholesB
import Derived.Test.YtbjenmfoblniaaaVWholesS
set_option linter.unusedVariables false
namespace Go.Proofs.Ytbjenmfoblniaaa
open Go.RowKit Domi

theorem pmany5_is (v : Value) (r : Reg) (w : World) (h : RegV w v r) (n : Int) (hn : r.pmany = n) : Calls Try.prog 44 #[v] w (Ret (.int .i64 n) w) := by rw [← hn]; exact PartsMany_any v r w h
theorem holes5_is (v : Value) (r : Reg) (w : World) (h : RegV w v r) (n : Int) (hn : r.holesR = n) : Calls Try.prog 61 #[v] w (Ret (.int .i64 n) w) := by rw [← hn]; exact HolesMany_any v r w h
theorem sholes5_is (v : Value) (r : Reg) (w : World) (h : RegV w v r) (n : Int) (hn : r.holesR = n) : Calls Try.prog 62 #[v] w (Ret (.int .i64 n) w) := by rw [← hn]; exact sHolesMany_any v r w h
theorem RegionAt5_is (v : Value) (r : Reg) (x y : Int) (w : World) (h : RegV w v r) (hv : r.valid = true) (hx : -100 ≤ x ∧ x ≤ 100) (hy : -100 ≤ y ∧ y ≤ 100) (c : Bool) (hc : r.at_ x y = c) :
    Calls Try.prog 63 #[v, .int .i64 x, .int .i64 y] w (Ret (.bool c) w) := by
  have e : Reg.atV r x y = c := by rw [← hc]; unfold Reg.atV; rw [hv]; simp
  rw [← e]; exact RegionAt_any v r x y w h hx hy
/-- One cell's part, by what is there. -/
def evB (h e n d : Bool) : Int := (if h then 1 else 0) + (-1) * (if h && e then 1 else 0) + (-1) * (if h && n then 1 else 0) + (if h && e && n && d then 1 else 0)
theorem eulT_ix {r : Reg} {w t : Nat} (F : Fld r w t) {x y : Nat} (hx : x < w) (hy : y < t) : eulT r (y * w + x) = evB (r.at_ x y) (r.at_ (x + 1) y) (r.at_ x (y + 1)) (r.at_ (x + 1) (y + 1)) := by
  unfold eulT evB
  rw [f_ix F hx hy, F.hw, ← Int.natCast_emod, ← Int.natCast_ediv, ix_mod hx, ix_div hx]
theorem eul_bd (r : Reg) (n : Nat) : -2 * (n : Int) ≤ sumI (eulT r) n ∧ sumI (eulT r) n ≤ 2 * (n : Int) := by
  induction n with
  | zero => simp [sumI]
  | succ n ih => have := eulT_bd r n; rw [sumI]; omega
theorem holes_cases (r : Reg) : r.holesR < 0 ∧ r.holesR = -1 ∨ ∃ w t : Nat, 0 ≤ r.holesR ∧ Fld r w t := by
  cases hv : r.valid
  · rw [holesR_no hv]; exact .inl ⟨by decide, rfl⟩
  · by_cases h : r.holesR < 0
    · refine .inl ⟨h, ?_⟩
      rw [holesR_yes hv] at *
      unfold Reg.holes at *
      omega
    · exact .inr ⟨_, _, by omega, fld_of hv⟩
set_option maxRecDepth 100000 in
set_option maxHeartbeats 4000000 in
theorem FnHolesMany_walk (v : Value) (ys : List Int) (w : World) (h : Yl w v ys) (hr : ∀ i, i < ys.length → 0 ≤ ys.getD i 0 ∧ ys.getD i 0 ≤ 255) :
    Calls Try.prog 14 #[v] w (Ret (.bool true) w) := by
  have H := Lib.hid h
  have Hr := Lib.hid hr
  obtain ⟨a0, cap0, rfl, hlc0, hcm0, _⟩ := h.opened
  clear h hr
  by_cases hlen : (1048576 : Int) < (ys.length : Int)
  · go_enter Try.func14, Try.ntmps14
    go_wp2
    go_ret
    exact ⟨rfl, Below.refl _ _⟩
  go_enter Try.func14, Try.ntmps14
  go_wp2_with (fail)
  refine (DrawHolesMany_any _ ys w H.out Hr.out).mono ?_
  rintro e w1 ⟨v1, r, rfl, hv1, hsm, hb1⟩
  obtain ⟨a1, cap1, rfl, hs1, _, _⟩ := hv1.opened
  have R := RB.new hs1
  obtain ⟨W, hW⟩ : ∃ W, W = w1.alloc (.cells #[.int .i64 r.wide, .int .i64 r.tall, .slice a1 r.cells.length cap1] 29) := ⟨_, rfl⟩
  rw [← hW] at R
  have R := Lib.hid R
  have BW := Lib.hid (show Below w.heap.size w W by rw [hW]; exact hb1.alloc hb1.size _)
  have hX : w1.heap.size < W.heap.size := by rw [hW]; simp
  clear hs1 hb1 hv1
  go_wp2_with (fail)
  rw [← hW]
  clear hW
  generalize w1.heap.size = X at *
  clear hX
  have HNN := Lib.hid (holes_cases r)
  obtain ⟨n, hn⟩ : ∃ n, r.holesR = n := ⟨_, rfl⟩
  have HI := Lib.hid (fun (v : Value) (w : World) (h : RegV w v r) => holes5_is v r w h n hn)
  have HS := Lib.hid (fun (v : Value) (w : World) (h : RegV w v r) => sholes5_is v r w h n hn)
  have HN := Lib.hid hn
  rw [hn] at HNN
  have hnn : (n != n) = false := by simp
  have hee : (n == n) = true := by simp
  clear hn
  obtain ⟨x0, x1, x2⟩ := R.out.c3
  go_wp2_with (fail)
  refine (HI.out _ _ R.out.v).mono ?_
  rintro e w2 ⟨rfl, hb⟩
  have BW := Lib.hid (BW.out.trans (hb.mono BW.out.size))
  have R := Lib.hid (R.out.on hb)
  clear hb x0 x1 x2
  obtain ⟨x0, x1, x2⟩ := R.out.c3
  go_wp2_with (fail)
  refine (HS.out _ _ R.out.v).mono ?_
  rintro e w3 ⟨rfl, hb⟩
  have BW := Lib.hid (BW.out.trans (hb.mono BW.out.size))
  have R := Lib.hid (R.out.on hb)
  clear hb x0 x1 x2 HI HS
  rcases HNN.out with ⟨h1, h2⟩ | ⟨w0, t, hn0, F⟩
  · clear HN HNN
    subst h2
    go_wp2_with (fail)
    refine (alive_any _).mono ?_
    rintro e w5 ⟨rfl, hb⟩
    have BW := Lib.hid (BW.out.trans (hb.mono BW.out.size))
    clear hb
    go_wp2
    go_ret
    exact ⟨rfl, BW.out⟩
  · have HF := Lib.hid F
    have h3 : ¬ n < 0 := by omega
    have hFw := F.hw
    have hFt := F.ht
    have hw6 := F.w6
    have ht6 := F.t6
    have HLEN := Lib.hid F.len
    have HE := Lib.hid (euler_law F.hv)
    have hF1 : r.wide ≤ 6 := by omega
    have hF2 : r.tall ≤ 6 := by omega
    clear F HNN hn0
    obtain ⟨x0, x1, x2⟩ := R.out.c3
    go_wp2_with (fail)
    have W0 := Lib.hid (Below.refl w3.heap.size w3)
    have HFw := Lib.hid hFw
    have HFt := Lib.hid hFt
    clear hFw hFt
    go_loopw [5, 6] (fun s i wr => ∃ y : Nat, y ≤ t ∧ i = .int .i64 y ∧ s = .int .i64 (sumI (eulT r) (y * w0)) ∧ Below w3.heap.size w3 wr) (fun _ i _ => t - (intOf i).toNat)
    case atStart => exact ⟨0, Nat.zero_le _, rfl, by simp [sumI], Below.refl _ _⟩
    case round =>
      obtain ⟨y, hy, rfl, rfl, hbw⟩ := hrel
      have HBW := Lib.hid hbw
      have R1 := Lib.hid (R.out.on hbw)
      have BW1 := Lib.hid (BW.out.trans (hbw.mono BW.out.size))
      clear hbw x0 x1 x2
      obtain ⟨x0, x1, x2⟩ := R1.out.c3
      by_cases hyt : y < t
      · have hyt' : (y : Int) < r.tall := by have := HFt.out; omega
        have hS0 := Lib.hid (eul_bd r (y * w0))
        have hyw := Lib.hid (show y * w0 ≤ 36 from Nat.mul_le_mul (show y ≤ 6 by omega) hw6)
        go_wp2_with (fail)
        obtain ⟨wo, hwo⟩ : ∃ wo, wo = wr := ⟨_, rfl⟩
        rw [← hwo] at HBW R1 BW1 x0 x1 x2 ⊢
        clear hwo
        go_loopw [5, 7] (fun s i wr => ∃ x : Nat, x ≤ w0 ∧ i = .int .i64 x ∧ s = .int .i64 (sumI (eulT r) (y * w0 + x)) ∧ Below w3.heap.size w3 wr) (fun _ i _ => w0 - (intOf i).toNat)
        case atStart => exact ⟨0, Nat.zero_le _, rfl, rfl, HBW.out⟩
        case round =>
          obtain ⟨x, hx, rfl, rfl, hbw⟩ := hrel
          have HBW := Lib.hid hbw
          have R1 := Lib.hid (R.out.on hbw)
          have BW1 := Lib.hid (BW.out.trans (hbw.mono BW.out.size))
          clear hbw x0 x1 x2
          obtain ⟨x0, x1, x2⟩ := R1.out.c3
          by_cases hxw : x < w0
          · have hxw' : (x : Int) < r.wide := by have := HFw.out; omega
            have HSUM : Hid (sumI (eulT r) (y * w0 + (x + 1)) = sumI (eulT r) (y * w0 + x) + evB (r.at_ x y) (r.at_ (x + 1) y) (r.at_ x (y + 1)) (r.at_ (x + 1) (y + 1))) := Lib.hid (by
              rw [← eulT_ix HF.out hxw hyt]; rfl)
            have hSb := eul_bd r (y * w0 + x)
            have hyw2 : y * w0 ≤ 36 := hyw.out
            obtain ⟨S, hS⟩ : ∃ S, sumI (eulT r) (y * w0 + x) = S := ⟨_, rfl⟩
            rw [hS] at HSUM hSb ⊢
            have hSb : -100 ≤ S ∧ S ≤ 100 := by omega
            clear hS hyw2
            obtain ⟨b1, hb1⟩ : ∃ b, r.at_ x y = b := ⟨_, rfl⟩
            obtain ⟨b2, hb2⟩ : ∃ b, r.at_ (x + 1) y = b := ⟨_, rfl⟩
            obtain ⟨b3, hb3⟩ : ∃ b, r.at_ x (y + 1) = b := ⟨_, rfl⟩
            obtain ⟨b4, hb4⟩ : ∃ b, r.at_ (x + 1) (y + 1) = b := ⟨_, rfl⟩
            rw [hb1, hb2, hb3, hb4] at HSUM
            have C1 := Lib.hid (fun (v : Value) (w : World) (h : RegV w v r) => RegionAt5_is v r x y w h HF.out.hv (by omega) (by omega) b1 hb1)
            have C2 := Lib.hid (fun (v : Value) (w : World) (h : RegV w v r) => RegionAt5_is v r (x + 1) y w h HF.out.hv (by omega) (by omega) b2 hb2)
            have C3 := Lib.hid (fun (v : Value) (w : World) (h : RegV w v r) => RegionAt5_is v r x (y + 1) w h HF.out.hv (by omega) (by omega) b3 hb3)
            have C4 := Lib.hid (fun (v : Value) (w : World) (h : RegV w v r) => RegionAt5_is v r (x + 1) (y + 1) w h HF.out.hv (by omega) (by omega) b4 hb4)
            clear hb1 hb2 hb3 hb4
            go_wp2_with (fail)
            refine (C1.out _ _ R1.out.v).mono ?_
            rintro e w4 ⟨rfl, hb⟩
            have HBW := Lib.hid (HBW.out.trans (hb.mono HBW.out.size))
            have R1 := Lib.hid (R1.out.on hb)
            clear hb x0 x1 x2
            obtain ⟨x0, x1, x2⟩ := R1.out.c3
            go_wp2_with (fail)
            refine (C2.out _ _ R1.out.v).mono ?_
            rintro e w5 ⟨rfl, hb⟩
            have HBW := Lib.hid (HBW.out.trans (hb.mono HBW.out.size))
            have R1 := Lib.hid (R1.out.on hb)
            clear hb x0 x1 x2
            obtain ⟨x0, x1, x2⟩ := R1.out.c3
            go_wp2_with (fail)
            refine (C3.out _ _ R1.out.v).mono ?_
            rintro e w6 ⟨rfl, hb⟩
            have HBW := Lib.hid (HBW.out.trans (hb.mono HBW.out.size))
            have R1 := Lib.hid (R1.out.on hb)
            clear hb x0 x1 x2
            obtain ⟨x0, x1, x2⟩ := R1.out.c3
            have BB := HBW
            cases b1
            · go_wp2_with (fail)
              go_roundw
              case rel => exact ⟨x + 1, by omega, by go_num, congrArg (Value.int .i64) (by rw [HSUM.out]; simp [evB]), BB.out⟩
              case measure => simp [intOf]; omega
            · cases b2
              · cases b3
                · go_wp2_with (fail)
                  go_roundw
                  case rel => exact ⟨x + 1, by omega, by go_num, congrArg (Value.int .i64) (by rw [HSUM.out]; simp [evB]), BB.out⟩
                  case measure => simp [intOf]; omega
                · go_wp2_with (fail)
                  go_roundw
                  case rel => exact ⟨x + 1, by omega, by go_num, congrArg (Value.int .i64) (by rw [HSUM.out]; simp [evB]; try omega), BB.out⟩
                  case measure => simp [intOf]; omega
              · cases b3
                · go_wp2_with (fail)
                  go_roundw
                  case rel => exact ⟨x + 1, by omega, by go_num, congrArg (Value.int .i64) (by rw [HSUM.out]; simp [evB]; try omega), BB.out⟩
                  case measure => simp [intOf]; omega
                · go_wp2_with (fail)
                  refine (C4.out _ _ R1.out.v).mono ?_
                  rintro e w7 ⟨rfl, hb⟩
                  have BB := Lib.hid (HBW.out.trans (hb.mono HBW.out.size))
                  clear hb x0 x1 x2
                  cases b4
                  · go_wp2_with (fail)
                    go_roundw
                    case rel => exact ⟨x + 1, by omega, by go_num, congrArg (Value.int .i64) (by rw [HSUM.out]; simp [evB]; try omega), BB.out⟩
                    case measure => simp [intOf]; omega
                  · go_wp2_with (fail)
                    go_roundw
                    case rel => exact ⟨x + 1, by omega, by go_num, congrArg (Value.int .i64) (by rw [HSUM.out]; simp [evB]; try omega), BB.out⟩
                    case measure => simp [intOf]; omega
          · have e : x = w0 := by omega
            subst e
            have hxw' : ¬ (x : Int) < r.wide := by have := HFw.out; omega
            go_wp2_with (fail)
            go_roundw
            case rel => exact ⟨y + 1, by omega, by go_num, by rw [Nat.add_mul, Nat.one_mul], HBW.out⟩
            case measure => simp [intOf]; omega
      · have e : y = t := by omega
        subst e
        have hyt' : ¬ (y : Int) < r.tall := by have := HFt.out; omega
        have HEE : Hid (r.pmany - n = sumI (eulT r) (y * w0)) := Lib.hid (by
          have := HE.out
          rw [HN.out, HLEN.out, Nat.mul_comm] at this; exact this)
        have HFH := Lib.hid (show r.flipR.holesR = n by
          have hv := HF.out.hv
          rw [flipR_yes hv, holesR_yes (mir_valid hv), ← HN.out, holesR_yes hv]
          exact mir_holes hv)
        have hlb : r.cells.length ≤ 36 := by rw [HLEN.out]; exact Nat.mul_le_mul hw6 ht6
        have hpb := pmany_bd r
        have hsb := eul_bd r (y * w0)
        have hyw : y * w0 ≤ 36 := Nat.mul_le_mul (show y ≤ 6 by omega) hw6
        obtain ⟨m, hm⟩ : ∃ m, r.pmany = m := ⟨_, rfl⟩
        have HP := Lib.hid (fun (v : Value) (w : World) (h : RegV w v r) => pmany5_is v r w h m hm)
        have HH := Lib.hid (fun (v : Value) (w : World) (h : RegV w v r.flipR) => holes5_is v r.flipR w h n HFH.out)
        rw [hm] at HEE hpb
        have hee := HEE.out
        rw [← hee] at hsb ⊢
        have hmb : -1 ≤ m ∧ m ≤ 36 := by omega
        have hnb : -1000 ≤ n ∧ n ≤ 1000 := by omega
        clear hm hee hsb hpb hlb hyw HEE HFH HE HN HF HFw HFt hw6 ht6 hF1 hF2
        go_wp2_with (fail)
        refine (HP.out _ _ R1.out.v).mono ?_
        rintro e w4 ⟨rfl, hb⟩
        have BW1 := Lib.hid (BW1.out.trans (hb.mono BW1.out.size))
        have R1 := Lib.hid (R1.out.on hb)
        clear hb x0 x1 x2 HP
        obtain ⟨x0, x1, x2⟩ := R1.out.c3
        go_wp2_with (fail)
        refine (RegionFlip_any _ r _ R1.out.v).mono ?_
        rintro e w5 ⟨m1, rfl, hm1, hb⟩
        have BW1 := Lib.hid (BW1.out.trans (hb.mono BW1.out.size))
        have V := Lib.hid hm1
        clear hb hm1 x0 x1 x2
        go_wp2_with (fail)
        refine (HH.out _ _ V.out).mono ?_
        rintro e w6 ⟨rfl, hb⟩
        have BW1 := Lib.hid (BW1.out.trans (hb.mono BW1.out.size))
        clear hb V HH
        go_wp2
        go_ret
        exact ⟨rfl, BW1.out⟩
end Go.Proofs.Ytbjenmfoblniaaa
