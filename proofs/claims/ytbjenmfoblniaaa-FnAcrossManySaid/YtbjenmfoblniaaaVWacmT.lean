/- Walks: AcrossMany, AcrossSum of the reference, for all arguments. -/
import Derived.Test.YtbjenmfoblniaaaVWacmS
import Derived.Test.YtbjenmfoblniaaaVWacmI
set_option linter.unusedVariables false
namespace Go.Proofs.Ytbjenmfoblniaaa
open Go.RowKit Domi

set_option maxHeartbeats 400000 in
theorem sAcrossMany_no1 (v : Value) (r : Reg) (c s : Int) (w : World) (h : RegV w v r) (hv : r.valid = false) : Calls Try.prog 52 #[v, .int .i64 c, .int .i64 s] w (Ret (.int .i64 (-1)) w) := by
  obtain ⟨a, cap, rfl, hs, hlc, hcm⟩ := h.opened
  have R := Lib.hid (RB.new hs)
  have B0 := Lib.hid (below_alloc w (.cells #[.int .i64 r.wide, .int .i64 r.tall, .slice a r.cells.length cap] 29))
  clear h hs
  go_enter Try.func52, Try.ntmps52
  go_wp2_with (fail)
  refine (svalid9_is _ r _ R.out.v false hv).mono ?_
  rintro e w1 ⟨rfl, hb⟩
  have B1 := Lib.hid (B0.out.trans (hb.mono B0.out.size))
  have R1 := Lib.hid (R.out.on hb)
  clear hb R
  go_wp2
  go_ret
  exact ⟨rfl, B1.out⟩

set_option maxHeartbeats 400000 in
theorem sAcrossMany_no2 (v : Value) (r : Reg) (c s : Int) (w : World) (h : RegV w v r) (hv : r.valid = true) (hc : inB c 1 (r.wide - 1) = false) : Calls Try.prog 52 #[v, .int .i64 c, .int .i64 s] w (Ret (.int .i64 (-1)) w) := by
  obtain ⟨a, cap, rfl, hs, hlc, hcm⟩ := h.opened
  have R := Lib.hid (RB.new hs)
  have B0 := Lib.hid (below_alloc w (.cells #[.int .i64 r.wide, .int .i64 r.tall, .slice a r.cells.length cap] 29))
  obtain ⟨b1, b2, b3, b4⟩ := Reg.valid_iff.1 hv
  have wsb : IntKind.i64.wrap (r.wide - 1) = r.wide - 1 := IntWalk.i64_in _ (by omega)
  clear b3 b4
  have HC := Lib.hid hc
  clear h hs hc
  go_enter Try.func52, Try.ntmps52
  go_wp2_with (fail)
  refine (svalid9_is _ r _ R.out.v true hv).mono ?_
  rintro e w1 ⟨rfl, hb⟩
  have B1 := Lib.hid (B0.out.trans (hb.mono B0.out.size))
  have R1 := Lib.hid (R.out.on hb)
  clear hb R
  obtain ⟨x0, x1, x2⟩ := R1.out.c3
  go_wp2_with (fail)
  refine (l1In9_is _ _ _ _ false HC.out).mono ?_
  rintro e w' ⟨rfl, rfl⟩
  go_wp2
  go_ret
  exact ⟨rfl, B1.out⟩

set_option maxHeartbeats 400000 in
theorem sAcrossMany_no3 (v : Value) (r : Reg) (t : Nat) (c s : Int) (w : World) (h : RegV w v r) (hv : r.valid = true) (hc : inB c 1 (r.wide - 1) = true) (ht : r.tall = t) (hs3 : inB s 0 ((2 : Int) ^ t - 1) = false) : Calls Try.prog 52 #[v, .int .i64 c, .int .i64 s] w (Ret (.int .i64 (-1)) w) := by
  obtain ⟨a, cap, rfl, hs, hlc, hcm⟩ := h.opened
  have R := Lib.hid (RB.new hs)
  have B0 := Lib.hid (below_alloc w (.cells #[.int .i64 r.wide, .int .i64 r.tall, .slice a r.cells.length cap] 29))
  obtain ⟨b1, b2, b3, b4⟩ := Reg.valid_iff.1 hv
  have wsb : IntKind.i64.wrap (r.wide - 1) = r.wide - 1 := IntWalk.i64_in _ (by omega)
  clear b3 b4
  have HC := Lib.hid hc
  obtain ⟨q, hq0, hq1, hq2, hq3⟩ := pow_in (t := t) (by omega)
  rw [hq1] at hs3
  have HS3 := Lib.hid hs3
  have HT := Lib.hid ht
  have ht6 : t ≤ 6 := by omega
  have wq : IntKind.i64.wrap ((q : Int) - 1) = (q : Int) - 1 := IntWalk.i64_in _ (by omega)
  have wq1 : IntKind.i64.wrap (q : Int) = (q : Int) := IntWalk.i64_in _ (by omega)
  clear h hs hc hs3 ht
  go_enter Try.func52, Try.ntmps52
  go_wp2_with (fail)
  refine (svalid9_is _ r _ R.out.v true hv).mono ?_
  rintro e w1 ⟨rfl, hb⟩
  have B1 := Lib.hid (B0.out.trans (hb.mono B0.out.size))
  have R1 := Lib.hid (R.out.on hb)
  clear hb R
  obtain ⟨x0, x1, x2⟩ := R1.out.c3
  rw [HT.out] at x1
  go_wp2_with (fail)
  refine (l1In9_is _ _ _ _ true HC.out).mono ?_
  rintro e w' ⟨rfl, rfl⟩
  go_wp2_with (fail)
  refine (l1In9_is _ _ _ _ false HS3.out).mono ?_
  rintro e w' ⟨rfl, rfl⟩
  go_wp2
  go_ret
  exact ⟨rfl, B1.out⟩

theorem sAcrossMany_is (v : Value) (r : Reg) (c s : Int) (w : World) (h : RegV w v r) (n : Int) (hn : acMany r c s = n) : Calls Try.prog 52 #[v, .int .i64 c, .int .i64 s] w (Ret (.int .i64 n) w) := by
  cases hv : r.valid
  · rw [acMany_no1 hv] at hn; subst hn; exact sAcrossMany_no1 v r c s w h hv
  cases hc : inB c 1 (r.wide - 1)
  · rw [acMany_no2 hc] at hn; subst hn; exact sAcrossMany_no2 v r c s w h hv hc
  have F := fld_of hv
  cases hs : inB s 0 ((2 : Int) ^ r.tall.toNat - 1)
  · rw [acMany_no3 hs] at hn; subst hn; exact sAcrossMany_no3 v r r.tall.toNat c s w h hv hc F.ht hs
  have h1 := inB_iff.1 hc
  have h2 := inB_iff.1 hs
  obtain ⟨d, rfl⟩ : ∃ d : Nat, c = (d : Int) := ⟨c.toNat, by omega⟩
  obtain ⟨u, rfl⟩ : ∃ d : Nat, s = (d : Int) := ⟨s.toNat, by omega⟩
  rw [acMany_yes hv hc hs] at hn
  subst hn
  have e : (2 : Int) ^ r.tall.toNat = ((2 ^ r.tall.toNat : Nat) : Int) := (Int.natCast_pow 2 _).symm
  rw [e] at h2
  have hw := F.hw
  exact sAcrossMany_yes v r _ _ d u w h F ⟨by omega, by omega⟩ (by omega) _ rfl
set_option maxRecDepth 100000 in
set_option maxHeartbeats 1000000 in
theorem sAcrossSum_is (v : Value) (r : Reg) (c : Int) (w : World) (h : RegV w v r) (n : Int) (hn : acSumR r c = n) : Calls Try.prog 49 #[v, .int .i64 c] w (Ret (.int .i64 n) w) := by
  obtain ⟨a, cap, rfl, hs, hlc, hcm⟩ := h.opened
  have R := Lib.hid (RB.new hs)
  have B0 := Lib.hid (below_alloc w (.cells #[.int .i64 r.wide, .int .i64 r.tall, .slice a r.cells.length cap] 29))
  have HN := Lib.hid hn
  have HM := Lib.hid (fun (v : Value) (s : Int) (w : World) (h : RegV w v r) (n : Int) (hn : acMany r c s = n) => sAcrossMany_is v r c s w h n hn)
  clear h hs hn
  go_enter Try.func49, Try.ntmps49
  go_wp2_with (fail)
  cases hl : linedB r c
  · have e1 : acMany r c 0 = -1 := by unfold acMany; unfold linedB at hl; rw [hl]; rfl
    have E : n = -1 := by rw [← HN.out]; unfold acSumR; unfold linedB at hl; rw [hl]; rfl
    subst E
    refine (HM.out _ 0 _ R.out.v _ e1).mono ?_
    rintro e w1 ⟨rfl, hb⟩
    have B1 := Lib.hid (B0.out.trans (hb.mono B0.out.size))
    clear hb
    go_wp2
    go_ret
    exact ⟨rfl, B1.out⟩
  unfold linedB at hl
  rw [Bool.and_eq_true] at hl
  obtain ⟨hv, hc⟩ := hl
  have F := fld_of hv
  obtain ⟨t, ht⟩ : ∃ x, r.tall.toNat = x := ⟨_, rfl⟩
  have hFt := F.ht
  have ht6 := F.t6
  rw [ht] at hFt ht6
  obtain ⟨q, hq0, hq1, hq2, hq3⟩ := pow_in ht6
  have hc2 := inB_iff.1 hc
  obtain ⟨d, rfl⟩ : ∃ d : Nat, c = (d : Int) := ⟨c.toNat, by omega⟩
  have HAC : Hid (∀ s : Nat, s < q → acMany r (d : Int) (s : Int) = (acCount r d s : Int)) := Lib.hid fun s hs => acMany_yes hv hc (inB_iff.2 (by rw [ht, hq1]; omega))
  have HSU : Hid (acSum r d q = n) := Lib.hid (by rw [← HN.out, acSumR_yes hv hc, ← acSum_all hv d, ht, hq0])
  have HST : Hid (∀ s, acSum r d (s + 1) = acSum r d s + (acCount r d s : Int)) := Lib.hid fun s => rfl
  have HSB : Hid (∀ s, 0 ≤ acSum r d s ∧ acSum r d s ≤ 1099511627776) := Lib.hid fun s => by
    have h1 := acSum_mono (r := r) (col := d) s
    have h2 := manyT_bd hv
    rw [manyT_yes hv] at h2
    omega
  have HFt := Lib.hid hFt
  have hcn : (0 : Int) ≤ (acCount r d 0 : Int) := by omega
  have wq1 : IntKind.i64.wrap (q : Int) = (q : Int) := IntWalk.i64_in _ (by omega)
  clear F hFt ht hv hc HN hc2 hq0
  have e0 := HAC.out 0 (by omega)
  generalize acCount r d 0 = n0 at *
  refine (HM.out _ 0 _ R.out.v _ e0).mono ?_
  rintro e w1 ⟨rfl, hb⟩
  have B1 := Lib.hid (B0.out.trans (hb.mono B0.out.size))
  have R1 := Lib.hid (R.out.on hb)
  have hlt0 : ¬ ((n0 : Int) < 0) := by omega
  clear hb R e0
  go_wp2_with (fail)
  go_loopw [5, 6] (fun m i wr => ∃ k : Nat, k ≤ q ∧ i = .int .i64 k ∧ m = .int .i64 (acSum r d k) ∧ Below w1.heap.size w1 wr) (fun _ i _ => q - (intOf i).toNat)
  case atStart => exact ⟨0, Nat.zero_le _, rfl, rfl, Below.refl _ _⟩
  case round =>
    obtain ⟨k, hk, rfl, rfl, hbw⟩ := hrel
    have HBW := Lib.hid hbw
    have R2 := Lib.hid (R1.out.on hbw)
    have B2 := Lib.hid (B1.out.trans (hbw.mono B1.out.size))
    clear hbw
    obtain ⟨x0, x1, x2⟩ := R2.out.c3
    have x1' := x1
    rw [HFt.out] at x1
    clear x1'
    by_cases hlt : k < q
    · have hlt' : (k : Int) < (q : Int) := by omega
      have b1 := HSB.out k
      have b2 := HSB.out (k + 1)
      have hst := HST.out k
      have hac := HAC.out k hlt
      generalize acCount r d k = z at *
      go_wp2_with (fail)
      refine (HM.out _ k _ (by rw [← HFt.out]; exact R2.out.v) _ hac).mono ?_
      rintro e w3 ⟨rfl, hb⟩
      have HB3 := Lib.hid (HBW.out.trans (hb.mono HBW.out.size))
      have wadd : IntKind.i64.wrap (acSum r d k + (z : Int)) = acSum r d k + (z : Int) := IntWalk.i64_in _ (by omega)
      have HSTK := Lib.hid hst
      clear hb x0 x1 x2 hst hac
      go_wp2
      go_roundw
      case rel => exact ⟨k + 1, by omega, by go_num, by rw [HSTK.out], HB3.out⟩
      case measure => simp [intOf]; omega
    · have e : k = q := by omega
      subst e
      rw [HSU.out]
      go_wp2
      go_ret
      exact ⟨rfl, B2.out⟩
end Go.Proofs.Ytbjenmfoblniaaa
