/- Walk: the reference's l4Edge. -/
import Derived.Test.YtdggcfpkbmdllaaVWhokS
set_option linter.unusedVariables false
namespace Go.Proofs.Ytdggcfpkbmdllaa
open Go.RowKit Domi

/-- Six results. -/
theorem results_six {fn : Func} {t u v x y z : Tmp} (h : fn.results = #[.tmp t, .tmp u, .tmp v, .tmp x, .tmp y, .tmp z]) (tmps : Array Value) (P : Program) (w : World) :
    (results fn tmps).run P w = .ok (.tuple #[tmps.getD t undef, tmps.getD u undef, tmps.getD v undef, tmps.getD x undef, tmps.getD y undef, tmps.getD z undef]) w := by
  simp [results, h]
set_option maxRecDepth 100000 in
set_option maxHeartbeats 2000000 in
theorem l4Edge_is (v : Value) (r : Reg) (w0 t : Nat) (F : Fld r w0 t) (w : World) (h : RegV w v r) (k : Nat) (hk : k < r.cor) (nn : Bool) (s : Sd) (hs : s = if nn then sN w0 k else sE w0 k) (b1 b2 : Bool) (h1 : r.at_ s.lx s.ly = b1) (h2 : r.at_ s.rx s.ry = b2) (dk : Bool) (hdk : s.dk = dk) :
    Calls Try.prog 71 #[v, .int .i64 (k : Int), .bool nn] w fun e w' => ∃ p q : Int, e = .returned (.tuple #[.int .i64 s.tt, .bool (b1 || b2), .bool (b1 && b2), .int .i64 p, .int .i64 q, .bool dk]) ∧ Below w.heap.size w w' := by
  obtain ⟨a, cap, rfl, hsl, hlc, hcm⟩ := h.opened
  have R := RB.new hsl
  have B0 := below_alloc w (.cells #[.int .i64 r.wide, .int .i64 r.tall, .slice a r.cells.length cap] 28)
  obtain ⟨W, hW⟩ : ∃ W, W = w.alloc (.cells #[.int .i64 r.wide, .int .i64 r.tall, .slice a r.cells.length cap] 28) := ⟨_, rfl⟩
  rw [← hW] at R B0
  have R := Lib.hid R
  have BW := Lib.hid B0
  have hw6 := F.w6
  have ht6 := F.t6
  rw [cor_is F] at hk
  have hx : k % (w0 + 1) < w0 + 1 := Nat.mod_lt _ (by omega)
  have hy : k / (w0 + 1) < t + 1 := Nat.div_lt_of_lt_mul hk
  have h49 : (w0 + 1) * (t + 1) ≤ 7 * 7 := Nat.mul_le_mul (by omega) (by omega)
  have hk49 : k < 49 := by omega
  have hrem : (k : Int).tmod (r.wide + 1) = ((k % (w0 + 1) : Nat) : Int) := by rw [F.hw]; rfl
  have hquo : (k : Int).tdiv (r.wide + 1) = ((k / (w0 + 1) : Nat) : Int) := by rw [F.hw]; rfl
  have hrem2 : (k : Int) % (r.wide + 1) = ((k % (w0 + 1) : Nat) : Int) := by rw [F.hw]; rfl
  have hquo2 : (k : Int) / (r.wide + 1) = ((k / (w0 + 1) : Nat) : Int) := by rw [F.hw]; rfl
  have hxb : k % (w0 + 1) ≤ 6 := by omega
  have hyb : k / (w0 + 1) ≤ 6 := by omega
  have hmulA : ∀ y : Nat, y < t + 1 → 0 ≤ (y : Int) * r.wide ∧ (y : Int) * r.wide ≤ 36 := fun y hy => by
    have e : (y : Int) * r.wide = ((y * w0 : Nat) : Int) := by rw [F.hw]; push_cast; rfl
    have : y * w0 ≤ 6 * 6 := Nat.mul_le_mul (by omega) hw6
    omega
  have hmulB : ∀ y : Nat, y < t + 1 → -6 ≤ ((y : Int) - 1) * r.wide ∧ ((y : Int) - 1) * r.wide ≤ 36 := fun y hy => by
    have := hmulA y hy
    have := F.hw
    rw [Int.sub_mul, Int.one_mul]
    omega
  cases nn
  · have hs' : s = sE w0 k := by simpa using hs
    subst hs'
    replace hdk : decide ((((k % (w0 + 1) : Nat) : Int) + ((k / (w0 + 1) : Nat) : Int)) % 2 = 0) = dk := hdk
    simp only [sE] at h1 h2 ⊢
    clear hs
    obtain ⟨x, hxd⟩ : ∃ x, k % (w0 + 1) = x := ⟨_, rfl⟩
    obtain ⟨y, hyd⟩ : ∃ y, k / (w0 + 1) = y := ⟨_, rfl⟩
    rw [hxd] at hx hrem hrem2 hxb h1 h2 hdk
    rw [hyd] at hy hquo hquo2 hyb h1 h2 hdk
    clear hxd hyd
    have hwq : wrap64 ((k : Int) / (r.wide + 1)) = (y : Int) := by rw [hquo2]; unfold wrap64; omega
    have hwy1 : wrap64 ((y : Int) - 1) = (y : Int) - 1 := by unfold wrap64; omega
    have hwx1 : wrap64 ((x : Int) - 1) = (x : Int) - 1 := by unfold wrap64; omega
    clear hquo hquo2 hrem
    have hmul := hmulA y hy
    have hmul2 := hmulB y hy
    have hwb : 0 ≤ r.wide ∧ r.wide ≤ 6 := by have := F.hw; omega
    have htb : 0 ≤ r.tall ∧ r.tall ≤ 6 := by have := F.ht; omega
    have C1 := Lib.hid (fun (v : Value) (w : World) (h : RegV w v r) => sat9_is v r _ _ w h F.hv (by omega) (by omega) b1 h1)
    have C2 := Lib.hid (fun (v : Value) (w : World) (h : RegV w v r) => sat9_is v r _ _ w h F.hv (by omega) (by omega) b2 h2)
    have C3 := Lib.hid (fun (w : World) => l4Dark_is _ _ (by omega) (by omega) dk hdk w)
    have hin : (x : Int) < r.wide ∨ ((b1 = false ∧ b2 = false) ∧ ¬ (x : Int) < r.wide) := by
      by_cases hlt : (x : Int) < r.wide
      · exact .inl hlt
      · refine .inr ⟨⟨?_, ?_⟩, hlt⟩
        · cases b1
          · rfl
          · have := at_box F h1
            rw [F.hw] at hlt
            omega
        · cases b2
          · rfl
          · have := at_box F h2
            rw [F.hw] at hlt
            omega
    clear h1 h2 hdk hk h49 F hmulA hmulB hx hy hsl h B0 hw6 ht6 hxb hyb
    rcases hin with hlt | ⟨⟨rfl, rfl⟩, hlt⟩
    · cases b1 <;> cases b2
      all_goals go_enter Try.func71, Try.ntmps71
      all_goals go_wp2_with (fail)
      all_goals rw [← hW]
      all_goals clear hW
      all_goals obtain ⟨x0, x1, x2⟩ := R.out.c3
      all_goals go_wp2_with (fail)
      all_goals refine (C1.out _ _ R.out.v).mono ?_
      all_goals rintro e w1 ⟨rfl, hb⟩
      all_goals have R1 := Lib.hid (R.out.on hb)
      all_goals have BW := Lib.hid (BW.out.trans (hb.mono BW.out.size))
      all_goals clear x0 x1 x2 hb
      all_goals obtain ⟨x0, x1, x2⟩ := R1.out.c3
      all_goals go_wp2_with (fail)
      all_goals refine (C2.out _ _ R1.out.v).mono ?_
      all_goals rintro e w2 ⟨rfl, hb⟩
      all_goals have R2 := Lib.hid (R1.out.on hb)
      all_goals have BW := Lib.hid (BW.out.trans (hb.mono BW.out.size))
      all_goals clear x0 x1 x2 hb
      all_goals obtain ⟨x0, x1, x2⟩ := R2.out.c3
      all_goals go_wp2_with (fail)
      all_goals refine (C3.out _).mono ?_
      all_goals rintro e w3 ⟨rfl, hb⟩
      all_goals go_wp2_with (fail)
      all_goals (try simp only [Exit.inBlock, Exit.then])
      all_goals refine bodyPost_ret (results_six rfl _ _ _) rfl ?_
      all_goals exact ⟨_, _, rfl, BW.out.trans (hb.mono BW.out.size)⟩
    · go_enter Try.func71, Try.ntmps71
      go_wp2_with (fail)
      rw [← hW]
      clear hW
      obtain ⟨x0, x1, x2⟩ := R.out.c3
      go_wp2_with (fail)
      refine (C1.out _ _ R.out.v).mono ?_
      rintro e w1 ⟨rfl, hb⟩
      have R1 := Lib.hid (R.out.on hb)
      have BW := Lib.hid (BW.out.trans (hb.mono BW.out.size))
      clear x0 x1 x2 hb
      obtain ⟨x0, x1, x2⟩ := R1.out.c3
      go_wp2_with (fail)
      refine (C2.out _ _ R1.out.v).mono ?_
      rintro e w2 ⟨rfl, hb⟩
      have R2 := Lib.hid (R1.out.on hb)
      have BW := Lib.hid (BW.out.trans (hb.mono BW.out.size))
      clear x0 x1 x2 hb
      obtain ⟨x0, x1, x2⟩ := R2.out.c3
      go_wp2_with (fail)
      refine (C3.out _).mono ?_
      rintro e w3 ⟨rfl, hb⟩
      go_wp2_with (fail)
      (try simp only [Exit.inBlock, Exit.then])
      refine bodyPost_ret (results_six rfl _ _ _) rfl ?_
      exact ⟨_, _, rfl, BW.out.trans (hb.mono BW.out.size)⟩
  · have hs' : s = sN w0 k := by simpa using hs
    subst hs'
    replace hdk : decide (((((k % (w0 + 1) : Nat) : Int) - 1) + ((k / (w0 + 1) : Nat) : Int)) % 2 = 0) = dk := hdk
    simp only [sN] at h1 h2 ⊢
    rw [show (k : Int) + ((w0 : Int) + 1) = (k : Int) + r.wide + 1 by rw [F.hw]; omega]
    clear hs
    obtain ⟨x, hxd⟩ : ∃ x, k % (w0 + 1) = x := ⟨_, rfl⟩
    obtain ⟨y, hyd⟩ : ∃ y, k / (w0 + 1) = y := ⟨_, rfl⟩
    rw [hxd] at hx hrem hrem2 hxb h1 h2 hdk
    rw [hyd] at hy hquo hquo2 hyb h1 h2 hdk
    clear hxd hyd
    have hwq : wrap64 ((k : Int) / (r.wide + 1)) = (y : Int) := by rw [hquo2]; unfold wrap64; omega
    have hwy1 : wrap64 ((y : Int) - 1) = (y : Int) - 1 := by unfold wrap64; omega
    have hwx1 : wrap64 ((x : Int) - 1) = (x : Int) - 1 := by unfold wrap64; omega
    clear hquo hquo2 hrem
    have hmul := hmulA y hy
    have hmul2 := hmulB y hy
    have hwb : 0 ≤ r.wide ∧ r.wide ≤ 6 := by have := F.hw; omega
    have htb : 0 ≤ r.tall ∧ r.tall ≤ 6 := by have := F.ht; omega
    have C1 := Lib.hid (fun (v : Value) (w : World) (h : RegV w v r) => sat9_is v r _ _ w h F.hv (by omega) (by omega) b1 h1)
    have C2 := Lib.hid (fun (v : Value) (w : World) (h : RegV w v r) => sat9_is v r _ _ w h F.hv (by omega) (by omega) b2 h2)
    have C3 := Lib.hid (fun (w : World) => l4Dark_is _ _ (by omega) (by omega) dk hdk w)
    have hin : (y : Int) < r.tall ∨ ((b1 = false ∧ b2 = false) ∧ ¬ (y : Int) < r.tall) := by
      by_cases hlt : (y : Int) < r.tall
      · exact .inl hlt
      · refine .inr ⟨⟨?_, ?_⟩, hlt⟩
        · cases b1
          · rfl
          · have := at_box F h1
            rw [F.ht] at hlt
            omega
        · cases b2
          · rfl
          · have := at_box F h2
            rw [F.ht] at hlt
            omega
    clear h1 h2 hdk hk h49 F hmulA hmulB hx hy hsl h B0 hw6 ht6 hxb hyb
    rcases hin with hlt | ⟨⟨rfl, rfl⟩, hlt⟩
    · cases b1 <;> cases b2
      all_goals go_enter Try.func71, Try.ntmps71
      all_goals go_wp2_with (fail)
      all_goals rw [← hW]
      all_goals clear hW
      all_goals obtain ⟨x0, x1, x2⟩ := R.out.c3
      all_goals go_wp2_with (fail)
      all_goals refine (C1.out _ _ R.out.v).mono ?_
      all_goals rintro e w1 ⟨rfl, hb⟩
      all_goals have R1 := Lib.hid (R.out.on hb)
      all_goals have BW := Lib.hid (BW.out.trans (hb.mono BW.out.size))
      all_goals clear x0 x1 x2 hb
      all_goals obtain ⟨x0, x1, x2⟩ := R1.out.c3
      all_goals go_wp2_with (fail)
      all_goals refine (C2.out _ _ R1.out.v).mono ?_
      all_goals rintro e w2 ⟨rfl, hb⟩
      all_goals have R2 := Lib.hid (R1.out.on hb)
      all_goals have BW := Lib.hid (BW.out.trans (hb.mono BW.out.size))
      all_goals clear x0 x1 x2 hb
      all_goals obtain ⟨x0, x1, x2⟩ := R2.out.c3
      all_goals go_wp2_with (fail)
      all_goals refine (C3.out _).mono ?_
      all_goals rintro e w3 ⟨rfl, hb⟩
      all_goals go_wp2_with (fail)
      all_goals (try simp only [Exit.inBlock, Exit.then])
      all_goals refine bodyPost_ret (results_six rfl _ _ _) rfl ?_
      all_goals exact ⟨_, _, rfl, BW.out.trans (hb.mono BW.out.size)⟩
    · go_enter Try.func71, Try.ntmps71
      go_wp2_with (fail)
      rw [← hW]
      clear hW
      obtain ⟨x0, x1, x2⟩ := R.out.c3
      go_wp2_with (fail)
      refine (C1.out _ _ R.out.v).mono ?_
      rintro e w1 ⟨rfl, hb⟩
      have R1 := Lib.hid (R.out.on hb)
      have BW := Lib.hid (BW.out.trans (hb.mono BW.out.size))
      clear x0 x1 x2 hb
      obtain ⟨x0, x1, x2⟩ := R1.out.c3
      go_wp2_with (fail)
      refine (C2.out _ _ R1.out.v).mono ?_
      rintro e w2 ⟨rfl, hb⟩
      have R2 := Lib.hid (R1.out.on hb)
      have BW := Lib.hid (BW.out.trans (hb.mono BW.out.size))
      clear x0 x1 x2 hb
      obtain ⟨x0, x1, x2⟩ := R2.out.c3
      go_wp2_with (fail)
      refine (C3.out _).mono ?_
      rintro e w3 ⟨rfl, hb⟩
      go_wp2_with (fail)
      (try simp only [Exit.inBlock, Exit.then])
      refine bodyPost_ret (results_six rfl _ _ _) rfl ?_
      exact ⟨_, _, rfl, BW.out.trans (hb.mono BW.out.size)⟩
end Go.Proofs.Ytdggcfpkbmdllaa
