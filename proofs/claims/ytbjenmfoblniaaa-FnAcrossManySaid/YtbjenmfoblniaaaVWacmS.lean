/- Walks: AcrossMany, AcrossSum of the reference. -/
import Derived.Test.YtbjenmfoblniaaaZe
import Derived.Test.YtbjenmfoblniaaaVWless
import Derived.Test.YtbjenmfoblniaaaVWpartR
import Derived.Test.YtbjenmfoblniaaaVWfrontB
import Derived.Test.YtbjenmfoblniaaaVLil
set_option linter.unusedVariables false
namespace Go.Proofs.Ytbjenmfoblniaaa
open Go.RowKit Domi

theorem l1In9_is (n lo hi : Int) (w : World) (b : Bool) (h : inB n lo hi = b) : Calls Try.prog 68 #[.int .i64 n, .int .i64 lo, .int .i64 hi] w fun e w' => e = .returned (.bool b) ∧ w = w' := by rw [← h]; exact l1In_any n lo hi w
theorem svalid9_is (v : Value) (r : Reg) (w : World) (h : RegV w v r) (b : Bool) (hb : r.valid = b) : Calls Try.prog 72 #[v] w (Ret (.bool b) w) := by rw [← hb]; exact sRegionValid_any v r w h
/-- What the walk keeps: the region, and those of the west and of the east. -/
def AcS (w : World) (r : Reg) (sl : Value) (X1 X2 gW nW gE nE : Nat) (A E : List Bool) : List It :=
  [.box w.heap.size #[.int .i64 r.wide, .int .i64 r.tall, sl] 29, .box X1 #[.int .i64 r.wide, .int .i64 r.tall, .slice (some ⟨gW, 0, none⟩) r.cells.length nW] 29, .row 4 (.slice (some ⟨gW, 0, none⟩) r.cells.length nW) (A.map Value.bool),
   .box X2 #[.int .i64 r.wide, .int .i64 r.tall, .slice (some ⟨gE, 0, none⟩) r.cells.length nE] 29, .row 4 (.slice (some ⟨gE, 0, none⟩) r.cells.length nE) (E.map Value.bool)]
theorem acS_w {w wr : World} {r : Reg} {sl : Value} {X1 X2 gW nW gE nE : Nat} {A E : List Bool} (h : Sep w none wr (AcS w r sl X1 X2 gW nW gE nE A E)) (k : Nat) (b : Bool) :
    Sep w none (wr.setCell ⟨gW, k, none⟩ (.bool b)) (AcS w r sl X1 X2 gW nW gE nE (A.set k b) E) := by
  have := h.set 2 rfl k (.bool b)
  rw [← List.map_set] at this
  exact this
theorem acS_e {w wr : World} {r : Reg} {sl : Value} {X1 X2 gW nW gE nE : Nat} {A E : List Bool} (h : Sep w none wr (AcS w r sl X1 X2 gW nW gE nE A E)) (k : Nat) (b : Bool) :
    Sep w none (wr.setCell ⟨gE, k, none⟩ (.bool b)) (AcS w r sl X1 X2 gW nW gE nE A (E.set k b)) := by
  have := h.set 4 rfl k (.bool b)
  rw [← List.map_set] at this
  exact this
set_option maxRecDepth 100000 in
set_option maxHeartbeats 2000000 in
theorem sAcrossMany_yes (v : Value) (r : Reg) (w0 t c s : Nat) (w : World) (h : RegV w v r) (F : Fld r w0 t) (hc : 1 ≤ c ∧ c < w0) (hs0 : s < 2 ^ t) (n : Nat) (hn : acCount r c s = n) :
    Calls Try.prog 52 #[v, .int .i64 (c : Int), .int .i64 (s : Int)] w (Ret (.int .i64 (n : Int)) w) := by
  obtain ⟨ba, oa, cap, rfl, hs, hba, hcs, hlc, hcm, hl1, g1, g2, g3, g4⟩ := h.valid_opened F.hv
  clear g1 g2 g3 g4
  have Hcs := Lib.hid hcs
  obtain ⟨a, ha⟩ : ∃ a, a = some (⟨ba, oa, none⟩ : Addr) := ⟨_, rfl⟩
  have HA := Lib.hid ha
  rw [← ha] at hs ⊢
  clear hcs ha
  have RV : Hid (∀ w', Below w.heap.size w w' → RegV w' (.agg #[.int .i64 r.wide, .int .i64 r.tall, .slice a r.cells.length cap]) r) := Lib.hid fun w' hb => ⟨_, rfl, hs.below hb⟩
  have S0 := Lib.hid ((Sep.start w none).box #[.int .i64 r.wide, .int .i64 r.tall, .slice a r.cells.length cap] 29)
  have HV := Lib.hid F.hv
  have HN := Lib.hid hn
  have HF := Lib.hid F
  have hw6 := F.w6
  have ht6 := F.t6
  have hlen := F.len
  have hFw := F.hw
  have hFt := F.ht
  have hl0 : 0 < r.cells.length := by rw [hlen]; exact Nat.mul_pos F.w0 (by rcases Nat.eq_zero_or_pos t with e | e; · subst e; have := (Reg.valid_iff.1 F.hv).2.1; omega
                                                                            · exact e)
  have hl36 : r.cells.length ≤ 36 := by rw [hlen]; exact Nat.mul_le_mul hw6 ht6
  have wsb : IntKind.i64.wrap (r.wide - 1) = (w0 : Int) - 1 := by rw [hFw]; exact IntWalk.i64_in _ (by omega)
  have Q1 : Hid (inB (c : Int) 1 ((w0 : Int) - 1) = true) := Lib.hid (inB_iff.2 (by omega))
  have HLEN := Lib.hid hlen
  have HFw := Lib.hid hFw
  have HFt := Lib.hid hFt
  clear h hs hn F hFw hFt hlen
  go_enter Try.func52, Try.ntmps52
  go_wp2_with (fail)
  refine (svalid9_is _ r _ (RV.out _ S0.out.bel) true HV.out).mono ?_
  rintro e w1 ⟨rfl, hb⟩
  have S1 := Lib.hid (S0.out.below hb)
  clear hb S0
  obtain ⟨x0, x1, x2⟩ := S1.out.c3 0 rfl
  have wsb2 : IntKind.i64.wrap ((w0 : Int) - 1) = (w0 : Int) - 1 := IntWalk.i64_in _ (by omega)
  rw [HFw.out] at x0
  rw [HFt.out] at x1
  clear wsb
  go_wp2_with (fail)
  refine (l1In9_is _ _ _ _ true Q1.out).mono ?_
  rintro e w' ⟨rfl, rfl⟩
  obtain ⟨q, hq0, hq1, hq2, hq3⟩ : ∃ q : Nat, 2 ^ t = q ∧ (2 : Int) ^ t = (q : Int) ∧ 1 ≤ q ∧ q ≤ 64 := ⟨2 ^ t, rfl, (Int.natCast_pow 2 t).symm, Nat.pos_of_ne_zero (by simp), Nat.pow_le_pow_right (n := 2) (i := t) (j := 6) (by omega) ht6⟩
  have wq : IntKind.i64.wrap ((q : Int) - 1) = (q : Int) - 1 := IntWalk.i64_in _ (by omega)
  have wq1 : IntKind.i64.wrap (q : Int) = (q : Int) := IntWalk.i64_in _ (by omega)
  have Q2 : Hid (inB (s : Int) 0 ((q : Int) - 1) = true) := Lib.hid (inB_iff.2 (by omega))
  go_wp2_with (fail)
  refine (l1In9_is _ _ _ _ true Q2.out).mono ?_
  rintro e w' ⟨rfl, rfl⟩
  clear x0 x1 x2
  obtain ⟨x0, x1, x2⟩ := S1.out.c3 0 rfl
  go_wp2_with (fail)
  have SA := Lib.hid (S1.out.empty 3)
  refine (l3Less_ow _ _ r [] _ (RV.out _ SA.out.bel) (SA.out.own 1 rfl).sl ⟨hl0, hl36⟩ (by intro k hk; simp at hk)).mono ?_
  rintro e w2 ⟨sW, rfl, hoW, hb⟩
  have hoW : Own w2 (w1.alloc (.cells #[] 3)).heap.size 4 sW (r.cells.map Value.bool) := hoW
  obtain ⟨gW, nW, hsW, _, _, hcW1, hcW2⟩ := hoW.formN (by rw [List.length_map]; exact hl0)
  rw [List.length_map] at hsW hcW1
  subst hsW
  have P2 := (SA.out.below hb).add2 SA.out rfl hoW
  have S2 := Lib.hid (P2.box #[.int .i64 r.wide, .int .i64 r.tall, .slice (some ⟨gW, 0, none⟩) r.cells.length nW] 29)
  clear hb hoW x0 x1 x2 SA
  obtain ⟨x0, x1, x2⟩ := P2.c3 0 rfl
  have sX := P2.lt 0 rfl rfl
  clear P2
  go_wp2_with (fail)
  obtain ⟨W2, hW2⟩ : ∃ W, W = w2.alloc (.cells #[.int .i64 r.wide, .int .i64 r.tall, .slice (some ⟨gW, 0, none⟩) r.cells.length nW] 29) := ⟨_, rfl⟩
  rw [← hW2] at S2 ⊢
  have hsz : W2.heap.size = w2.heap.size + 1 := by rw [hW2]; simp
  clear hW2 x0 x1 x2 sX
  have SA := S2.out.empty 3
  rw [hsz] at SA
  have SA := Lib.hid SA
  refine (l3Less_ow _ _ r [] _ (RV.out _ SA.out.bel) (SA.out.own 4 rfl).sl ⟨hl0, hl36⟩ (by intro k hk; simp at hk)).mono ?_
  rintro e w3 ⟨sE, rfl, hoE, hb⟩
  have hoE : Own w3 (W2.alloc (.cells #[] 3)).heap.size 4 sE (r.cells.map Value.bool) := hoE
  obtain ⟨gE, nE, hsE, _, _, hcE1, hcE2⟩ := hoE.formN (by rw [List.length_map]; exact hl0)
  rw [List.length_map] at hsE hcE1
  subst hsE
  have P3 := (SA.out.below hb).add2 SA.out rfl hoE
  have S3 := Lib.hid (P3.box #[.int .i64 r.wide, .int .i64 r.tall, .slice (some ⟨gE, 0, none⟩) r.cells.length nE] 29)
  clear hb hoE SA S2 S1
  obtain ⟨x0, x1, x2⟩ := P3.c3 0 rfl
  have sX := P3.lt 0 rfl rfl
  clear P3
  go_wp2_with (fail)
  obtain ⟨W3, hW3⟩ : ∃ W, W = w3.alloc (.cells #[.int .i64 r.wide, .int .i64 r.tall, .slice (some ⟨gE, 0, none⟩) r.cells.length nE] 29) := ⟨_, rfl⟩
  rw [← hW3] at S3 ⊢
  clear hW3 x0 x1 x2 sX
  have S4 := Lib.hid (show Sep w none W3 (AcS w r (.slice a r.cells.length cap) w2.heap.size w3.heap.size gW nW gE nE (mixL r.f (wB r w0 c s) r.cells.length 0) (mixL r.f (eB r w0 c s) r.cells.length 0)) from by
    rw [mix_start, mix_start]; exact S3.out.pick [0, 3, 2, 6, 5] (by decide) rfl)
  clear S3
  obtain ⟨X1, hX1⟩ : ∃ X, w2.heap.size = X := ⟨_, rfl⟩
  obtain ⟨X2, hX2⟩ : ∃ X, w3.heap.size = X := ⟨_, rfl⟩
  rw [hX1, hX2] at S4
  rw [hX1, hX2]
  have hs64 : s < 64 := by omega
  clear hX1 hX2 hsz Q1 Q2 wq wq1 wsb2 hq0 hq1 hq2 hq3
  go_loopw [9] (fun i wr => ∃ k : Nat, k ≤ r.cells.length ∧ i = .int .i64 k ∧ Sep w none wr (AcS w r (.slice a r.cells.length cap) X1 X2 gW nW gE nE (mixL r.f (wB r w0 c s) r.cells.length k) (mixL r.f (eB r w0 c s) r.cells.length k)) ∧ GoodTo r w0 c s k) (fun i _ => r.cells.length - (intOf i).toNat)
  case atStart => exact ⟨0, Nat.zero_le _, rfl, S4.out, fun j hj => absurd hj (Nat.not_lt_zero _)⟩
  case round =>
    clear S4
    obtain ⟨k, hk, rfl, hS, hG⟩ := hrel
    have HS := Lib.hid hS
    have HG := Lib.hid hG
    clear hS hG
    obtain ⟨x0, x1, x2⟩ := HS.out.c3 0 rfl
    rw [HFw.out] at x0
    rw [HFt.out] at x1
    by_cases hlt : k < r.cells.length
    · have hlt' : (k : Int) < (r.cells.length : Int) := by omega
      obtain ⟨x, hx⟩ : ∃ x, k % w0 = x := ⟨_, rfl⟩
      obtain ⟨y, hy⟩ : ∃ y, k / w0 = y := ⟨_, rfl⟩
      obtain ⟨e, he⟩ : ∃ e, s / 2 ^ y = e := ⟨_, rfl⟩
      have hxI : (k : Int) % (w0 : Int) = (x : Int) := by rw [← hx]; rfl
      have hyI : (k : Int) / (w0 : Int) = (y : Int) := by rw [← hy]; rfl
      have hyI2 : (k : Int).tdiv (w0 : Int) = (y : Int) := by rw [← hy]; rfl
      have hxI2 : (k : Int).tmod (w0 : Int) = (x : Int) := by rw [← hx]; rfl
      obtain ⟨ei, hei⟩ : ∃ ei : Int, (e : Int) = ei := ⟨_, rfl⟩
      have hsh : (s : Int).fdiv (2 ^ y) = ei := by
        rw [← hei, Int.fdiv_eq_ediv_of_nonneg _ (by have := Int.pow_pos (n := 2) (m := y) (by decide); omega), ← he, Int.natCast_ediv, Int.natCast_pow]; rfl
      have hsh2 : (s : Int) / 2 ^ y = ei := by rw [← hei, ← he, Int.natCast_ediv, Int.natCast_pow]; rfl
      obtain ⟨cm, hcm0⟩ : ∃ cm : Int, (c : Int) - 1 = cm := ⟨_, rfl⟩
      have wc : IntKind.i64.wrap ((c : Int) - 1) = cm := by rw [← hcm0]; exact IntWalk.i64_in _ (by omega)
      have hin : inRow w0 s k = decide (e % 2 = 1) := by
        unfold inRow; rw [hy, Nat.testBit_eq_decide_div_mod_eq, he]
      have hxw : x < w0 := by rw [← hx]; exact Nat.mod_lt _ (by omega)
      have hcw : y ≤ 36 := by rw [← hy]; exact Nat.le_trans (Nat.div_le_self _ _) (by omega)
      have hck := Hcs.out wr HS.out.bel k hlt
      have szb : ba < wr.heap.size := Nat.lt_of_lt_of_le hba HS.out.bel.size
      have hi0 : (0 : Int) ≤ (k : Int) := by omega
      obtain ⟨u1, u2, u3⟩ := own_truth (HS.out.own 2 rfl) (j := k) (by rw [mixL_len]; exact hlt)
      obtain ⟨v1, v2, v3⟩ := own_truth (HS.out.own 4 rfl) (j := k) (by rw [mixL_len]; exact hlt)
      obtain ⟨y0, y1, y2⟩ := HS.out.c3 1 rfl
      obtain ⟨z0, z1, z2⟩ := HS.out.c3 3 rfl
      have HIN := Lib.hid hin
      have HX := Lib.hid hx
      have hs2 := hs64
      have hen : e ≤ s := by rw [← he]; exact Nat.div_le_self _ _
      have HEI := Lib.hid hei
      have HCM := Lib.hid hcm0
      have HEN := Lib.hid hen
      clear hx hy he hin hei hcm0 hen hlt'
      have hlt' : (k : Int) < (r.cells.length : Int) := by omega
      by_cases hb : e % 2 = 1
      · have hm1 : ei.tmod 2 = 1 := by rw [← HEI.out, Int.tmod_eq_emod_of_nonneg (by omega)]; omega
        have hm2 : IntKind.i64.wrap (ei.tmod 2) = 1 := by rw [hm1]; exact IntWalk.i64_in _ (by omega)
        have hm3 : ei % 2 = 1 := by rw [← HEI.out]; omega
        have HR : Hid (inRow w0 s k = true) := Lib.hid (by rw [HIN.out]; exact decide_eq_true hb)
        clear hb
        rcases (show x + 1 = c ∨ x = c ∨ x + 1 < c ∨ c < x by omega) with hxc | hxc | hxc | hxc
        · obtain rfl : (x : Int) = cm := by have := HCM.out; omega
          have q1 : ¬ x = c := by omega
          have q2 : ¬ ((x : Int) = (c : Int)) := by omega
          have q3 : ¬ (c ≤ x) := by omega
          have q4 : ¬ ((c : Int) ≤ (x : Int)) := by omega
          have q5 : x < c := by omega
          have q6 : (x : Int) < (c : Int) := by omega
          have hA := HA.out
          subst hA
          cases hfk : r.cells.getD k false
          · rw [hfk] at hck
            have E0 : n = 0 := by rw [← HN.out]; exact acCount_none HF.out hc hs0 hlt HR.out (by rw [HX.out]; omega) hfk
            subst E0
            go_wp2
            go_ret
            exact ⟨rfl, HS.out.bel⟩
          · rw [hfk] at hck
            have HG2 : Hid (GoodTo r w0 c s (k + 1)) := Lib.hid (HG.out.next fun _ _ => hfk)
            have WB : Hid (wB r w0 c s k = false) := Lib.hid (wB_no (.inr ⟨HR.out, by rw [HX.out]; omega⟩))
            have EB : Hid (eB r w0 c s k = false) := Lib.hid (eB_no (.inl (by rw [HX.out]; omega)))
            have S1 := Lib.hid (acS_w HS.out k false)
            rw [mixL_set r.f (wB r w0 c s) hlt WB.out] at S1
            have S2 := Lib.hid (acS_e S1.out k false)
            rw [mixL_set r.f (eB r w0 c s) hlt EB.out] at S2
            have n1 : gE ≠ gW := fun h => HS.out.ne 2 4 rfl rfl (by decide) rfl rfl h.symm
            have n2 : X2 ≠ gW := fun h => HS.out.ne 2 3 rfl rfl (by decide) rfl rfl h.symm
            have n3 : X1 ≠ gW := fun h => HS.out.ne 2 1 rfl rfl (by decide) rfl rfl h.symm
            obtain ⟨v4, v5, v6⟩ := own_truth (S1.out.own 4 rfl) (j := k) (by rw [mixL_len]; exact hlt)
            obtain ⟨z4, z5, z6⟩ := S1.out.c3 3 rfl
            have S2 := Lib.hid S2.out
            clear S1
            go_wp2
            go_roundw
            case rel => exact ⟨k + 1, by omega, by go_num, S2.out, HG2.out⟩
            case measure => simp [intOf] <;> omega
        · have hxd := hxc.symm
          subst hxd
          have hA := HA.out
          subst hA
          cases hfk : r.cells.getD k false
          · rw [hfk] at hck
            have E0 : n = 0 := by rw [← HN.out]; exact acCount_none HF.out hc hs0 hlt HR.out (by rw [HX.out]; omega) hfk
            subst E0
            go_wp2
            go_ret
            exact ⟨rfl, HS.out.bel⟩
          · rw [hfk] at hck
            have HG2 : Hid (GoodTo r w0 c s (k + 1)) := Lib.hid (HG.out.next fun _ _ => hfk)
            have WB : Hid (wB r w0 c s k = false) := Lib.hid (wB_no (.inl (by rw [HX.out]; omega)))
            have EB : Hid (eB r w0 c s k = false) := Lib.hid (eB_no (.inr ⟨HR.out, by rw [HX.out]⟩))
            have S1 := Lib.hid (acS_w HS.out k false)
            rw [mixL_set r.f (wB r w0 c s) hlt WB.out] at S1
            have S2 := Lib.hid (acS_e S1.out k false)
            rw [mixL_set r.f (eB r w0 c s) hlt EB.out] at S2
            have n1 : gE ≠ gW := fun h => HS.out.ne 2 4 rfl rfl (by decide) rfl rfl h.symm
            have n2 : X2 ≠ gW := fun h => HS.out.ne 2 3 rfl rfl (by decide) rfl rfl h.symm
            have n3 : X1 ≠ gW := fun h => HS.out.ne 2 1 rfl rfl (by decide) rfl rfl h.symm
            obtain ⟨v4, v5, v6⟩ := own_truth (S1.out.own 4 rfl) (j := k) (by rw [mixL_len]; exact hlt)
            obtain ⟨z4, z5, z6⟩ := S1.out.c3 3 rfl
            have S2 := Lib.hid S2.out
            clear S1
            go_wp2
            go_roundw
            case rel => exact ⟨k + 1, by omega, by go_num, S2.out, HG2.out⟩
            case measure => simp [intOf] <;> omega
        · have q1 : ¬ x = c := by omega
          have q2 : ¬ ((x : Int) = (c : Int)) := by omega
          have q7 : ¬ ((x : Int) = cm) := by have := HCM.out; omega
          have q3 : ¬ (c ≤ x) := by omega
          have q4 : ¬ ((c : Int) ≤ (x : Int)) := by omega
          have q5 : x < c := by omega
          have q6 : (x : Int) < (c : Int) := by omega
          have HG2 : Hid (GoodTo r w0 c s (k + 1)) := Lib.hid (HG.out.next fun _ h => by rw [HX.out] at h; omega)
          have WB : Hid (wB r w0 c s k = r.f k) := Lib.hid (wB_yes (by rw [HX.out]; omega) (.inr (by rw [HX.out]; omega)))
          have EB : Hid (eB r w0 c s k = false) := Lib.hid (eB_no (.inl (by rw [HX.out]; omega)))
          have S1 := HS
          rw [← mixL_same r.f (wB r w0 c s) (n := r.cells.length) WB.out] at S1
          have S2 := Lib.hid (acS_e S1.out k false)
          rw [mixL_set r.f (eB r w0 c s) hlt EB.out] at S2
          have S2 := Lib.hid S2.out
          clear S1
          go_wp2
          go_roundw
          case rel => exact ⟨k + 1, by omega, by go_num, S2.out, HG2.out⟩
          case measure => simp [intOf] <;> omega
        · have q1 : ¬ x = c := by omega
          have q2 : ¬ ((x : Int) = (c : Int)) := by omega
          have q7 : ¬ ((x : Int) = cm) := by have := HCM.out; omega
          have q3 : (c ≤ x) := by omega
          have q4 : ((c : Int) ≤ (x : Int)) := by omega
          have q5 : ¬ x < c := by omega
          have q6 : ¬ (x : Int) < (c : Int) := by omega
          have HG2 : Hid (GoodTo r w0 c s (k + 1)) := Lib.hid (HG.out.next fun _ h => by rw [HX.out] at h; omega)
          have WB : Hid (wB r w0 c s k = false) := Lib.hid (wB_no (.inl (by rw [HX.out]; omega)))
          have EB : Hid (eB r w0 c s k = r.f k) := Lib.hid (eB_yes (by rw [HX.out]; omega) (.inr (by rw [HX.out]; omega)))
          have S1 := Lib.hid (acS_w HS.out k false)
          rw [mixL_set r.f (wB r w0 c s) hlt WB.out] at S1
          have S2 := S1
          rw [← mixL_same r.f (eB r w0 c s) (n := r.cells.length) EB.out] at S2
          have S2 := Lib.hid S2.out
          clear S1
          go_wp2
          go_roundw
          case rel => exact ⟨k + 1, by omega, by go_num, S2.out, HG2.out⟩
          case measure => simp [intOf] <;> omega
      · have hm1 : ei.tmod 2 = 0 := by rw [← HEI.out, Int.tmod_eq_emod_of_nonneg (by omega)]; omega
        have hm2 : IntKind.i64.wrap (ei.tmod 2) = 0 := by rw [hm1]; exact IntWalk.i64_in _ (by omega)
        have hm3 : ei % 2 = 0 := by rw [← HEI.out]; omega
        have HR : Hid (inRow w0 s k = false) := Lib.hid (by rw [HIN.out]; exact decide_eq_false hb)
        clear hb
        have HG2 : Hid (GoodTo r w0 c s (k + 1)) := Lib.hid (HG.out.next fun h => by rw [HR.out] at h; cases h)
        by_cases hxc : x < c
        · have q3 : ¬ (c ≤ x) := by omega
          have q4 : ¬ ((c : Int) ≤ (x : Int)) := by omega
          have q5 : x < c := by omega
          have q6 : (x : Int) < (c : Int) := by omega
          have WB : Hid (wB r w0 c s k = r.f k) := Lib.hid (wB_yes (by rw [HX.out]; omega) (.inl HR.out))
          have EB : Hid (eB r w0 c s k = false) := Lib.hid (eB_no (.inl (by rw [HX.out]; omega)))
          have S1 := HS
          rw [← mixL_same r.f (wB r w0 c s) (n := r.cells.length) WB.out] at S1
          have S2 := Lib.hid (acS_e S1.out k false)
          rw [mixL_set r.f (eB r w0 c s) hlt EB.out] at S2
          have S2 := Lib.hid S2.out
          clear S1
          go_wp2
          go_roundw
          case rel => exact ⟨k + 1, by omega, by go_num, S2.out, HG2.out⟩
          case measure => simp [intOf] <;> omega
        · have q3 : (c ≤ x) := by omega
          have q4 : ((c : Int) ≤ (x : Int)) := by omega
          have q5 : ¬ x < c := by omega
          have q6 : ¬ (x : Int) < (c : Int) := by omega
          have WB : Hid (wB r w0 c s k = false) := Lib.hid (wB_no (.inl (by rw [HX.out]; omega)))
          have EB : Hid (eB r w0 c s k = r.f k) := Lib.hid (eB_yes (by rw [HX.out]; omega) (.inl HR.out))
          have S1 := Lib.hid (acS_w HS.out k false)
          rw [mixL_set r.f (wB r w0 c s) hlt WB.out] at S1
          have S2 := S1
          rw [← mixL_same r.f (eB r w0 c s) (n := r.cells.length) EB.out] at S2
          have S2 := Lib.hid S2.out
          clear S1
          go_wp2
          go_roundw
          case rel => exact ⟨k + 1, by omega, by go_num, S2.out, HG2.out⟩
          case measure => simp [intOf] <;> omega
    · have ek : k = r.cells.length := by omega
      subst ek
      have RW : Hid (∀ w', Below wr.heap.size wr w' → RegV w' (.agg #[.int .i64 r.wide, .int .i64 r.tall, .slice (some ⟨gW, 0, none⟩) r.cells.length nW]) (westC r w0 c s)) := Lib.hid fun w' hb => ⟨.slice (some ⟨gW, 0, none⟩) r.cells.length nW, rfl, by have := ((HS.out.below hb).own 2 rfl).sl; rw [west_mix] at this; exact this⟩
      have RE : Hid (∀ w', Below wr.heap.size wr w' → RegV w' (.agg #[.int .i64 r.wide, .int .i64 r.tall, .slice (some ⟨gE, 0, none⟩) r.cells.length nE]) (eastC r w0 c s)) := Lib.hid fun w' hb => ⟨.slice (some ⟨gE, 0, none⟩) r.cells.length nE, rfl, by have := ((HS.out.below hb).own 4 rfl).sl; rw [east_mix] at this; exact this⟩
      have hsplit := acCount_split HF.out hc hs0 HG.out
      rw [HN.out] at hsplit
      obtain ⟨p, hp⟩ : ∃ p, manyT (westC r w0 c s) = p := ⟨_, rfl⟩
      obtain ⟨u, hu⟩ : ∃ p, manyT (eastC r w0 c s) = p := ⟨_, rfl⟩
      rw [hp, hu] at hsplit
      have HTW : Hid (∀ v w, RegV w v (westC r w0 c s) → Calls Try.prog 25 #[v] w (Ret (.int .i64 p) w)) := Lib.hid fun v w h => by rw [← hp]; exact sTilingsMany_any v _ w h
      have HTE : Hid (∀ v w, RegV w v (eastC r w0 c s) → Calls Try.prog 25 #[v] w (Ret (.int .i64 u) w)) := Lib.hid fun v w h => by rw [← hu]; exact sTilingsMany_any v _ w h
      have hbd := manyT_bd HV.out
      have hle := acCount_le r c s
      rw [manyT_yes HV.out] at hbd
      rw [HN.out] at hle
      have wmul : IntKind.i64.wrap (p * u) = (n : Int) := by rw [← hsplit]; exact IntWalk.i64_in _ (by omega)
      clear hp hu hsplit hbd hle
      have six : Hid (∀ w', Below wr.heap.size wr w' → w'.cell? ⟨X1, 0, none⟩ = some (.int .i64 r.wide) ∧ w'.cell? ⟨X1, 1, none⟩ = some (.int .i64 r.tall) ∧ w'.cell? ⟨X1, 2, none⟩ = some (.slice (some ⟨gW, 0, none⟩) r.cells.length nW) ∧ w'.cell? ⟨X2, 0, none⟩ = some (.int .i64 r.wide) ∧ w'.cell? ⟨X2, 1, none⟩ = some (.int .i64 r.tall) ∧ w'.cell? ⟨X2, 2, none⟩ = some (.slice (some ⟨gE, 0, none⟩) r.cells.length nE)) := Lib.hid fun w' hb => by
        obtain ⟨a1, a2, a3⟩ := (HS.out.below hb).c3 1 rfl
        obtain ⟨b1, b2, b3⟩ := (HS.out.below hb).c3 3 rfl
        exact ⟨a1, a2, a3, b1, b2, b3⟩
      have HBL : Hid (Below w.heap.size w wr) := Lib.hid HS.out.bel
      obtain ⟨y0, y1, y2⟩ := HS.out.c3 1 rfl
      obtain ⟨z0, z1, z2⟩ := HS.out.c3 3 rfl
      have sy := HS.out.lt 1 rfl rfl
      have sz := HS.out.lt 3 rfl rfl
      go_wp2_with (fail)
      go_region_held3 (fun w' => w'.cell? ⟨X1, 0, none⟩ = some (.int .i64 r.wide) ∧ w'.cell? ⟨X1, 1, none⟩ = some (.int .i64 r.tall) ∧ w'.cell? ⟨X1, 2, none⟩ = some (.slice (some ⟨gW, 0, none⟩) r.cells.length nW) ∧ w'.cell? ⟨X2, 0, none⟩ = some (.int .i64 r.wide) ∧ w'.cell? ⟨X2, 1, none⟩ = some (.int .i64 r.tall) ∧ w'.cell? ⟨X2, 2, none⟩ = some (.slice (some ⟨gE, 0, none⟩) r.cells.length nE))
        (first | with_reducible exact K2.out | with_reducible exact K1.out | (go_keep; done) | assumption)
        ((first
          | (go_at_call 25; refine (HTE.out _ _ (RE.out _ G1.out)).mono ?_; rintro e y4 ⟨rfl, hb⟩; (have G2 := Lib.hid (G1.out.trans (hb.mono G1.out.size))); (have K2 := Lib.hid (six.out _ G2.out)); clear hb)
          | (go_at_call 25; refine (HTW.out _ _ (RW.out _ (Below.refl _ _).drew)).mono ?_; rintro e y3 ⟨rfl, hb⟩; (have G1 := Lib.hid ((Below.refl _ _).drew.trans hb : Below wr.heap.size wr y3)); (have K1 := Lib.hid (six.out _ G1.out)); clear hb)))
      have BF := Lib.hid (HBL.out.trans (G2.out.mono HBL.out.size))
      clear x0 x1 x2 y0 y1 y2 z0 z1 z2
      go_wp2
      go_ret
      exact ⟨rfl, BF.out⟩
end Go.Proofs.Ytbjenmfoblniaaa
