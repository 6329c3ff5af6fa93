/- Walks: the reference's TilingsMany: the count along a frontier. -/
import Derived.Test.YtbjenmfoblniaaaZa
import Derived.Test.YtbjenmfoblniaaaVWcntB
import Derived.Test.YtbjenmfoblniaaaVWlaid
import Derived.Test.YtbjenmfoblniaaaVWcomp
import Derived.Test.YtbjenmfoblniaaaZc
import Derived.Deep.CutBlock
set_option linter.unusedVariables false
namespace Go.Proofs.Ytbjenmfoblniaaa
open Go.RowKit Domi

def nv (S : List Nat) : List Value := S.map fun k : Nat => Value.int .i64 (k : Int)
theorem nv_len (S : List Nat) : (nv S).length = S.length := by simp [nv]
theorem own_nat {w : World} {B : Nat} {e : TypeId} {g n c : Nat} {S : List Nat} (h : Own w B e (.slice (some ⟨g, 0, none⟩) n c) (nv S)) {j : Nat} (hj : j < S.length) :
    w.cell? ⟨g, j, none⟩ = some (.int .i64 ((S.getD j 0 : Nat) : Int)) ∧ w.frozen? ⟨g, j, none⟩ = false ∧ g < w.heap.size := by
  have hn : n = S.length := by obtain ⟨_, _, _, hn, _⟩ := h.block; simpa [nv] using hn
  obtain ⟨h1, h2, h3⟩ := h.cell j (by omega)
  refine ⟨?_, h2, h3⟩
  rw [h1]; unfold nv; rw [List.getElem?_map, List.getElem?_eq_getElem hj]; simp [List.getD_eq_getElem?_getD, hj]
def FsA (w : World) (r : Reg) (s a b : Value) (S M : List Nat) : List It :=
  [.box w.heap.size #[.int .i64 r.wide, .int .i64 r.tall, s] 29, .row 3 a (nv S), .row 3 b (nv M)]
def FsB (w : World) (r : Reg) (s a b n m : Value) (S M N Y : List Nat) : List It :=
  [.box w.heap.size #[.int .i64 r.wide, .int .i64 r.tall, s] 29, .row 3 a (nv S), .row 3 b (nv M), .row 3 n (nv N), .row 3 m (nv Y)]
def FsC (w : World) (r : Reg) (s a b n m o : Value) (S M N Y O : List Nat) : List It :=
  [.box w.heap.size #[.int .i64 r.wide, .int .i64 r.tall, s] 29, .row 3 a (nv S), .row 3 b (nv M), .row 3 n (nv N), .row 3 m (nv Y), .row 3 o (nv O)]
section
variable {w wr w' : World} {r : Reg} {s a b n m o : Value} {S M N Y O : List Nat}
theorem fsC_appN (h : Sep w none wr (FsC w r s a b n m o S M N Y O)) {B g cap x : Nat} (A : App wr B 3 n (nv N) (.int .i64 (x : Int)) g cap w') : Sep w none w' (FsC w r s a b (.slice (some ⟨g, 0, none⟩) (N.length + 1) cap) m o S M (N ++ [x]) Y O) := by
  have := h.app 3 rfl A
  simpa [FsC, nv] using this
theorem fsC_appM (h : Sep w none wr (FsC w r s a b n m o S M N Y O)) {B g cap x : Nat} (A : App wr B 3 m (nv Y) (.int .i64 (x : Int)) g cap w') : Sep w none w' (FsC w r s a b n (.slice (some ⟨g, 0, none⟩) (Y.length + 1) cap) o S M N (Y ++ [x]) O) := by
  have := h.app 4 rfl A
  simpa [FsC, nv] using this
theorem fsC_appO (h : Sep w none wr (FsC w r s a b n m o S M N Y O)) {B g cap x : Nat} (A : App wr B 3 o (nv O) (.int .i64 (x : Int)) g cap w') : Sep w none w' (FsC w r s a b n m (.slice (some ⟨g, 0, none⟩) (O.length + 1) cap) S M N Y (O ++ [x])) := by
  have := h.app 5 rfl A
  simpa [FsC, nv] using this
theorem fsC_setM {g k c : Nat} (h : Sep w none wr (FsC w r s a b n (.slice (some ⟨g, 0, none⟩) k c) o S M N Y O)) (j x : Nat) : Sep w none (wr.setCell ⟨g, j, none⟩ (.int .i64 (x : Int))) (FsC w r s a b n (.slice (some ⟨g, 0, none⟩) k c) o S M N (Y.set j x) O) := by
  have := h.set 4 rfl j (.int .i64 (x : Int))
  have e : (nv Y).set j (.int .i64 (x : Int)) = nv (Y.set j x) := by unfold nv; rw [List.map_set]
  rw [e] at this
  exact this
theorem fsC_drop (h : Sep w none wr (FsC w r s a b n m o S M N Y O)) : Sep w none wr (FsB w r s a b n m S M N Y) := h.pick [0, 1, 2, 3, 4] (by decide) rfl
theorem fsB_drop (h : Sep w none wr (FsB w r s a b n m S M N Y)) : Sep w none wr (FsA w r s n m N Y) := h.pick [0, 3, 4] (by decide) rfl
theorem fsA_more (h : Sep w none wr (FsA w r s a b S M)) : Sep w none ((wr.alloc (.cells #[] 3)).alloc (.cells #[] 3)) (FsB w r s a b (.slice (some ⟨wr.heap.size, 0, none⟩) 0 0) (.slice (some ⟨wr.heap.size + 1, 0, none⟩) 0 0) S M [] []) := by
  have := (h.empty 3).empty 3
  simpa [FsA, FsB, nv] using this
theorem fsB_more (h : Sep w none wr (FsB w r s a b n m S M N Y)) : Sep w none (wr.alloc (.cells #[] 3)) (FsC w r s a b n m (.slice (some ⟨wr.heap.size, 0, none⟩) 0 0) S M N Y []) := by
  have := h.empty 3
  simpa [FsB, FsC, nv] using this
theorem fsA_start {w1 : World} (h : Sep w none w1 [.box w.heap.size #[.int .i64 r.wide, .int .i64 r.tall, s] 29]) : Sep w none ((w1.alloc (.cells #[.int .i64 0] 3)).alloc (.cells #[.int .i64 1] 3)) (FsA w r s (.slice (some ⟨w1.heap.size, 0, none⟩) 1 1) (.slice (some ⟨w1.heap.size + 1, 0, none⟩) 1 1) [0] [1]) := by
  have := (h.lit 3 #[.int .i64 0] 1 rfl (by omega)).lit 3 #[.int .i64 1] 1 rfl (by omega)
  simpa [FsA, nv] using this
end
set_option maxRecDepth 100000 in
set_option maxHeartbeats 4000000 in
theorem sTilingsMany_yes (v : Value) (r : Reg) (w : World) (h : RegV w v r) (hv : r.valid = true) :
    Calls Try.prog 25 #[v] w (Ret (.int .i64 (manyT r)) w) := by
  obtain ⟨b1, b2, b3, b4⟩ := Reg.valid_iff.1 hv
  obtain ⟨a, cap, rfl, hs, hlc, hcm⟩ := h.opened
  have RV : ∀ w', Below w.heap.size w w' → RegV w' (.agg #[.int .i64 r.wide, .int .i64 r.tall, .slice a r.cells.length cap]) r := fun w' hb => ⟨_, rfl, hs.below hb⟩
  have RV := Lib.hid RV
  obtain ⟨ba, oa, rfl, hba, hcell⟩ : ∃ b o, a = some ⟨b, o, none⟩ ∧ b < w.heap.size ∧ ∀ i, i < r.cells.length → w.cell? ⟨b, o + i, none⟩ = some (.bool (r.cells.getD i false)) := by
    obtain ⟨_, _, e, _, _, h3⟩ := hs.opened
    simp only [Value.slice.injEq] at e
    obtain ⟨rfl, _, rfl⟩ := e
    rcases h3 with h3 | h3
    · have : 1 ≤ r.wide * r.tall := Int.mul_pos (by omega) (by omega)
      rw [h3] at b3; simp at b3; omega
    · exact h3
  have HC : Hid (∀ w', Below w.heap.size w w' → ∀ i, i < r.cells.length → w'.cell? ⟨ba, oa + i, none⟩ = some (.bool (r.f i))) := Lib.hid fun w' hb i hi => ((bcell hb).1 ba (oa + i) hba).trans (hcell i hi)
  clear hcell
  have S0 := Lib.hid ((Sep.start w none).box #[.int .i64 r.wide, .int .i64 r.tall, .slice (some ⟨ba, oa, none⟩) r.cells.length cap] 29)
  have hl36 : r.cells.length ≤ 36 := by
    have : r.wide * r.tall ≤ 6 * r.tall := Int.mul_le_mul_of_nonneg_right (by omega) (by omega)
    omega
  have HB3 := Lib.hid b3
  have HV := Lib.hid hv
  clear hs h b3 b4 hv
  go_enter Try.func25, Try.ntmps25
  go_wp2_with (fail)
  refine (sRegionValid_is _ r _ (RV.out _ S0.out.bel) true HV.out).mono ?_
  rintro e w1 ⟨rfl, hb⟩
  have S1 := Lib.hid (S0.out.below hb)
  clear hb S0
  have S2 := Lib.hid (fsA_start S1.out)
  go_wp2_with (fail)
  have HF0 := Lib.hid (Fr.start HV.out)
  clear S1
  go_loopw [3, 4, 5] (fun a3 a4 i wr => ∃ (c : Nat) (S M : List Nat) (ga ca gb cb : Nat), c ≤ r.cells.length ∧ i = .int .i64 c ∧ a3 = .slice (some ⟨ga, 0, none⟩) S.length ca ∧ a4 = .slice (some ⟨gb, 0, none⟩) S.length cb ∧ Sep w none wr (FsA w r (.slice (some ⟨ba, oa, none⟩) r.cells.length cap) (.slice (some ⟨ga, 0, none⟩) S.length ca) (.slice (some ⟨gb, 0, none⟩) S.length cb) S M) ∧ Hid (Fr r c S M (withL r (bareL r)) (2 ^ c) (2 ^ c))) (fun _ _ i _ => r.cells.length - (intOf i).toNat)
  case atStart => exact ⟨0, [0], [1], _, _, _, _, Nat.zero_le _, rfl, rfl, rfl, S2.out, HF0⟩
  case round =>
    clear S2 HF0
    obtain ⟨c, S, M, ga, ca, gb, cb, hc, rfl, rfl, rfl, hS, HF⟩ := hrel
    have HS := Lib.hid hS
    clear hS
    by_cases hlt : c < r.cells.length
    · obtain ⟨x0, x1, x2⟩ := HS.out.c3 0 rfl
      have S3 := Lib.hid (fsA_more HS.out)
      go_wp2_with (fail)
      clear x0 x1 x2 HS
      have HK0 : Hid (Fr r (c + 1) [] [] (sumF (frF r c) (S.take 0) (M.take 0)) (2 * sumF (fun _ => 1) (S.take 0) (M.take 0)) (2 * 0)) := Lib.hid (by simpa [sumF] using Fr.nil)
      have Hlen := Lib.hid HF.out.len
      go_loopw [6, 7, 8] (fun a6 a7 i wr => ∃ (k : Nat) (N Y : List Nat) (gn cn gm cm : Nat), k ≤ S.length ∧ i = .int .i64 k ∧ a6 = .slice (some ⟨gn, 0, none⟩) N.length cn ∧ a7 = .slice (some ⟨gm, 0, none⟩) N.length cm ∧ Sep w none wr (FsB w r (.slice (some ⟨ba, oa, none⟩) r.cells.length cap) (.slice (some ⟨ga, 0, none⟩) S.length ca) (.slice (some ⟨gb, 0, none⟩) S.length cb) (.slice (some ⟨gn, 0, none⟩) N.length cn) (.slice (some ⟨gm, 0, none⟩) N.length cm) S M N Y) ∧ Hid (Fr r (c + 1) N Y (sumF (frF r c) (S.take k) (M.take k)) (2 * sumF (fun _ => 1) (S.take k) (M.take k)) (2 * k))) (fun _ _ i _ => S.length - (intOf i).toNat)
      case atStart => exact ⟨0, [], [], _, 0, _, 0, Nat.zero_le _, rfl, rfl, rfl, S3.out, HK0⟩
      case round =>
        clear S3 HK0
        obtain ⟨k, N, Y, gn, cn, gm, cm, hk, rfl, rfl, rfl, hS, HN⟩ := hrel
        have HS := Lib.hid hS
        clear hS
        by_cases hkl : k < S.length
        · have hkl' : (k : Int) < (S.length : Int) := by omega
          have S4 := Lib.hid (fsB_more HS.out)
          obtain ⟨x0, x1, x2⟩ := HS.out.c3 0 rfl
          have x3 := HS.out.lt 0 rfl rfl
          obtain ⟨u1, u2, u3⟩ := own_nat (HS.out.own 1 rfl) (j := k) hkl
          clear u2
          have hbd : Hid (bdF r c (S.getD k 0)) := Lib.hid (HF.out.bd _ (by simp only [List.getD_eq_getElem?_getD, List.getElem?_eq_getElem hkl, Option.getD_some]; exact List.getElem_mem hkl))
          have HOP := Lib.hid (opt_ok (r := r) b1.1 hlt hbd.out)
          obtain ⟨sv, hsv⟩ : ∃ sv, S.getD k 0 = sv := ⟨_, rfl⟩
          rw [hsv] at u1 hbd HOP
          have HSV := Lib.hid hsv
          have HSVk := Lib.hid hsv
          clear hsv
          go_upto_block 4 with (fail)
          obtain ⟨X, hX⟩ : ∃ X, X = wr.heap.size := ⟨_, rfl⟩
          obtain ⟨W4, hW4⟩ : ∃ W4, W4 = wr.alloc (.cells #[] 3) := ⟨_, rfl⟩
          rw [← hX, ← hW4] at S4 ⊢
          have hW4s : X < W4.heap.size := by rw [hW4, hX]; simp
          obtain ⟨x0, x1, x2⟩ := S4.out.c3 0 rfl
          have x3 := S4.out.lt 0 rfl rfl
          have y1 := HC.out _ S4.out.bel c hlt
          have y2 : ba < W4.heap.size := Nat.lt_of_lt_of_le hba S4.out.bel.size
          clear hX hW4 u1 u3
          have hclt : (c : Int) < (r.cells.length : Int) := by omega
          have hs64 : sv < 64 := by
            have h1 := hbd.out.1
            have h2 : 2 ^ r.wide.toNat ≤ 2 ^ 6 := Nat.pow_le_pow_right (by omega) (by omega)
            omega
          have hOL := Lib.hid (opt_len r c sv)
          obtain ⟨bv, hbv⟩ : ∃ bv, ((sv : Int) % 2 == 1) = bv := ⟨_, rfl⟩
          rw [hbv]
          go_cut [11] (fun s11 wx => ∃ (O : List Nat) (go co : Nat), s11 = .slice (some ⟨go, 0, none⟩) O.length co ∧ O = optN r c sv ∧ Sep w none wx (FsC w r (.slice (some ⟨ba, oa, none⟩) r.cells.length cap) (.slice (some ⟨ga, 0, none⟩) S.length ca) (.slice (some ⟨gb, 0, none⟩) S.length cb) (.slice (some ⟨gn, 0, none⟩) N.length cn) (.slice (some ⟨gm, 0, none⟩) N.length cm) (.slice (some ⟨go, 0, none⟩) O.length co) S M N Y O))
          case first =>
            cases bv
            · have e1 : decide (sv % 2 = 1) = false := by simp at hbv ⊢; omega
              cases hf : r.f c
              · rw [hf] at y1
                have HO : Hid (optN r c sv = [sv / 2]) := Lib.hid (by unfold optN; rw [hf]; simp)
                clear hf hbv e1
                go_wp2_with (at_builtin; refine list_app elem_ints 0 (.slice (some ⟨X, 0, none⟩) 0 0) (nv []) (Own.alloc (S4.out.own 5 rfl) _) _ (.int .i64 ((sv / 2 : Nat) : Int)) (.tmp 110) (.tmp 113) rfl rfl rfl rfl (heap_alloc_new _ _) rfl (by simp [nv]) (Nat.zero_le _) ?_; intro g2 c2 w9 A5; (have S5 := Lib.hid (fsC_appO (S4.out.alloc _) A5)); clear A5)
                go_meet
                exact ⟨[sv / 2], g2, c2, rfl, HO.out.symm, S5.out⟩
              · rw [hf] at y1
                have HO : Hid (optN r c sv = (if canF r c sv 1 1 then [sv / 2 + 1] else []) ++ (if canF r c sv 2 r.wide.toNat then [sv / 2 + 2 ^ (r.wide.toNat - 1)] else [])) := Lib.hid (by unfold optN; rw [hf, e1]; rfl)
                clear hf hbv e1
                have hcl2 : (c : Int) < r.wide * r.tall := by have := HB3.out; omega
                have HCL := Lib.hid hcl2
                clear hcl2
                go_wp2_with (fail)
                refine (l2Step_is _ r c 1 (stepI r c 1) _ (RV.out _ S4.out.bel) HV.out (by omega) HCL.out (by omega) rfl).mono ?_
                rintro e w5 ⟨rfl, hb⟩
                have S4 := Lib.hid (S4.out.below hb)
                clear hb x0 x1 x2 x3 y1 y2 hW4s
                obtain ⟨x0, x1, x2⟩ := S4.out.c3 0 rfl
                have x3 := S4.out.lt 0 rfl rfl
                go_wp2_with (fail)
                refine (l2Step_is _ r c 2 (stepI r c 2) _ (RV.out _ S4.out.bel) HV.out (by omega) HCL.out (by omega) rfl).mono ?_
                rintro e w6 ⟨rfl, hb⟩
                have S4 := Lib.hid (S4.out.below hb)
                clear hb x0 x1 x2 x3
                obtain ⟨x0, x1, x2⟩ := S4.out.c3 0 rfl
                have x3 := S4.out.lt 0 rfl rfl
                go_upto_region 18 with (fail)
                have HE1 : Hid (0 ≤ stepI r c 1 → stepI r c 1 < r.cells.length) := Lib.hid fun h0 => by have h1 := stepI_in (r := r) (c := (c : Int)) (way := 1) b1.1 (by omega) HCL.out; have h2 := HB3.out; omega
                have HE2 : Hid (0 ≤ stepI r c 2 → stepI r c 2 < r.cells.length) := Lib.hid fun h0 => by have h1 := stepI_in (r := r) (c := (c : Int)) (way := 2) b1.1 (by omega) HCL.out; have h2 := HB3.out; omega
                obtain ⟨f1, hf1⟩ : ∃ f1, canF r c sv 1 1 = f1 := ⟨_, rfl⟩
                obtain ⟨f2, hf2⟩ : ∃ f2, canF r c sv 2 r.wide.toNat = f2 := ⟨_, rfl⟩
                have HQ1 : Hid (f1 = (decide (0 ≤ stepI r c 1) && r.f (stepI r c 1).toNat && decide (sv / 2 % 2 = 0))) := Lib.hid (by rw [← hf1]; unfold canF; rw [Nat.pow_one])
                have HQ2 : Hid (f2 = (decide (0 ≤ stepI r c 2) && r.f (stepI r c 2).toNat)) := Lib.hid (by rw [← hf2]; unfold canF; rw [Nat.div_eq_of_lt hbd.out.1]; simp)
                have HZ : Hid ((sv : Int) / 2 ^ r.wide.toNat = 0) := Lib.hid (Int.ediv_eq_zero_of_lt (by omega) (by exact_mod_cast hbd.out.1))
                rw [hf1, hf2] at HO
                clear hf1 hf2
                generalize stepI r c 1 = E1 at *
                generalize stepI r c 2 = E2 at *
                have HY := Lib.hid (fun i (hi : i < r.cells.length) => HC.out _ S4.out.bel i hi)
                have y2 : ba < w6.heap.size := Nat.lt_of_lt_of_le hba S4.out.bel.size
                go_cut [66] (fun s66 wx => s66 = .bool f1 ∧ wx = w6)
                case first =>
                  rcases Int.lt_or_le E1 0 with hneg | hpos
                  · have hf : f1 = false := by rw [HQ1.out, decide_eq_false (by omega)]; rfl
                    subst hf
                    go_wp2
                    go_meet
                    exact ⟨rfl, rfl⟩
                  · have hlt1 := HE1.out hpos
                    have y1 := HY.out E1.toNat (by omega)
                    cases hfe : r.f E1.toNat
                    · have hf : f1 = false := by rw [HQ1.out, hfe]; simp
                      rw [hfe] at y1
                      clear hfe
                      subst hf
                      go_wp2
                      go_meet
                      exact ⟨rfl, rfl⟩
                    · rw [hfe] at y1
                      by_cases hq : sv / 2 % 2 = 0
                      · have hf : f1 = true := by rw [HQ1.out, hfe, decide_eq_true hpos, decide_eq_true hq]; rfl
                        have hq' : ((sv : Int) / 2 % 2 == 0) = true := by simp; omega
                        clear hfe hq
                        subst hf
                        go_wp2
                        go_meet
                        exact ⟨rfl, rfl⟩
                      · have hf : f1 = false := by rw [HQ1.out, decide_eq_false hq, Bool.and_false]
                        have hq' : ((sv : Int) / 2 % 2 == 0) = false := by simp; omega
                        clear hfe hq
                        subst hf
                        go_wp2
                        go_meet
                        exact ⟨rfl, rfl⟩
                case rest =>
                  obtain ⟨rfl, rfl⟩ := hcut
                  go_upto_if 66 with (fail)
                  go_cut [11] (fun s11 wx => ∃ (O : List Nat) (go co : Nat), s11 = .slice (some ⟨go, 0, none⟩) O.length co ∧ O = (if f1 then [sv / 2 + 1] else []) ∧ Sep w none wx (FsC w r (.slice (some ⟨ba, oa, none⟩) r.cells.length cap) (.slice (some ⟨ga, 0, none⟩) S.length ca) (.slice (some ⟨gb, 0, none⟩) S.length cb) (.slice (some ⟨gn, 0, none⟩) N.length cn) (.slice (some ⟨gm, 0, none⟩) N.length cm) (.slice (some ⟨go, 0, none⟩) O.length co) S M N Y O))
                  case first =>
                    cases f1
                    · go_wp2
                      go_meet
                      exact ⟨[], X, 0, rfl, rfl, S4.out⟩
                    · go_wp2_with (at_builtin; refine list_app elem_ints 0 (.slice (some ⟨X, 0, none⟩) 0 0) (nv []) (Own.alloc (S4.out.own 5 rfl) _) _ (.int .i64 ((sv / 2 + 1 : Nat) : Int)) (.tmp 67) (.tmp 71) rfl rfl rfl rfl (heap_alloc_new _ _) rfl (by simp [nv]) (Nat.zero_le _) ?_; intro g2 c2 w9 A5; (have S5 := Lib.hid (fsC_appO (S4.out.alloc _) A5)); clear A5)
                      go_meet
                      exact ⟨[sv / 2 + 1], g2, c2, rfl, rfl, S5.out⟩
                  case rest =>
                    obtain ⟨O, go, co, rfl, hO1, hS⟩ := hcut
                    have HO1 := Lib.hid hO1
                    have S5 := Lib.hid hS
                    clear hS hO1 S4 x0 x1 x2 x3 y2
                    obtain ⟨x0, x1, x2⟩ := S5.out.c3 0 rfl
                    have x3 := S5.out.lt 0 rfl rfl
                    have HY := Lib.hid (fun i (hi : i < r.cells.length) => HC.out _ S5.out.bel i hi)
                    have y2 := Nat.lt_of_lt_of_le hba S5.out.bel.size
                    go_upto_region 20 with (fail)
                    go_cut [89] (fun s89 wx => s89 = .bool f2 ∧ Sep w none wx (FsC w r (.slice (some ⟨ba, oa, none⟩) r.cells.length cap) (.slice (some ⟨ga, 0, none⟩) S.length ca) (.slice (some ⟨gb, 0, none⟩) S.length cb) (.slice (some ⟨gn, 0, none⟩) N.length cn) (.slice (some ⟨gm, 0, none⟩) N.length cm) (.slice (some ⟨go, 0, none⟩) O.length co) S M N Y O))
                    case first =>
                      rcases Int.lt_or_le E2 0 with hneg | hpos
                      · have hf : f2 = false := by rw [HQ2.out, decide_eq_false (by omega)]; rfl
                        subst hf
                        go_wp2
                        go_meet
                        exact ⟨rfl, S5.out⟩
                      · have hlt1 := HE2.out hpos
                        have y1 := HY.out E2.toNat (by omega)
                        cases hfe : r.f E2.toNat
                        · have hf : f2 = false := by rw [HQ2.out, hfe]; simp
                          rw [hfe] at y1
                          clear hfe
                          subst hf
                          go_wp2
                          go_meet
                          exact ⟨rfl, S5.out⟩
                        · rw [hfe] at y1
                          have hf : f2 = true := by rw [HQ2.out, hfe, decide_eq_true hpos]; rfl
                          have hz := HZ.out
                          clear hfe
                          subst hf
                          go_wp2
                          go_meet
                          exact ⟨rfl, S5.out⟩
                    case rest =>
                      clear S5 x0 x1 x2 x3 y2 HY
                      obtain ⟨rfl, hS⟩ := hcut
                      have S5 := Lib.hid hS
                      clear hS
                      obtain ⟨x0, x1, x2⟩ := S5.out.c3 0 rfl
                      have x3 := S5.out.lt 0 rfl rfl
                      go_upto_if 89 with (fail)
                      cases f2
                      · go_wp2
                        go_meet
                        exact ⟨O, go, co, rfl, by rw [HO.out, HO1.out]; simp, S5.out⟩
                      · obtain ⟨pw, hpw⟩ : ∃ pw, 2 ^ (r.wide.toNat - 1) = pw := ⟨_, rfl⟩
                        have hp1 : pw ≤ 32 := by
                          have h2 : 2 ^ (r.wide.toNat - 1) ≤ 2 ^ 5 := Nat.pow_le_pow_right (by omega) (by omega)
                          omega
                        have hp2 : (2 : Int) ^ (r.wide - 1).toNat = (pw : Int) := by rw [← hpw, show (r.wide - 1).toNat = r.wide.toNat - 1 by omega]; simp
                        have hp3 : (2 : Int) ^ (r.wide.toNat - 1) = (pw : Int) := by rw [← hpw]; simp
                        have HPW := Lib.hid hpw
                        have hOl := Lib.hid (show O.length ≤ 1 by rw [HO1.out]; split <;> simp)
                        clear hpw
                        go_wp2_with (at_builtin; refine list_app elem_ints 0 (.slice (some ⟨go, 0, none⟩) O.length co) (nv O) (Own.alloc (S5.out.own 5 rfl) _) _ (.int .i64 ((sv / 2 + pw : Nat) : Int)) (.tmp 90) (.tmp 98) rfl rfl rfl rfl (heap_alloc_new _ _) rfl (by rw [nv_len]; have := hOl.out; omega) (Nat.zero_le _) ?_; intro g2 c2 w9 A5; (have S6 := Lib.hid (fsC_appO (S5.out.alloc _) A5)); clear A5)
                        go_meet
                        exact ⟨O ++ [sv / 2 + pw], g2, c2, by simp [nv], by rw [HO.out, HO1.out, HPW.out]; simp, by simpa using S6.out⟩
            · have e1 : decide (sv % 2 = 1) = true := by simp at hbv ⊢; omega
              have HO : Hid (optN r c sv = [sv / 2]) := Lib.hid (by unfold optN; rw [e1]; simp)
              clear hbv e1
              go_wp2_with (at_builtin; refine list_app elem_ints 0 (.slice (some ⟨X, 0, none⟩) 0 0) (nv []) (Own.alloc (S4.out.own 5 rfl) _) _ (.int .i64 ((sv / 2 : Nat) : Int)) (.tmp 110) (.tmp 113) rfl rfl rfl rfl (heap_alloc_new _ _) rfl (by simp [nv]) (Nat.zero_le _) ?_; intro g2 c2 w9 A5; (have S5 := Lib.hid (fsC_appO (S4.out.alloc _) A5)); clear A5)
              go_meet
              exact ⟨[sv / 2], g2, c2, rfl, HO.out.symm, S5.out⟩
          case rest =>
            obtain ⟨O, go, co, rfl, hO, hS⟩ := hcut
            have S5 := Lib.hid hS
            have HOP2 : Hid (frF r c sv = sumL (frF r (c + 1)) O ∧ ∀ o ∈ O, bdF r (c + 1) o) := Lib.hid (by rw [hO]; exact HOP.out)
            have hOl : O.length ≤ 2 := by rw [hO]; exact opt_len r c sv
            have HOl := Lib.hid hOl
            clear hS hO S4 x0 x1 x2 x3 y1 y2 hW4s hbv hOL
            obtain ⟨x, hx⟩ : ∃ x, M.getD k 0 = x := ⟨_, rfl⟩
            have HX := Lib.hid hx
            clear hx
            obtain ⟨T0, hT0⟩ : ∃ T0, T0 = sumF (frF r c) (S.take k) (M.take k) := ⟨_, rfl⟩
            obtain ⟨U0, hU0⟩ : ∃ U0, U0 = 2 * sumF (fun _ => 1) (S.take k) (M.take k) := ⟨_, rfl⟩
            rw [← hT0, ← hU0] at HN
            have HT0 := Lib.hid hT0
            have HU0 := Lib.hid hU0
            have hpc : 2 ^ c ≤ 2 ^ 36 := Nat.pow_le_pow_right (by omega) (by omega)
            have hxb : x ≤ 2 ^ 36 := by rw [← HX.out]; exact Nat.le_trans (HF.out.way k) hpc
            have hUb : U0 ≤ 2 * 2 ^ 36 := by
              have h1 := sumF_le_take S M k HF.out.len
              have h2 := HF.out.tot
              rw [hU0]; omega
            have hkb : k ≤ 2 ^ 36 := by have := HF.out.ln; omega
            have HJ0 : Hid (Fr r (c + 1) N Y (T0 + x * sumL (frF r (c + 1)) (O.take 0)) (U0 + x * 0) (2 * k + 0)) := Lib.hid (by simpa [sumL] using HN.out)
            have HXB := Lib.hid (And.intro hxb (And.intro hUb hkb))
            clear hT0 hU0 hpc hxb hUb hkb hs64 HSV HN
            have HSV := Lib.hid (show S.getD k 0 = sv from HSVk.out)
            clear HS
            go_wp2_with (fail)
            go_loopw [6, 7, 14] (fun a6 a7 i wr => ∃ (j : Nat) (N Y : List Nat) (gn cn gm cm : Nat), j ≤ O.length ∧ i = .int .i64 j ∧ a6 = .slice (some ⟨gn, 0, none⟩) N.length cn ∧ a7 = .slice (some ⟨gm, 0, none⟩) N.length cm ∧ Sep w none wr (FsC w r (.slice (some ⟨ba, oa, none⟩) r.cells.length cap) (.slice (some ⟨ga, 0, none⟩) S.length ca) (.slice (some ⟨gb, 0, none⟩) S.length cb) (.slice (some ⟨gn, 0, none⟩) N.length cn) (.slice (some ⟨gm, 0, none⟩) N.length cm) (.slice (some ⟨go, 0, none⟩) O.length co) S M N Y O) ∧ Hid (Fr r (c + 1) N Y (T0 + x * sumL (frF r (c + 1)) (O.take j)) (U0 + x * j) (2 * k + j))) (fun _ _ i _ => O.length - (intOf i).toNat)
            case atStart => exact ⟨0, N, Y, gn, cn, gm, cm, Nat.zero_le _, rfl, rfl, rfl, S5.out, HJ0⟩
            case round =>
              clear S5 HJ0
              obtain ⟨j, N, Y, gn, cn, gm, cm, hj, rfl, rfl, rfl, hS, HN⟩ := hrel
              have HS := Lib.hid hS
              clear hS
              by_cases hjl : j < O.length
              · have hjl' : (j : Int) < (O.length : Int) := by omega
                obtain ⟨o, ho⟩ : ∃ o, O.getD j 0 = o := ⟨_, rfl⟩
                have HO := Lib.hid ho
                have HOB : Hid (bdF r (c + 1) o) := Lib.hid (HOP2.out.2 o (by rw [← ho]; simp only [List.getD_eq_getElem?_getD, List.getElem?_eq_getElem hjl, Option.getD_some]; exact List.getElem_mem hjl))
                clear ho
                have HNl : Hid (N.length ≤ 2 ^ 38) := Lib.hid (by have h1 := HN.out.ln; have h2 := HXB.out.2.2; have h3 := HOl.out; omega)
                go_wp2_with (fail)
                go_loopw [15] (fun i wr => ∃ q : Nat, q ≤ N.length ∧ i = .int .i64 q ∧ Hid (∀ p, p < q → N.getD p 0 ≠ o) ∧ Sep w none wr (FsC w r (.slice (some ⟨ba, oa, none⟩) r.cells.length cap) (.slice (some ⟨ga, 0, none⟩) S.length ca) (.slice (some ⟨gb, 0, none⟩) S.length cb) (.slice (some ⟨gn, 0, none⟩) N.length cn) (.slice (some ⟨gm, 0, none⟩) N.length cm) (.slice (some ⟨go, 0, none⟩) O.length co) S M N Y O)) (fun i _ => N.length - (intOf i).toNat)
                case atStart => exact ⟨0, Nat.zero_le _, rfl, Lib.hid (fun p hp => by omega), HS.out⟩
                case round =>
                  clear HS
                  obtain ⟨q, hq, rfl, HNE, hS⟩ := hrel
                  have HS := Lib.hid hS
                  clear hS
                  obtain ⟨v1, v2, v3⟩ := own_nat (HS.out.own 5 rfl) (j := j) hjl
                  rw [HO.out] at v1
                  clear v2
                  by_cases hql : q < N.length
                  · have hql' : (q : Int) < (N.length : Int) := by omega
                    obtain ⟨u1, u2, u3⟩ := own_nat (HS.out.own 3 rfl) (j := q) hql
                    clear u2
                    by_cases hz : N.getD q 0 = o
                    · rw [hz] at u1
                      have HNq := Lib.hid hz
                      have hcc : ((o : Int) != (o : Int)) = false := by simp
                      have hqe : ((q : Int) == (N.length : Int)) = false := by simp; omega
                      have HYl : Hid (N.length = Y.length) := Lib.hid HN.out.len
                      clear hz
                      obtain ⟨t1, t2, t3⟩ := own_nat (HS.out.own 4 rfl) (j := q) (by have := HYl.out; omega)
                      obtain ⟨m1, m2, m3⟩ := own_nat (HS.out.own 2 rfl) (j := k) (by have := HF.out.len; omega)
                      rw [HX.out] at m1
                      clear m2
                      obtain ⟨y, hy⟩ : ∃ y, Y.getD q 0 = y := ⟨_, rfl⟩
                      rw [hy] at t1
                      have HYq := Lib.hid hy
                      have hyb : (y : Int) + (x : Int) ≤ 8 * 2 ^ 36 := by
                        have h1 := HN.out.way q
                        have h2 := HXB.out
                        have h3 : x * j ≤ 2 ^ 36 * 2 := Nat.mul_le_mul h2.1 (by have := HOl.out; omega)
                        rw [hy] at h1
                        omega
                      clear hy
                      go_wp2
                      go_quiet (fail)
                      go_wp2
                      have hLc : ∀ (n : Nat) (M : Later (wr.drewN n)) (b o : Nat), b < wr.heap.size → M.x.cell? ⟨b, o, none⟩ = wr.cell? ⟨b, o, none⟩ := fun n M b o h => Later.cell M b o h
                      have hLf : ∀ (n : Nat) (M : Later (wr.drewN n)) (b o : Nat), b < wr.heap.size → M.x.frozen? ⟨b, o, none⟩ = wr.frozen? ⟨b, o, none⟩ := fun n M b o h => Later.frozen M b o h
                      refine wp_region_later 12 (by kernel_rfl) (by kernel_rfl) ?_
                      simp only [List.take_succ_cons, List.take_zero, List.drop_succ_cons, List.drop_zero]
                      repeat (go_big_quiet_step (fail))
                      refine wpQuiet_nil ?_
                      intro Mw
                      go_wp2_with (fail)
                      have HSa : Hid (Sep w none (Mw.x.setCell ⟨gm, q, none⟩ (.int .i64 ((y : Int) + (x : Int)))) (FsC w r (.slice (some ⟨ba, oa, none⟩) r.cells.length cap) (.slice (some ⟨ga, 0, none⟩) S.length ca) (.slice (some ⟨gb, 0, none⟩) S.length cb) (.slice (some ⟨gn, 0, none⟩) N.length cn) (.slice (some ⟨gm, 0, none⟩) N.length cm) (.slice (some ⟨go, 0, none⟩) O.length co) S M N (Y.set q (y + x)) O)) := Lib.hid (fsC_setM ((HS.out.drewN _).later Mw) q (y + x))
                      have HN2 := Lib.hid (HN.out.step (k := k) hjl HO.out hql HNq.out (by omega))
                      rw [HYq.out] at HN2
                      go_roundw
                      case rel => exact ⟨j + 1, N, _, gn, cn, gm, cm, by omega, by go_num, rfl, rfl, HSa.out, HN2⟩
                      case measure => simp [intOf]; omega
                    · have HN2 : Hid (∀ p, p < q + 1 → N.getD p 0 ≠ o) := Lib.hid fun p hp => by
                        by_cases e : p = q
                        · subst e; exact hz
                        · exact HNE.out p (by omega)
                      have hq38 := HNl.out
                      have hcc : (((N.getD q 0 : Nat) : Int) != (o : Int)) = true := by simp only [bne_iff_ne, ne_eq]; omega
                      clear hz
                      generalize N.getD q 0 = z at *
                      go_wp2
                      go_quiet (fail)
                      go_wp2
                      go_roundw
                      case rel => exact ⟨q + 1, by omega, by go_num, HN2, HS.out.drewN _⟩
                      case measure => simp [intOf]; omega
                  · have hqN : q = N.length := by omega
                    subst hqN
                    have hqe : ((N.length : Int) == (N.length : Int)) = true := by simp
                    have hql' : ¬ (N.length : Int) < (N.length : Int) := by omega
                    have hNl := HNl.out
                    go_wp2
                    go_quiet (fail)
                    go_wp2_with (first
                      | (at_builtin; refine list_app elem_ints 0 (.slice (some ⟨gn, 0, none⟩) N.length cn) (nv N) (Own.alloc ((HS.out.drewN _).own 3 rfl) _) _ (.int .i64 (o : Int)) (.tmp 142) (.tmp 147) rfl rfl rfl rfl (heap_alloc_new _ _) rfl (by rw [nv_len]; have := HNl.out; omega) (Nat.zero_le _) ?_; intro g5 c5 w5 A5; (have S5 := Lib.hid (fsC_appN ((HS.out.drewN _).alloc _) A5)); clear A5)
                      | (at_builtin; refine list_app elem_ints 0 (.slice (some ⟨gm, 0, none⟩) N.length cm) (nv Y) (Own.alloc (S5.out.own 4 rfl) _) _ (.int .i64 ((0 : Nat) : Int)) (.tmp 149) (.tmp 150) rfl rfl rfl rfl (heap_alloc_new _ _) rfl (by rw [nv_len, ← HN.out.len]; have := HNl.out; omega) (Nat.zero_le _) ?_; intro g6 c6 w6 A6; (have S6 := Lib.hid (fsC_appM (S5.out.alloc _) A6)); clear A6))
                    have HYl : Hid (N.length = Y.length) := Lib.hid HN.out.len
                    have S7 : Hid (Sep w none w6 (FsC w r (.slice (some ⟨ba, oa, none⟩) r.cells.length cap) (.slice (some ⟨ga, 0, none⟩) S.length ca) (.slice (some ⟨gb, 0, none⟩) S.length cb) (.slice (some ⟨g5, 0, none⟩) (N.length + 1) c5) (.slice (some ⟨g6, 0, none⟩) (N.length + 1) c6) (.slice (some ⟨go, 0, none⟩) O.length co) S M (N ++ [o]) (Y ++ [0]) O)) := Lib.hid (by have h := S6.out; rw [← HYl.out] at h; exact h)
                    clear S5 S6 v1 v3 hqe hql' hNl
                    simp only [nv_len]
                    rw [← HYl.out]
                    have hY0 : Hid ((Y ++ [0]).getD N.length 0 = 0) := Lib.hid (by rw [HYl.out]; simp)
                    obtain ⟨t1, t2, t3⟩ := own_nat (S7.out.own 4 rfl) (j := N.length) (by rw [HYl.out]; simp)
                    rw [hY0.out] at t1
                    obtain ⟨m1, m2, m3⟩ := own_nat (S7.out.own 2 rfl) (j := k) (by have := HF.out.len; omega)
                    rw [HX.out] at m1
                    clear m2
                    have hxb := HXB.out.1
                    have hnn : (N.length : Int) < (N.length : Int) + 1 := by omega
                    have hLc : ∀ (M : Later w6) (b o : Nat), b < w6.heap.size → M.x.cell? ⟨b, o, none⟩ = w6.cell? ⟨b, o, none⟩ := Later.cell
                    have hLf : ∀ (M : Later w6) (b o : Nat), b < w6.heap.size → M.x.frozen? ⟨b, o, none⟩ = w6.frozen? ⟨b, o, none⟩ := Later.frozen
                    refine wp_region_later 12 (by kernel_rfl) (by kernel_rfl) ?_
                    simp only [List.take_succ_cons, List.take_zero, List.drop_succ_cons, List.drop_zero]
                    repeat (go_big_quiet_step (fail))
                    refine wpQuiet_nil ?_
                    intro Mw
                    go_wp2_with (fail)
                    have HSa : Hid (Sep w none (Mw.x.setCell ⟨g6, N.length, none⟩ (.int .i64 (x : Int))) (FsC w r (.slice (some ⟨ba, oa, none⟩) r.cells.length cap) (.slice (some ⟨ga, 0, none⟩) S.length ca) (.slice (some ⟨gb, 0, none⟩) S.length cb) (.slice (some ⟨g5, 0, none⟩) (N.length + 1) c5) (.slice (some ⟨g6, 0, none⟩) (N.length + 1) c6) (.slice (some ⟨go, 0, none⟩) O.length co) S M (N ++ [o]) ((Y ++ [0]).set N.length x) O)) := Lib.hid (fsC_setM (S7.out.later Mw) N.length x)
                    have HN2 := Lib.hid ((HN.out.new HOB.out).step (k := k) (q := N.length) hjl HO.out (by simp) (by simp) (by omega))
                    rw [hY0.out, Nat.zero_add] at HN2
                    go_roundw
                    case rel => exact ⟨j + 1, N ++ [o], (Y ++ [0]).set N.length x, g5, c5, g6, c6, by omega, by go_num, by rw [List.length_append]; rfl, by rw [List.length_append]; rfl, by rw [List.length_append]; exact HSa.out, HN2⟩
                    case measure => simp [intOf]; omega
              · have e : j = O.length := by omega
                subst e
                have hk36 := HXB.out.2.2
                have HNr := Lib.hid (Fr.round hkl HF.out.len HX.out HSV.out HOP2.out.1 HOl.out HT0.out HU0.out HN.out)
                go_wp2_with (fail)
                go_roundw
                case rel => exact ⟨k + 1, N, Y, gn, cn, gm, cm, by omega, by go_num, rfl, rfl, fsC_drop HS.out, HNr⟩
                case measure => simp [intOf]; omega
        · have e : k = S.length := by omega
          subst e
          have HNr := Lib.hid (HF.out.outer HN.out)
          go_wp2_with (fail)
          go_roundw
          case rel => exact ⟨c + 1, N, Y, gn, cn, gm, cm, by omega, by go_num, rfl, rfl, fsB_drop HS.out, HNr⟩
          case measure => simp [intOf]; omega
    · have e : c = r.cells.length := by omega
      subst e
      have hTT : Hid (sumF (fun _ => 1) S M = withL r (bareL r)) := Lib.hid (by
        rw [← HF.out.sum]
        have : (fun _ => 1) = frF r r.cells.length := by funext s; exact (frF_end r s).symm
        rw [this])
      obtain ⟨x0, x1, x2⟩ := HS.out.c3 0 rfl
      go_wp2_with (fail)
      clear x0 x1 x2
      have hpc : 2 ^ r.cells.length ≤ 2 ^ 36 := Nat.pow_le_pow_right (by omega) hl36
      have HT36 : Hid (sumF (fun _ => 1) S M ≤ 2 ^ 36) := Lib.hid (Nat.le_trans HF.out.tot hpc)
      have HLl := Lib.hid HF.out.len
      have HS36 : Hid (S.length ≤ 2 ^ 36) := Lib.hid (Nat.le_trans HF.out.ln hpc)
      have HZ : Hid (∀ k, k < S.length → S.getD k 0 = 0) := Lib.hid fun k hk => by
        have h := (HF.out.bd (S.getD k 0) (by simp only [List.getD_eq_getElem?_getD, List.getElem?_eq_getElem hk, Option.getD_some]; exact List.getElem_mem hk)).2
        rw [Nat.sub_self] at h; omega
      clear hpc
      go_loopw [16, 17] (fun a16 i wr => ∃ k : Nat, k ≤ S.length ∧ i = .int .i64 k ∧ a16 = .int .i64 (sumF (fun _ => 1) (S.take k) (M.take k) : Nat) ∧ Sep w none wr (FsA w r (.slice (some ⟨ba, oa, none⟩) r.cells.length cap) (.slice (some ⟨ga, 0, none⟩) S.length ca) (.slice (some ⟨gb, 0, none⟩) S.length cb) S M)) (fun _ i _ => S.length - (intOf i).toNat)
      case atStart => exact ⟨0, Nat.zero_le _, rfl, rfl, HS.out⟩
      case round =>
        clear HS
        obtain ⟨k, hk, rfl, rfl, hS⟩ := hrel
        have HS := Lib.hid hS
        clear hS
        by_cases hkl : k < S.length
        · have hkl' : (k : Int) < (S.length : Int) := by omega
          obtain ⟨u1, u2, u3⟩ := own_nat (HS.out.own 1 rfl) (j := k) hkl
          rw [HZ.out k hkl] at u1
          obtain ⟨m1, m2, m3⟩ := own_nat (HS.out.own 2 rfl) (j := k) (by have := HLl.out; omega)
          clear u2 m2
          have HSu : Hid (sumF (fun _ => 1) (S.take (k + 1)) (M.take (k + 1)) = sumF (fun _ => 1) (S.take k) (M.take k) + M.getD k 0) := Lib.hid (by rw [sumF_take _ _ _ _ hkl HLl.out, Nat.mul_one])
          have hb1 : sumF (fun _ => 1) (S.take k) (M.take k) ≤ 2 ^ 36 := Nat.le_trans (sumF_le_take S M k HLl.out) HT36.out
          have hb2 : M.getD k 0 ≤ 2 ^ 36 := Nat.le_trans (getD_le_sumF S M k HLl.out) HT36.out
          generalize sumF (fun _ => 1) (S.take k) (M.take k) = A at *
          generalize M.getD k 0 = B at *
          have hk36 := HS36.out
          go_wp2_with (fail)
          go_roundw
          case rel => exact ⟨k + 1, by omega, by go_num, by rw [HSu.out]; rfl, HS.out⟩
          case measure => simp [intOf]; omega
        · have e : k = S.length := by omega
          subst e
          go_wp2
          go_ret
          refine ⟨?_, HS.out.bel⟩
          rw [List.take_length, HLl.out, List.take_length, hTT.out, ← withL_bare HV.out]
          rfl

end Go.Proofs.Ytbjenmfoblniaaa
