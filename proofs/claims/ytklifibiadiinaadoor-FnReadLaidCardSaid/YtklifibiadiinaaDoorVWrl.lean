/- Walks: reading rows of dominoes' signs. -/
import Derived.Test.YtklifibiadiinaaDoorVWrd
import Derived.Test.YtklifibiadiinaaDoorZc
set_option linter.unusedVariables false
namespace Go.Proofs.YtklifibiadiinaaDoor
open Go.RowKit Domi

def ixL (c : UInt8) : Int := Lib.indexByte [35, 101, 110, 119, 115] c
theorem ixL_facts (c : UInt8) : okL c = (c == 46 || decide (0 ≤ ixL c)) ∧ -1 ≤ ixL c ∧ ixL c ≤ 4 ∧ wayC c = (if 0 ≤ ixL c then ixL c else 0) := by
  by_cases h1 : c = 35
  · subst h1; decide
  by_cases h2 : c = 101
  · subst h2; decide
  by_cases h3 : c = 110
  · subst h3; decide
  by_cases h4 : c = 119
  · subst h4; decide
  by_cases h5 : c = 115
  · subst h5; decide
  have e : ixL c = -1 := by
    unfold ixL
    simp [Lib.indexByte, Ne.symm h1, Ne.symm h2, Ne.symm h3, Ne.symm h4, Ne.symm h5]
  rw [e]
  refine ⟨?_, by decide, by decide, ?_⟩
  · unfold okL
    simp [h1, h2, h3, h4, h5]
  · unfold wayC
    simp [h2, h3, h4, h5]
theorem ix_any (c : UInt8) (w : World) : Calls Tryd.prog 34 #[.string ⟨#[35, 101, 110, 119, 115]⟩, .int .u8 (c.toNat : Int)] w fun e w' => e = .returned (.int .i64 (ixL c)) ∧ w' = w := by
  have h := Tryd.strings_IndexByte ⟨#[35, 101, 110, 119, 115]⟩ (c.toNat : Int) w
  have e : ((c.toNat : Int).toNat.toUInt8) = c := by simp
  rw [e] at h
  exact h
theorem signOkL_any (c : UInt8) (w : World) : Calls Tryd.prog 33 #[.int .u8 (c.toNat : Int)] w (Ret (.bool (okL c)) w) := by
  obtain ⟨f1, f2, f3, _⟩ := ixL_facts c
  have h2 : (c.toNat : Int) = 46 ↔ c = 46 := by
    constructor
    · intro h; exact UInt8.toNat_inj.1 (show c.toNat = 46 by omega)
    · rintro rfl; rfl
  have C := ix_any c w
  obtain ⟨n, hn⟩ : ∃ n : Int, (c.toNat : Int) = n := ⟨_, rfl⟩
  obtain ⟨q, hq⟩ : ∃ q : Int, ixL c = q := ⟨_, rfl⟩
  rw [hn] at h2 C ⊢
  rw [hq] at f1 f2 f3 C
  have C := Lib.hid C
  have HO : Hid (okL c = (decide (n = 46) || decide (0 ≤ q))) := Lib.hid (by
    have a1 : (c == 46) = decide (n = 46) := by rw [Bool.eq_iff_iff, beq_iff_eq, decide_eq_true_iff]; exact h2.symm
    rw [f1, a1])
  clear f1 h2 hn hq
  go_enter Tryd.func33, Tryd.ntmps33
  by_cases e2 : n = 46
  · subst e2
    go_wp2
    go_ret
    exact ⟨by rw [HO.out]; rfl, Below.refl _ _⟩
  · have e2' : (n == 46) = false := by simpa using e2
    by_cases e3 : 0 ≤ q
    · go_wp2_with (fail)
      refine C.out.mono ?_
      rintro e w1 ⟨rfl, rfl⟩
      go_wp2
      go_ret
      exact ⟨by rw [HO.out, decide_eq_false e2, decide_eq_true e3]; rfl, Below.refl _ _⟩
    · go_wp2_with (fail)
      refine C.out.mono ?_
      rintro e w1 ⟨rfl, rfl⟩
      go_wp2
      go_ret
      exact ⟨by rw [HO.out, decide_eq_false e2]; rfl, Below.refl _ _⟩
set_option maxRecDepth 100000 in
set_option maxHeartbeats 4000000 in
theorem read33_n (ok : UInt8 → Bool) (s : ByteArray) (w : World) (hs : s.size ≤ 1000) (m : Int) (hm : w.cell? ⟨0, 0, none⟩ = some (.int .i64 m)) (hw0 : 0 < w.heap.size)
    (hF : ∀ (c : UInt8) (x : World), Below w.heap.size w x → Calls Tryd.prog 33 #[.int .u8 (c.toNat : Int)] x (Ret (.bool (ok c)) x)) :
    Calls Tryd.prog 32 #[.string s, .func (.func 33) #[] #[]] w (ReadP ok s.data.toList w) := by
  have HF := Lib.hid hF
  obtain ⟨R, hR⟩ : ∃ R, spl s.data.toList = R := ⟨_, rfl⟩
  have HR := Lib.hid hR
  have hn1 : 1 ≤ R.length := by rw [← hR]; exact tallU_pos s.data.toList
  have hn2 : R.length ≤ 1001 := by
    rw [← hR, count_slash]
    have := List.count_le_length (a := (47 : UInt8)) (l := s.data.toList)
    have h2 : s.data.toList.length = s.size := by rw [Array.length_toList]; rfl
    omega
  obtain ⟨w1, hw1⟩ : ∃ w1, w1 = w.alloc (.cells #[.int .i64 0, .int .i64 0, .slice none 0 0] 25) := ⟨_, rfl⟩
  have HSP := Tryd.strings_Split s (bs [47]) m w1 (by omega) (by rw [hw1]; rw [(below_alloc w _).cell hw0]; exact hm) (by decide)
  rw [(split_bs s).1, (split_bs s).2, hR] at HSP
  have HSP := Lib.hid HSP
  have S1 := Lib.hid (show Sep w none w1 [.box w.heap.size #[.int .i64 0, .int .i64 0, .slice none 0 0] 25] by rw [hw1]; exact (Sep.start w none).box _ _)
  obtain ⟨n, hn⟩ : ∃ n, R.length = n := ⟨_, rfl⟩
  have HN := Lib.hid hn
  rw [hn] at hn1 hn2 HSP
  clear hF hm hw0 hR hn
  go_enter Tryd.func32, Tryd.ntmps32
  go_wp2_with (fail)
  rw [← hw1]
  clear hw1
  refine HSP.out.mono ?_
  rintro e w2 ⟨rfl, rfl⟩
  have S2 := str_row S1.out R (by rw [HN.out]; omega)
  rw [HN.out] at S2
  obtain ⟨w2, hw2⟩ : ∃ w2, w2 = w1.alloc (.cells ((R.map bs).map Value.string).toArray 9) := ⟨_, rfl⟩
  rw [← hw2] at S2 ⊢
  clear hw2 HSP
  obtain ⟨g1, hg1⟩ : ∃ g1, w1.heap.size = g1 := ⟨_, rfl⟩
  rw [hg1] at S2 ⊢
  clear hg1 S1
  have S2 := Lib.hid S2
  have rowAt : Hid (∀ (i j : Nat) (S : List It) (x : World), S[i]? = some (.row 9 (.slice (some ⟨g1, 0, none⟩) n n) (R.map fun l => Value.string (bs l))) → Sep w none x S → j < n → x.cell? ⟨g1, j, none⟩ = some (.string (bs (R.getD j [])))) := Lib.hid fun i j S x hi hS hj => by
    rw [((hS.own i hi).cell j hj).1, List.getElem?_map, List.getElem?_eq_getElem (by rw [HN.out]; exact hj), List.getD_eq_getElem?_getD, List.getElem?_eq_getElem (by rw [HN.out]; exact hj)]
    rfl
  have c0 := rowAt.out 1 0 _ _ rfl S2.out (by omega)
  obtain ⟨B0, hB0⟩ : ∃ B0, bs (R.getD 0 []) = B0 := ⟨_, rfl⟩
  obtain ⟨W, hW⟩ : ∃ W, B0.size = W := ⟨_, rfl⟩
  have HW : Hid (wideU s.data.toList = W) := Lib.hid (by
    rw [← hW, ← hB0, bs_size]; unfold wideU; rw [HR.out]
    cases R with
    | nil => have := HN.out; simp at this; omega
    | cons a t => rfl)
  have hWb : W ≤ 1000 := by
    rw [← HW.out]
    have h1 := wide_le s.data.toList
    have h2 : s.data.toList.length = s.size := by rw [Array.length_toList]; rfl
    omega
  rw [hB0] at c0
  clear hB0
  go_wp2_with (fail)
  have zeroAt : Hid (∀ x : World, Sep w none x ([.box w.heap.size #[.int .i64 0, .int .i64 0, .slice none 0 0] 25] ++ [.row 9 (.slice (some ⟨g1, 0, none⟩) n n) (R.map fun l => Value.string (bs l))]) → x.heap[w.heap.size]? = some (.cells #[.int .i64 0, .int .i64 0, .slice none 0 0] 25 (0, 0))) := Lib.hid fun x hS => hS.blk 0 rfl
  by_cases hwd : 1 ≤ W ∧ W ≤ 6
  rotate_left
  · have HB : Hid (goodU ok s.data.toList = false) := Lib.hid (by
      cases h : goodU ok s.data.toList
      · rfl
      · have := (fitU_iff.1 (goodU_iff.1 h).1).1
        rw [HW.out] at this
        exact absurd this hwd)
    refine (tin_is _ _ _ _ false (by
      cases h : inB (W : Int) 1 6
      · rfl
      · have := inB_iff.1 h; omega)).mono ?_
    rintro e w3 ⟨rfl, rfl⟩
    obtain ⟨q0, q1, q2, q3, q4, q5⟩ := three_cells (zeroAt.out _ S2.out)
    have BE := Lib.hid S2.out.bel
    clear hwd
    have P := Lib.hid (S2.out.put3 0 rfl (.int .i64 0) (.int .i64 0) (.slice none 0 0))
    obtain ⟨p0, p1, p2, _⟩ := three_cells (P.out.blk 0 rfl)
    have Q0 := Lib.hid p0
    have Q1 := Lib.hid p1
    have Q2 := Lib.hid p2
    clear p0 p1 p2
    go_wp2_with (fail)
    exact bodyPost_ret (by simp [results, Tryd.results32, go_sem, Q0.out, Q1.out, Q2.out]) rfl (readP_no HB.out P.out.bel)
  · refine (tin_is _ _ _ _ true (inB_iff.2 (by omega))).mono ?_
    rintro e w3 ⟨rfl, rfl⟩
    go_wp2_with (fail)
    by_cases hn6 : n ≤ 6
    rotate_left
    · have HB : Hid (goodU ok s.data.toList = false) := Lib.hid (by
        cases h : goodU ok s.data.toList
        · rfl
        · have := (fitU_iff.1 (goodU_iff.1 h).1).2.1
          unfold tallU at this
          rw [HR.out, HN.out] at this
          exact absurd this hn6)
      refine (tin_is _ _ _ _ false (by
        cases h : inB (n : Int) 1 6
        · rfl
        · have := inB_iff.1 h; omega)).mono ?_
      rintro e w3 ⟨rfl, rfl⟩
      obtain ⟨q0, q1, q2, q3, q4, q5⟩ := three_cells (zeroAt.out _ S2.out)
      clear hwd
      have P := Lib.hid (S2.out.put3 0 rfl (.int .i64 0) (.int .i64 0) (.slice none 0 0))
      obtain ⟨p0, p1, p2, _⟩ := three_cells (P.out.blk 0 rfl)
      have Q0 := Lib.hid p0
      have Q1 := Lib.hid p1
      have Q2 := Lib.hid p2
      clear p0 p1 p2
      go_wp2_with (fail)
      exact bodyPost_ret (by simp [results, Tryd.results32, go_sem, Q0.out, Q1.out, Q2.out]) rfl (readP_no HB.out P.out.bel)
    · refine (tin_is _ _ _ _ true (inB_iff.2 (by omega))).mono ?_
      rintro e w3 ⟨rfl, rfl⟩
      go_wp2_with (fail)
      obtain ⟨N, hN⟩ : ∃ N, W * n = N := ⟨_, rfl⟩
      have hN36 : N ≤ 36 := by rw [← hN]; exact Nat.mul_le_mul hwd.2 hn6
      have HNN := Lib.hid hN
      refine (field_any W n _ (by omega) (by omega) N (by rw [← hN]; push_cast; rfl) (by omega)).mono ?_
      rintro e w4 ⟨g2, rfl, hg2, hg2', ho, hb⟩
      have S3 := Lib.hid ((S2.out.below hb).add S2.out ho)
      clear ho hb hg2 hg2' hN
      have S4 := Lib.hid (S3.out.box #[.int .i64 W, .int .i64 n, .slice (some ⟨g2, 0, none⟩) N N] 25)
      obtain ⟨w5, hw5⟩ : ∃ w5, w5 = w4.alloc (.cells #[.int .i64 W, .int .i64 n, .slice (some ⟨g2, 0, none⟩) N N] 25) := ⟨_, rfl⟩
      obtain ⟨X, hX⟩ : ∃ X, w4.heap.size = X := ⟨_, rfl⟩
      rw [← hw5, hX] at S4
      have hNI : (W : Int) * (n : Int) = (N : Int) := by rw [← HNN.out]; push_cast; rfl
      clear S2 S3
      go_upto_region 6 with (fail)
      rw [← hw5]
      clear hw5 hX
      go_wp2_with (at_make; refine list_make elem_u8 (.int .u8 0) zero_u8 rfl N (.tmp 38) (.tmp 38) rfl rfl (N : Int) ?_ ?_ rfl ?_ ?_ ?_; rfl; rfl; omega; omega; intro cs hcs; (have S5 := Lib.hid (S4.out.made (e := 5) hcs (by omega))))
      obtain ⟨g3, hg3⟩ : ∃ g3, w5.heap.size = g3 := ⟨_, rfl⟩
      obtain ⟨w6, hw6⟩ : ∃ w6, w6 = w5.alloc (.cells cs 5) := ⟨_, rfl⟩
      rw [hg3, ← hw6] at S5
      rw [hg3, ← hw6]
      have S6 := Lib.hid (show Sep w none w6 (rdS w.heap.size g1 g2 g3 X n N W R 0 0) by
        have h := S5.out
        unfold rdS
        rw [fill_start, fill_start, HNN.out, List.map_replicate, List.map_replicate]
        exact h)
      clear S4 S5 hg3 hw6 hNI zeroAt
      go_loopw [42] (fun i wr => ∃ k : Nat, k ≤ n ∧ i = .int .i64 k ∧ Hid (∀ j, j < k → (R.getD j []).length = W ∧ ∀ c ∈ R.getD j [], ok c = true) ∧ Sep w none wr (rdS w.heap.size g1 g2 g3 X n N W R k 0)) (fun i _ => n - (intOf i).toNat)
      case atStart => exact ⟨0, Nat.zero_le _, rfl, Lib.hid (fun j h => by omega), S6.out⟩
      case round =>
        clear S6
        obtain ⟨k, hk, rfl, HG, hsep⟩ := hrel
        have SS := Lib.hid hsep
        clear hsep
        by_cases hkn : k < n
        · have hkn' : (k : Int) < (n : Int) := by omega
          have c1 := rowAt.out 1 k _ _ rfl SS.out hkn
          obtain ⟨row, hrow⟩ : ∃ row, R.getD k [] = row := ⟨_, rfl⟩
          have HROW := Lib.hid hrow
          rw [hrow] at c1
          obtain ⟨Bk, hBk⟩ : ∃ Bk, bs row = Bk := ⟨_, rfl⟩
          have HBK := Lib.hid hBk
          rw [hBk] at c1
          obtain ⟨L, hL⟩ : ∃ L, Bk.size = L := ⟨_, rfl⟩
          have HL : Hid (row.length = L) := Lib.hid (by rw [← hL, ← hBk]; rfl)
          have hmem : row ∈ spl s.data.toList := by
            rw [HR.out, ← hrow, List.getD_eq_getElem?_getD, List.getElem?_eq_getElem (by rw [HN.out]; exact hkn)]
            exact List.getElem_mem _
          have HMEM := Lib.hid hmem
          clear hrow hBk hmem
          by_cases hlw : L = W
          rotate_left
          · have HB : Hid (goodU ok s.data.toList = false) := Lib.hid (by
              cases h : goodU ok s.data.toList
              · rfl
              · have h2 := (fitU_iff.1 (goodU_iff.1 h).1).2.2 row HMEM.out
                rw [HW.out, HL.out] at h2
                exact absurd h2 hlw)
            have hne : ((L : Int) != (W : Int)) = true := by simp; omega
            obtain ⟨q0, q1, q2, q3, q4, q5⟩ := three_cells (SS.out.blk 0 rfl)
            have P := Lib.hid (SS.out.put3 0 rfl (.int .i64 0) (.int .i64 0) (.slice none 0 0))
            obtain ⟨p0, p1, p2, _⟩ := three_cells (P.out.blk 0 rfl)
            have Q0 := Lib.hid p0
            have Q1 := Lib.hid p1
            have Q2 := Lib.hid p2
            clear p0 p1 p2 hwd
            go_wp2_with (fail)
            exact bodyPost_ret (by simp [results, Tryd.results32, go_sem, Q0.out, Q1.out, Q2.out]) rfl (readP_no HB.out P.out.bel)
          · have hlw := hlw.symm
            subst hlw
            go_wp2_with (fail)
            go_loopw [53] (fun i wx => ∃ x : Nat, x ≤ W ∧ i = .int .i64 x ∧ Hid (∀ j, j < x → ok (row.getD j 0) = true) ∧ Sep w none wx (rdS w.heap.size g1 g2 g3 X n N W R k x)) (fun i _ => W - (intOf i).toNat)
            case atStart => exact ⟨0, Nat.zero_le _, rfl, Lib.hid (fun j h => by omega), SS.out⟩
            case round =>
              clear SS c1
              obtain ⟨x, hx, rfl, HX, hsep⟩ := hrel
              have SS := Lib.hid hsep
              clear hsep
              by_cases hxw : x < W
              · have hxw' : (x : Int) < (W : Int) := by omega
                obtain ⟨c0, hc0⟩ : ∃ c0, (n - 1 - k) * W + x = c0 := ⟨_, rfl⟩
                have hpl := fill_place W n hxw hkn
                rw [hc0, HNN.out] at hpl
                obtain ⟨d, hd⟩ : ∃ d, n - 1 - k = d := ⟨_, rfl⟩
                have hdI : (n : Int) - 1 - (k : Int) = (d : Int) := by omega
                have hdW : 0 ≤ (d : Int) * (W : Int) ∧ (d : Int) * (W : Int) ≤ 36 := by
                  have h1 : d * W ≤ 6 * 6 := Nat.mul_le_mul (by omega) hwd.2
                  have h2 : (d : Int) * (W : Int) = ((d * W : Nat) : Int) := by push_cast; rfl
                  rw [h2]; omega
                have hcI : (d : Int) * (W : Int) + (x : Int) = (c0 : Int) := by rw [← hc0, hd]; push_cast; rfl
                have hcN : (c0 : Int) < (N : Int) := by omega
                have HC0 := Lib.hid hc0
                have s1 := ((SS.out.own 4 rfl).cell c0 hpl).2.1
                obtain ⟨t1, s2, _, s3⟩ := (SS.out.own 4 rfl).there c0 hpl
                clear hc0 hd
                have hxB : x < Bk.size := by omega
                obtain ⟨ch, hch⟩ : ∃ ch, row.getD x 0 = ch := ⟨_, rfl⟩
                obtain ⟨cv, hcv⟩ : ∃ cv : Int, (ch.toNat : Int) = cv := ⟨_, rfl⟩
                have hbt : ∀ h : x < Bk.size, ((Bk[x]'h).toNat : Int) = cv := fun h => by
                  rw [← hcv, ← hch]
                  have h2 : x < row.length := by rw [HL.out]; exact hxw
                  have e := HBK.out
                  subst e
                  rw [List.getD_eq_getElem?_getD, List.getElem?_eq_getElem h2]; rfl
                have HCH := Lib.hid hch
                have HCV := Lib.hid hcv
                have hpk : plU R W n c0 = ch := by rw [← HC0.out, plU_at hxw hkn, HROW.out, hch]
                have HPK := Lib.hid hpk
                obtain ⟨bb, hbb⟩ : ∃ bb, (cv != 46) = bb := ⟨_, rfl⟩
                have HBB : Hid (bb = (ch != 46)) := Lib.hid (by
                  rw [← hbb, ← hcv, Bool.eq_iff_iff, bne_iff_ne, bne_iff_ne]
                  refine not_congr ⟨fun h => UInt8.toNat_inj.1 (show ch.toNat = 46 by omega), ?_⟩
                  rintro rfl; rfl)
                have S7 := Lib.hid (SS.out.set 4 rfl c0 (.int .u8 cv))
                clear hch hcv hpk
                go_upto_region 17 with (fail)
                obtain ⟨W1, hW1⟩ : ∃ W1, W1 = wr.setCell ⟨g3, c0, none⟩ (.int .u8 cv) := ⟨_, rfl⟩
                rw [← hW1] at S7 ⊢
                clear hW1 s1 s2 s3 SS hbt
                have s1 := ((S7.out.own 2 rfl).cell c0 hpl).2.1
                obtain ⟨t2, s2, _, s3⟩ := (S7.out.own 2 rfl).there c0 hpl
                obtain ⟨y0, y1, y2, _⟩ := three_cells (S7.out.blk 3 rfl)
                have hbt : ∀ h : x < Bk.size, ((Bk[x]'h).toNat : Int) = cv := fun h => by
                  rw [← HCV.out, ← HCH.out]
                  have h2 : x < row.length := by rw [HL.out]; exact hxw
                  have e := HBK.out
                  subst e
                  rw [List.getD_eq_getElem?_getD, List.getElem?_eq_getElem h2]; rfl
                go_region
                have S8 := Lib.hid ((S7.out.set 2 rfl c0 (.bool bb)).drew)
                obtain ⟨W2, hW2⟩ : ∃ W2, W2 = (W1.setCell ⟨g2, c0, none⟩ (.bool bb)).drew := ⟨_, rfl⟩
                rw [← hW2] at S8 ⊢
                clear hW2 s1 s2 s3 y0 y1 y2 S7
                have S9 : Hid (Sep w none W2 (rdS w.heap.size g1 g2 g3 X n N W R k (x + 1))) := Lib.hid (by
                  have h := S8.out
                  have e1 : (fillU (plU R W n) 0 W n k x).set c0 ch = fillU (plU R W n) 0 W n k (x + 1) := by rw [← HPK.out]; exact fill_set _ _ W n hxw hkn HC0.out
                  have e2 : (fillU (fun c => plU R W n c != 46) false W n k x).set c0 bb = fillU (fun c => plU R W n c != 46) false W n k (x + 1) := by
                    rw [HBB.out, ← HPK.out]; exact fill_set (fun c => plU R W n c != 46) false W n hxw hkn HC0.out
                  unfold rdS
                  rw [← e1, ← e2, List.map_set, List.map_set, HCV.out]
                  exact h)
                clear S8
                have CF := HF.out ch W2 S9.out.bel
                rw [HCV.out] at CF
                cases ho : ok ch
                · rw [ho] at CF
                  have CF := Lib.hid CF
                  have HB : Hid (goodU ok s.data.toList = false) := Lib.hid (by
                    cases h : goodU ok s.data.toList
                    · rfl
                    · have h2 := (goodU_iff.1 h).2 ch (by
                        unfold sigs
                        rw [List.mem_flatten]
                        refine ⟨row, by simpa using HMEM.out, ?_⟩
                        rw [← HCH.out, List.getD_eq_getElem?_getD, List.getElem?_eq_getElem (by rw [HL.out]; exact hxw)]
                        exact List.getElem_mem _)
                      rw [ho] at h2; cases h2)
                  clear ho
                  go_wp2_with (fail)
                  refine CF.out.mono ?_
                  rintro e w9 ⟨rfl, hb⟩
                  have SA := Lib.hid (S9.out.below hb)
                  clear hb CF
                  obtain ⟨q0, q1, q2, q3, q4, q5⟩ := three_cells (SA.out.blk 0 rfl)
                  have P := Lib.hid (SA.out.put3 0 rfl (.int .i64 0) (.int .i64 0) (.slice none 0 0))
                  obtain ⟨p0, p1, p2, _⟩ := three_cells (P.out.blk 0 rfl)
                  have Q0 := Lib.hid p0
                  have Q1 := Lib.hid p1
                  have Q2 := Lib.hid p2
                  clear p0 p1 p2 hwd
                  go_wp2_with (fail)
                  exact bodyPost_ret (by simp [results, Tryd.results32, go_sem, Q0.out, Q1.out, Q2.out]) rfl (readP_no HB.out P.out.bel)
                · rw [ho] at CF
                  have CF := Lib.hid CF
                  have HX2 : Hid (∀ j, j < x + 1 → ok (row.getD j 0) = true) := Lib.hid fun j hj => by
                    by_cases e : j < x
                    · exact HX.out j e
                    · rw [show j = x by omega, HCH.out]; exact ho
                  clear ho
                  go_wp2_with (fail)
                  refine CF.out.mono ?_
                  rintro e w9 ⟨rfl, hb⟩
                  have SA := Lib.hid (S9.out.below hb)
                  clear hb CF
                  go_wp2_with (fail)
                  go_roundw
                  case rel => exact ⟨x + 1, by omega, by go_num, HX2, SA.out⟩
                  case measure => simp [intOf]; omega
              · have e := hx
                have e : x = W := by omega
                subst e
                have SA : Hid (Sep w none wr (rdS w.heap.size g1 g2 g3 X n N x R (k + 1) 0)) := Lib.hid (by
                  have h := SS.out
                  unfold rdS at h ⊢
                  rw [fill_row _ _ x n k (by omega), fill_row _ _ x n k (by omega)] at h
                  exact h)
                have HG2 : Hid (∀ j, j < k + 1 → (R.getD j []).length = x ∧ ∀ c ∈ R.getD j [], ok c = true) := Lib.hid fun j hj => by
                  by_cases e : j < k
                  · exact HG.out j e
                  · rw [show j = k by omega, HROW.out]
                    refine ⟨HL.out, fun c hc => ?_⟩
                    obtain ⟨i, hi, rfl⟩ := List.mem_iff_getElem.1 hc
                    have := HX.out i (by rw [← HL.out]; exact hi)
                    rwa [List.getD_eq_getElem?_getD, List.getElem?_eq_getElem hi] at this
                clear SS
                go_wp2_with (fail)
                go_roundw
                case rel => exact ⟨k + 1, by omega, by go_num, HG2, SA.out⟩
                case measure => simp [intOf]; omega
        · have e : k = n := by omega
          subst e
          have hmemR : ∀ x ∈ spl s.data.toList, x.length = W ∧ ∀ c ∈ x, ok c = true := fun x hx => by
            rw [HR.out] at hx
            obtain ⟨j, hj, rfl⟩ := List.mem_iff_getElem.1 hx
            have := HG.out j (by rw [← HN.out]; exact hj)
            rwa [List.getD_eq_getElem?_getD, List.getElem?_eq_getElem hj] at this
          have hTU : tallU s.data.toList = k := by unfold tallU; rw [HR.out, HN.out]
          have hfit : fitU s.data.toList = true := fitU_iff.2 ⟨by rw [HW.out]; exact hwd, by rw [hTU]; exact hn6, fun x hx => by rw [HW.out]; exact (hmemR x hx).1⟩
          have HGD : Hid (goodU ok s.data.toList = true) := Lib.hid (goodU_iff.2 ⟨hfit, fun c hc => by
            unfold sigs at hc
            rw [List.mem_flatten] at hc
            obtain ⟨x, hx, hcx⟩ := hc
            exact (hmemR x (by simpa using hx)).2 c hcx⟩)
          have hsig := plU_sigs hfit
          rw [HR.out, HW.out, hTU] at hsig
          obtain ⟨q, hq⟩ : ∃ q, outR s.data.toList = q := ⟨_, rfl⟩
          have hqw : q.wide = (W : Int) := by rw [← hq]; unfold outR; rw [HW.out]
          have hqt : q.tall = (k : Int) := by rw [← hq]; unfold outR; rw [hTU]
          have hqc : q.cells = (List.range (W * k)).map fun c => plU R W k c != 46 := by
            rw [← hq]
            show (sigs s.data.toList).map _ = _
            rw [← hsig, List.map_map]; rfl
          have SF := Lib.hid (show Sep w none wr [.box w.heap.size #[.int .i64 0, .int .i64 0, .slice none 0 0] 25, .row 9 (.slice (some ⟨g1, 0, none⟩) k k) (R.map fun l => Value.string (bs l)),
              .row 4 (.slice (some ⟨g2, 0, none⟩) N N) (q.cells.map Value.bool), .box X #[.int .i64 W, .int .i64 k, .slice (some ⟨g2, 0, none⟩) N N] 25,
              .row 5 (.slice (some ⟨g3, 0, none⟩) N N) ((sigs s.data.toList).map fun c : UInt8 => Value.int .u8 (c.toNat : Int))] by
            have h := SS.out
            unfold rdS at h
            rw [fill_all _ _ W k (by omega), fill_all _ _ W k (by omega), hsig, ← hqc] at h
            exact h)
          have RV : Hid (∀ T : World, Bl T (.slice (some ⟨g2, 0, none⟩) N N) q.cells → RegV T (.agg #[.int .i64 W, .int .i64 k, .slice (some ⟨g2, 0, none⟩) N N]) q) := Lib.hid fun T h => ⟨_, by rw [hqw, hqt], h⟩
          obtain ⟨bv, hbv⟩ : ∃ bv, q.valid = bv := ⟨_, rfl⟩
          have HBV := Lib.hid hbv
          have HQ := Lib.hid hq
          have HQD : Hid ((W : Int) = q.wide ∧ (k : Int) = q.tall) := Lib.hid ⟨hqw.symm, hqt.symm⟩
          obtain ⟨y0, y1, y2, _⟩ := three_cells (SF.out.blk 3 rfl)
          have hX := SF.out.lt 3 rfl rfl
          have hLc : ∀ (T : Later wr) (b o : Nat), b < wr.heap.size → T.x.cell? ⟨b, o, none⟩ = wr.cell? ⟨b, o, none⟩ := Later.cell
          clear hmemR hTU hfit hsig hq hqw hqt hqc hbv SS hwd
          go_wp2_with (fail)
          have hX0 : w.heap.size ≠ X := SF.out.ne 0 3 rfl rfl (by decide) rfl rfl
          have hX0' : X ≠ w.heap.size := fun e => hX0 e.symm
          obtain ⟨z0, z1, z2, z3, z4, z5⟩ := three_cells (SF.out.blk 0 rfl)
          have hX1 := SF.out.lt 0 rfl rfl
          go_region_held3 (fun w' => w'.cell? ⟨X, 0, none⟩ = some (.int .i64 W) ∧ w'.cell? ⟨X, 1, none⟩ = some (.int .i64 k) ∧ w'.cell? ⟨X, 2, none⟩ = some (.slice (some ⟨g2, 0, none⟩) N N))
            (first | with_reducible exact K4.out | (go_keep; done) | assumption)
            ((first
              | (go_at_call 20; refine (trv_is _ q _ (RV.out _ (SF.out.drew.own 2 rfl).sl) bv HBV.out).mono ?_; rintro e w4 ⟨rfl, hb4⟩; (have S4 := Lib.hid (SF.out.drew.below hb4)); (have K4 := Lib.hid (Sep.c3 S4.out 3 rfl)); (have hX4 := S4.out.lt 0 rfl rfl); (obtain ⟨v0, v1, v2, v3, v4, v5⟩ := three_cells (S4.out.blk 0 rfl)); clear hb4)))
          all_goals
            have P := Lib.hid (S4.out.put3 0 rfl (.int .i64 W) (.int .i64 k) (.slice (some ⟨g2, 0, none⟩) N N))
            obtain ⟨p0, p1, p2, _⟩ := three_cells (P.out.blk 0 rfl)
            have Q0 := Lib.hid p0
            have Q1 := Lib.hid p1
            have Q2 := Lib.hid p2
            clear p0 p1 p2 v0 v1 v2 v3 v4 v5 z0 z1 z2 z3 z4 z5 y0 y1 y2
            go_wp2_with (fail)
            refine bodyPost_ret (by simp [results, Tryd.results32, go_sem, Q0.out, Q1.out, Q2.out]) rfl ⟨W, k, some ⟨g2, 0, none⟩, N, N, some ⟨g3, 0, none⟩, N, N, bv, rfl, P.out.bel, fun _ => ?_, fun h => ?_⟩
            · rw [HQ.out]
              exact ⟨HBV.out.symm, HQD.out, P.out.high 2 rfl, P.out.high 4 rfl⟩
            · rw [HGD.out] at h; cases h
end Go.Proofs.YtklifibiadiinaaDoor
