/- Walks: reading texts of regions, the reference's. -/
import Derived.Test.YtklifibiadiinaaDoorZa
import Derived.Test.YtklifibiadiinaaDoorVWtxtS
set_option linter.unusedVariables false
namespace Go.Proofs.YtklifibiadiinaaDoor
open Go.RowKit Domi

/-- Cut as far as k: the pieces that are done, and where the next one begins. -/
def CutAt (d : List UInt8) (k f : Nat) (D : List (List UInt8)) : Prop := f ≤ k ∧ k ≤ d.length ∧ spl d = D ++ spl (d.drop f) ∧ (47 : UInt8) ∉ (d.drop f).take (k - f)
theorem cut_start (d : List UInt8) : CutAt d 0 0 [] := ⟨Nat.le_refl _, Nat.zero_le _, rfl, by simp⟩
theorem drop_at {d : List UInt8} {k f : Nat} (hf : f ≤ k) (hk : k < d.length) : d.drop f = (d.drop f).take (k - f) ++ d.getD k 0 :: d.drop (k + 1) := by
  conv => lhs; rw [← List.take_append_drop (k - f) (d.drop f)]
  rw [List.drop_drop, show f + (k - f) = k by omega, List.drop_eq_getElem_cons hk, List.getD_eq_getElem?_getD, List.getElem?_eq_getElem hk]; rfl
theorem cut_hit {d : List UInt8} {k f : Nat} {D : List (List UInt8)} (h : CutAt d k f D) (hk : k < d.length) (hc : d.getD k 0 = 47) : CutAt d (k + 1) (k + 1) (D ++ [(d.drop f).take (k - f)]) := by
  obtain ⟨h1, h2, h3, h4⟩ := h
  refine ⟨Nat.le_refl _, hk, ?_, by simp⟩
  rw [h3]
  have e := drop_at h1 hk
  rw [hc] at e
  conv => lhs; rw [e, spl_row _ h4]
  simp
theorem cut_on {d : List UInt8} {k f : Nat} {D : List (List UInt8)} (h : CutAt d k f D) (hk : k < d.length) (hc : d.getD k 0 ≠ 47) : CutAt d (k + 1) f D := by
  obtain ⟨h1, h2, h3, h4⟩ := h
  refine ⟨by omega, hk, h3, ?_⟩
  have hl : k - f < (d.drop f).length := by rw [List.length_drop]; omega
  rw [show k + 1 - f = (k - f) + 1 by omega, List.take_succ_eq_append_getElem hl, List.mem_append]
  rintro (g | g)
  · exact h4 g
  · rw [List.mem_singleton, List.getElem_drop] at g
    refine hc ?_
    rw [List.getD_eq_getElem?_getD, List.getElem?_eq_getElem hk, Option.getD_some, g]
    congr 1; omega
theorem cut_end {d : List UInt8} {f : Nat} {D : List (List UInt8)} (h : CutAt d d.length f D) : spl d = D ++ [d.drop f] := by
  obtain ⟨h1, _, h3, h4⟩ := h
  rw [List.take_of_length_le (by rw [List.length_drop]; exact Nat.le_refl _)] at h4
  rw [h3, spl_one _ h4]
theorem ext_bs (s : ByteArray) (a b : Nat) : s.extract a b = bs ((s.data.toList.drop a).take (b - a)) := by
  rw [← Lib.extract_data]; rfl
/-- The pieces, in memory of the call's own. -/
def CutP (s : List UInt8) (w : World) (e : Ending) (w' : World) : Prop :=
  ∃ a c, e = .returned (.slice a (spl s).length c) ∧ Own w' w.heap.size 9 (.slice a (spl s).length c) ((spl s).map fun l => Value.string (bs l)) ∧ Below w.heap.size w w'
set_option maxRecDepth 100000 in
set_option maxHeartbeats 2000000 in
theorem l1Cut_any (s : ByteArray) (w : World) (hs : s.size ≤ 1000) : Calls Tryd.prog 37 #[.string s, .int .u8 47] w (CutP s.data.toList w) := by
  obtain ⟨d, hd⟩ : ∃ d, s.data.toList = d := ⟨_, rfl⟩
  have HD := Lib.hid hd
  have hdl : s.size = d.length := by rw [← hd, Array.length_toList]; rfl
  obtain ⟨N, hN⟩ : ∃ N, s.size = N := ⟨_, rfl⟩
  have HL : Hid (d.length = N) := Lib.hid (by rw [← hdl, hN])
  rw [hd]
  clear hd hdl
  go_enter Tryd.func37, Tryd.ntmps37
  go_wp2_with (fail)
  have O0 := Lib.hid (show Own (w.alloc (.cells #[] 9)) w.heap.size 9 (.slice (some ⟨w.heap.size, 0, none⟩) 0 0) (([] : List (List UInt8)).map fun l => Value.string (bs l)) from Own.made (n := 0) (z := .string ByteArray.empty) (Lib.hid rfl) (Nat.le_refl _) (by omega))
  have B0 := Lib.hid (below_alloc w (.cells #[] 9))
  obtain ⟨SZ, hSZ⟩ : ∃ SZ, w.heap.size = SZ := ⟨_, rfl⟩
  have HSZ := Lib.hid hSZ
  rw [hSZ] at O0 B0 ⊢
  clear hSZ
  go_loopw [5, 6, 7] (fun o f k wr => ∃ (kk ff m c g : Nat) (D : List (List UInt8)), kk ≤ N ∧ k = .int .i64 kk ∧ f = .int .i64 ff ∧ Hid (CutAt d kk ff D) ∧ o = .slice (some ⟨g, 0, none⟩) m c ∧ Hid (m = D.length) ∧ Hid (D.length ≤ kk) ∧ Own wr SZ 9 (.slice (some ⟨g, 0, none⟩) m c) (D.map fun l => Value.string (bs l)) ∧ Below SZ w wr) (fun _ _ k _ => N - (intOf k).toNat)
  case atStart => exact ⟨0, 0, 0, 0, SZ, [], Nat.zero_le _, rfl, rfl, Lib.hid (cut_start d), rfl, Lib.hid rfl, Lib.hid (Nat.le_refl _), O0.out, B0.out⟩
  case round =>
    clear O0 B0
    obtain ⟨kk, ff, m, c, g, D, hk, rfl, rfl, HC, rfl, HM, HDL, hown, hbel⟩ := hrel
    have OW := Lib.hid hown
    have BW := Lib.hid hbel
    have hff : ff ≤ kk := HC.out.1
    have hm1000 : m ≤ 1000 := by have := HM.out; have := HDL.out; omega
    have hS3 : SZ ≤ wr.heap.size := by rw [← HSZ.out]; exact (show Below w.heap.size w wr by rw [HSZ.out]; exact hbel).size
    clear hown hbel
    by_cases hkN : kk < N
    · have hkN' : (kk : Int) < (N : Int) := by omega
      obtain ⟨ch, hch⟩ : ∃ ch, d.getD kk 0 = ch := ⟨_, rfl⟩
      obtain ⟨cv, hcv⟩ : ∃ cv : Int, (ch.toNat : Int) = cv := ⟨_, rfl⟩
      have HCH := Lib.hid hch
      have hbt : ∀ h : kk < s.size, ((s[kk]'h).toNat : Int) = cv := fun h => by
        rw [← hcv, ← hch, ← HD.out, List.getD_eq_getElem?_getD, List.getElem?_eq_getElem (by rw [HD.out, HL.out]; exact hkN)]; rfl
      have h47 : cv = 47 ↔ ch = 47 := by
        rw [← hcv]
        refine ⟨fun h => UInt8.toNat_inj.1 (show ch.toNat = 47 by omega), ?_⟩
        rintro rfl; rfl
      have H47 := Lib.hid h47
      clear hch hcv h47
      by_cases e47 : cv = 47
      · subst e47
        have NC := Lib.hid (cut_hit HC.out (by rw [HL.out]; exact hkN) (by rw [HCH.out]; exact H47.out.1 rfl))
        obtain ⟨P, hP⟩ : ∃ P, s.extract ff kk = P := ⟨_, rfl⟩
        have HP : Hid (bs ((d.drop ff).take (kk - ff)) = P) := Lib.hid (by rw [← hP, ext_bs, HD.out])
        have hff' : (ff : Int) ≤ (kk : Int) := by omega
        have hlen : (D.map fun l => Value.string (bs l)).length = m := by rw [List.length_map, HM.out]
        have HLn := Lib.hid hlen
        have NR : Hid ((D.map fun l => Value.string (bs l)) ++ [.string P] = (D ++ [(d.drop ff).take (kk - ff)]).map fun l => Value.string (bs l)) := Lib.hid (by rw [List.map_append, ← HP.out]; rfl)
        clear hlen
        go_wp2_with (at_builtin; refine list_app elem_str SZ (.slice (some ⟨g, 0, none⟩) m c) (D.map fun l => Value.string (bs l)) ?_ wr.heap.size (.string P) (.tmp 20) (.tmp 25) rfl rfl rfl rfl (heap_alloc_new _ _) rfl ?_ ?_ ?_; exact Own.alloc OW.out _; (rw [HLn.out]; omega); (simp; omega); intro g2 c2 w5 A5; (have O5 := Lib.hid A5.own); (have B5 := Lib.hid (txt_bel BW.out hS3 A5 (Own.alloc OW.out _))); clear A5; rw [HLn.out])
        have O6 : Hid (Own w5 SZ 9 (.slice (some ⟨g2, 0, none⟩) (m + 1) c2) ((D ++ [(d.drop ff).take (kk - ff)]).map fun l => Value.string (bs l))) := Lib.hid (by
          have := O5.out; rw [NR.out, HLn.out] at this; exact this)
        go_roundw
        case rel => exact ⟨kk + 1, kk + 1, m + 1, c2, g2, _, by omega, by go_num, by go_num, NC, rfl, Lib.hid (by rw [List.length_append, ← HM.out]; rfl), Lib.hid (by have := HDL.out; rw [List.length_append]; simp; omega), O6.out, B5.out⟩
        case measure => simp [intOf]; omega
      · have NC := Lib.hid (cut_on HC.out (by rw [HL.out]; exact hkN) (by rw [HCH.out]; exact fun e => e47 (H47.out.2 e)))
        have e47' : (cv == 47) = false := by simpa using e47
        go_wp2_with (fail)
        go_roundw
        case rel => exact ⟨kk + 1, ff, m, c, g, D, by omega, by go_num, rfl, NC, rfl, HM, Lib.hid (by have := HDL.out; omega), OW.out, BW.out⟩
        case measure => simp [intOf]; omega
    · have e : kk = N := by omega
      subst e
      have HE := Lib.hid (cut_end (show CutAt d d.length ff D by rw [HL.out]; exact HC.out))
      obtain ⟨P, hP⟩ : ∃ P, s.extract ff s.size = P := ⟨_, rfl⟩
      have HP : Hid (bs (d.drop ff) = P) := Lib.hid (by
        rw [← hP, ext_bs, HD.out, List.take_of_length_le (by rw [List.length_drop, HL.out, hN]; exact Nat.le_refl _)])
      have hff' : (ff : Int) ≤ (kk : Int) := by omega
      have hlen : (D.map fun l => Value.string (bs l)).length = m := by rw [List.length_map, HM.out]
      have HLn := Lib.hid hlen
      have NR : Hid ((D.map fun l => Value.string (bs l)) ++ [.string P] = (spl d).map fun l => Value.string (bs l)) := Lib.hid (by rw [HE.out, List.map_append, ← HP.out]; rfl)
      have NL : Hid ((spl d).length = m + 1) := Lib.hid (by rw [HE.out, List.length_append, HM.out]; rfl)
      rw [hN] at hP
      clear hlen
      go_wp2_with (at_builtin; refine list_app elem_str SZ (.slice (some ⟨g, 0, none⟩) m c) (D.map fun l => Value.string (bs l)) ?_ wr.heap.size (.string P) (.tmp 29) (.tmp 33) rfl rfl rfl rfl (heap_alloc_new _ _) rfl ?_ ?_ ?_; exact Own.alloc OW.out _; (rw [HLn.out]; omega); (simp; omega); intro g2 c2 w5 A5; (have O5 := Lib.hid A5.own); (have B5 := Lib.hid (txt_bel BW.out hS3 A5 (Own.alloc OW.out _))); clear A5; rw [HLn.out])
      have O6 : Hid (Own w5 w.heap.size 9 (.slice (some ⟨g2, 0, none⟩) (spl d).length c2) ((spl d).map fun l => Value.string (bs l))) := Lib.hid (by
        have := O5.out; rw [NR.out, HLn.out] at this; rw [NL.out, HSZ.out]; exact this)
      have B6 : Hid (Below w.heap.size w w5) := Lib.hid (by rw [HSZ.out]; exact B5.out)
      rw [← NL.out]
      go_ret
      exact ⟨_, _, rfl, O6.out, B6.out⟩
theorem spl_flat (s : List UInt8) : (spl s).flatten.length + (spl s).length = s.length + 1 := by
  induction s with
  | nil => rfl
  | cons c s ih =>
    by_cases h : c = 47
    · subst h
      rw [spl_cut, List.flatten_cons, List.length_cons, List.length_cons, List.nil_append]; omega
    · obtain ⟨x, r, e1, e2⟩ := spl_on h s
      rw [e1] at ih
      rw [e2]
      simp only [List.flatten_cons, List.length_append, List.length_cons] at ih ⊢
      omega
theorem flat_take (R : List (List UInt8)) (j : Nat) : (R.take j).flatten.length ≤ R.flatten.length := by
  conv => rhs; rw [← List.take_append_drop j R]
  rw [List.flatten_append, List.length_append]; omega
theorem flat_rev (R : List (List UInt8)) : R.reverse.flatten.length = R.flatten.length := by
  induction R with
  | nil => rfl
  | cons x R ih => rw [List.reverse_cons, List.flatten_append, List.length_append, ih, List.flatten_cons, List.length_append]; simp; omega
/-- What lies in memory while the reference reads. -/
def rsS (X0 g1 n c X : Nat) (W : Nat) (R : List (List UInt8)) (a2 : Option Addr) (c2 : Nat) (l : List Bool) : List It :=
  [.box X0 #[.int .i64 0, .int .i64 0, .slice none 0 0] 25, .row 9 (.slice (some ⟨g1, 0, none⟩) n c) (R.map fun l => Value.string (bs l)),
   .box X #[.int .i64 W, .int .i64 n, .slice a2 l.length c2] 25, .row 4 (.slice a2 l.length c2) (l.map Value.bool)]
set_option maxRecDepth 100000 in
set_option maxHeartbeats 4000000 in
theorem sReadRegion_any (s : ByteArray) (w : World) (hs : s.size ≤ 500) : Calls Tryd.prog 23 #[.string s] w (RetRB (readR s.data.toList) w) := by
  obtain ⟨w1, hw1⟩ : ∃ w1, w1 = w.alloc (.cells #[.int .i64 0, .int .i64 0, .slice none 0 0] 25) := ⟨_, rfl⟩
  have S1 := Lib.hid (show Sep w none w1 [.box w.heap.size #[.int .i64 0, .int .i64 0, .slice none 0 0] 25] by rw [hw1]; exact (Sep.start w none).box _ _)
  have HCU := Lib.hid (l1Cut_any s w1 (by omega))
  obtain ⟨d, hd⟩ : ∃ d, s.data.toList = d := ⟨_, rfl⟩
  have HD := Lib.hid hd
  have hdl : d.length ≤ 500 := by rw [← hd, Array.length_toList]; exact hs
  rw [hd] at HCU ⊢
  obtain ⟨R, hR⟩ : ∃ R, spl d = R := ⟨_, rfl⟩
  have HR := Lib.hid hR
  have hfl : R.flatten.length ≤ 500 ∧ R.length ≤ 501 := by
    have := spl_flat d
    rw [hR] at this
    have h1 := tallU_pos d
    unfold tallU at h1
    rw [hR] at h1
    omega
  obtain ⟨n, hn⟩ : ∃ n, R.length = n := ⟨_, rfl⟩
  have HN := Lib.hid hn
  have hn1 : 1 ≤ n := by rw [← hn, ← hR]; exact tallU_pos d
  have HFL := Lib.hid hfl
  have hn2 : n ≤ 501 := by rw [← hn]; exact hfl.2
  obtain ⟨W, hW⟩ : ∃ W, (R.getD 0 []).length = W := ⟨_, rfl⟩
  have HW : Hid (wideU d = W) := Lib.hid (by
    rw [← hW]; unfold wideU; rw [hR]
    cases R with
    | nil => simp at hn; omega
    | cons a t => rfl)
  have hWb : W ≤ 500 := by
    have := wide_le d
    rw [HW.out] at this; omega
  have HW0 := Lib.hid hW
  clear hd hR hn hfl hW
  go_enter Tryd.func23, Tryd.ntmps23
  go_wp2_with (fail)
  rw [← hw1]
  clear hw1
  refine HCU.out.mono ?_
  rintro e w2 ⟨a, c, rfl, ho, hb⟩
  rw [HR.out, HN.out] at ho
  obtain ⟨g1, c', e0, _, _, _, _⟩ := ho.formN (by rw [List.length_map, HN.out]; omega)
  rw [List.length_map, HN.out, Value.slice.injEq] at e0
  obtain ⟨rfl, _, rfl⟩ := e0
  have S2 := Lib.hid ((S1.out.below hb).add S1.out ho)
  rw [HR.out, HN.out]
  clear ho hb HCU S1
  have rowAt : Hid (∀ (S : List It) (x : World) (j : Nat), S[1]? = some (.row 9 (.slice (some ⟨g1, 0, none⟩) n c) (R.map fun l => Value.string (bs l))) → Sep w none x S → j < n → x.cell? ⟨g1, j, none⟩ = some (.string (bs (R.getD j [])))) := Lib.hid fun S x j hi hS hj => by
    rw [((hS.own 1 hi).cell j hj).1, List.getElem?_map, List.getElem?_eq_getElem (by rw [HN.out]; exact hj), List.getD_eq_getElem?_getD, List.getElem?_eq_getElem (by rw [HN.out]; exact hj)]
    rfl
  have c0 := rowAt.out _ _ 0 rfl S2.out (by omega)
  obtain ⟨B0, hB0⟩ : ∃ B0, bs (R.getD 0 []) = B0 := ⟨_, rfl⟩
  have hB : B0.size = W := by rw [← hB0, bs_size, HW0.out]
  rw [hB0] at c0
  clear hB0
  have S3 := Lib.hid ((S2.out.box #[.int .i64 W, .int .i64 n, .slice none 0 0] 25).nil 4)
  go_upto_region 3 with (fail)
  obtain ⟨w3, hw3⟩ : ∃ w3, w3 = w2.alloc (.cells #[.int .i64 W, .int .i64 n, .slice none 0 0] 25) := ⟨_, rfl⟩
  obtain ⟨X, hX⟩ : ∃ X, w2.heap.size = X := ⟨_, rfl⟩
  rw [hX, ← hw3] at S3
  rw [hX, ← hw3]
  clear hw3 hX S2 c0
  have S4 : Hid (Sep w none w3 (rsS w.heap.size g1 n c X W R none 0 [])) := Lib.hid S3.out
  clear S3
  go_wp2_with (fail)
  go_loopw [6] (fun i wr => ∃ (j : Nat) (iv : Int) (a2 : Option Addr) (c2 : Nat) (l : List Bool), j ≤ n ∧ i = .int .i64 iv ∧ Hid (iv = (n : Int) - 1 - j) ∧ Hid (l = (R.reverse.take j).flatten.map fun c => c == 35) ∧ Sep w none wr (rsS w.heap.size g1 n c X W R a2 c2 l)) (fun i _ => (intOf i + 1).toNat)
  case atStart => exact ⟨0, (n : Int) - 1, none, 0, [], Nat.zero_le _, by go_num, Lib.hid (by omega), Lib.hid rfl, S4.out⟩
  case round =>
    clear S4
    obtain ⟨j, iv, a2, c2, l, hj, rfl, HI, HLL, hsep⟩ := hrel
    have SS := Lib.hid hsep
    have hiv : -1 ≤ iv ∧ iv ≤ 500 := by have := HI.out; omega
    clear hsep
    by_cases h0 : 0 ≤ iv
    · obtain ⟨y, rfl⟩ := Int.eq_ofNat_of_zero_le h0
      have hyn : y < n := by have := HI.out; omega
      have hyn' : (y : Int) < (n : Int) := by omega
      have HY : Hid (n - 1 - j = y) := Lib.hid (by have := HI.out; omega)
      obtain ⟨row, hrow⟩ : ∃ row, R.getD y [] = row := ⟨_, rfl⟩
      have HROW := Lib.hid hrow
      obtain ⟨L, hL⟩ : ∃ L, row.length = L := ⟨_, rfl⟩
      have HL := Lib.hid hL
      have HREV : Hid ((R.reverse.take (j + 1)).flatten = (R.reverse.take j).flatten ++ row) := Lib.hid (by
        have hjl : j < R.reverse.length := by rw [List.length_reverse, HN.out]; have := HI.out; omega
        rw [List.take_succ_eq_append_getElem hjl, List.flatten_append, List.flatten_cons, List.flatten_nil, List.append_nil]
        congr 1
        rw [List.getElem_reverse, ← hrow, ← HY.out, List.getD_eq_getElem?_getD, List.getElem?_eq_getElem (by rw [HN.out]; omega), Option.getD_some]
        congr 1
        rw [HN.out])
      have hL5 : L ≤ 500 := by
        have h1 := flat_take R.reverse (j + 1)
        rw [flat_rev, HREV.out, List.length_append, hL] at h1
        have := HFL.out.1
        omega
      clear hrow hL
      go_wp2_with (fail)
      go_loopw [7] (fun i wr => ∃ (x : Nat) (a2 : Option Addr) (c2 : Nat) (l : List Bool), x ≤ L ∧ i = .int .i64 x ∧ Hid (l = ((R.reverse.take j).flatten ++ row.take x).map fun c => c == 35) ∧ Sep w none wr (rsS w.heap.size g1 n c X W R a2 c2 l)) (fun i _ => L - (intOf i).toNat)
      case atStart => exact ⟨0, a2, c2, l, Nat.zero_le _, rfl, Lib.hid (by rw [HLL.out, List.take_zero, List.append_nil]), SS.out⟩
      case round =>
        clear SS HLL
        obtain ⟨x, a2, c2, l, hx, rfl, HLL, hsep⟩ := hrel
        have SS := Lib.hid hsep
        clear hsep
        have c1 := rowAt.out _ _ y rfl SS.out hyn
        rw [HROW.out] at c1
        obtain ⟨Bk, hBk⟩ : ∃ Bk, bs row = Bk := ⟨_, rfl⟩
        have HBK := Lib.hid hBk
        have hBL : Bk.size = L := by rw [← hBk, bs_size, HL.out]
        rw [hBk] at c1
        clear hBk
        by_cases hxL : x < L
        · have hxL' : (x : Int) < (L : Int) := by omega
          have hxB : x < Bk.size := by omega
          obtain ⟨ch, hch⟩ : ∃ ch, row.getD x 0 = ch := ⟨_, rfl⟩
          obtain ⟨cv, hcv⟩ : ∃ cv : Int, (ch.toNat : Int) = cv := ⟨_, rfl⟩
          have hbt : ∀ h : x < Bk.size, ((Bk[x]'h).toNat : Int) = cv := fun h => by
            rw [← hcv, ← hch]
            have h2 : x < row.length := by rw [HL.out]; exact hxL
            have e := HBK.out
            subst e
            rw [List.getD_eq_getElem?_getD, List.getElem?_eq_getElem h2]; rfl
          obtain ⟨bb, hbb⟩ : ∃ bb, (cv == 35) = bb := ⟨_, rfl⟩
          have NL : Hid (l ++ [bb] = ((R.reverse.take j).flatten ++ row.take (x + 1)).map fun c => c == 35) := Lib.hid (by
            have h2 : x < row.length := by rw [HL.out]; exact hxL
            rw [HLL.out, List.take_succ_eq_append_getElem h2, ← List.append_assoc, List.map_append (l₁ := (R.reverse.take j).flatten ++ row.take x)]
            congr 1
            rw [List.map_cons, List.map_nil]
            congr 1
            rw [List.getD_eq_getElem?_getD, List.getElem?_eq_getElem h2, Option.getD_some] at hch
            rw [hch, ← hbb, ← hcv, Bool.eq_iff_iff, beq_iff_eq, beq_iff_eq]
            refine ⟨fun h => UInt8.toNat_inj.1 (show ch.toNat = 35 by omega), ?_⟩
            rintro rfl; rfl)
          have hl5 : l.length ≤ 1000 := by
            rw [HLL.out, List.length_map, List.length_append, List.length_take]
            have h1 := flat_take R.reverse j
            rw [flat_rev] at h1
            have := HFL.out.1
            omega
          clear hch hcv HLL
          obtain ⟨y0, y1, y2, f0, f1, f2⟩ := three_cells (SS.out.blk 2 rfl)
          have sY := SS.out.lt 2 rfl rfl
          have s1 := SS.out.lt 1 rfl rfl
          go_wp2_with (fail)
          go_region_law (refine step_app elem_bools 0 (.slice a2 l.length c2) (l.map Value.bool) ?_ wr.heap.size (.bool bb) (.tmp 34) (.tmp 42) (by rfl) (by rfl) (by rfl) (by rfl) (heap_alloc_new _ _) (by rfl) ?_ ?_ ?_; exact Own.alloc (SS.out.drew.own 3 rfl) _; (rw [List.length_map]; omega); (exact Nat.zero_le _); intro g2 cap w7 A7; (have D8 := Lib.hid ((SS.out.drew.alloc _).app 3 rfl A7)); (obtain ⟨z0, z1, z2, e0, e1, e2⟩ := three_cells (D8.out.blk 2 rfl)); clear A7)
          all_goals
            have D9 := Lib.hid (D8.out.put 2 rfl 2 (.slice (some ⟨g2, 0, none⟩) (l.length + 1) cap))
            have S9 : Hid (Sep w none (w7.setCell ⟨X, 2, none⟩ (.slice (some ⟨g2, 0, none⟩) (l.length + 1) cap)) (rsS w.heap.size g1 n c X W R (some ⟨g2, 0, none⟩) cap (l ++ [bb]))) := Lib.hid (by simpa [rsS] using D9.out)
            clear D8 D9
            go_wp2_with (fail)
            go_roundw
            case rel => exact ⟨x + 1, some ⟨g2, 0, none⟩, cap, l ++ [bb], by omega, by go_num, NL, S9.out⟩
            case measure => simp [intOf]; omega
        · have e : x = L := by omega
          have HL3 : Hid (l = (R.reverse.take (j + 1)).flatten.map fun c => c == 35) := Lib.hid (by
            rw [HLL.out, HREV.out, List.take_of_length_le (l := row) (by rw [HL.out, e]; exact Nat.le_refl _)])
          have hxL' : ¬ (x : Int) < (L : Int) := by omega
          clear HLL
          go_wp2_with (fail)
          go_roundw
          case rel => exact ⟨j + 1, (y : Int) - 1, a2, c2, l, by have := HI.out; omega, by go_num, Lib.hid (by have := HI.out; push_cast; omega), HL3, SS.out⟩
          case measure => simp [intOf]; try omega
    · have e : j = n := by have := HI.out; omega
      have HL3 : Hid (l = (sigs d).map fun c => c == 35) := Lib.hid (by
        rw [HLL.out, e, List.take_of_length_le (by rw [List.length_reverse, HN.out]; exact Nat.le_refl _)]
        unfold sigs
        rw [HR.out])
      obtain ⟨q, hq⟩ : ∃ q, specR d = q := ⟨_, rfl⟩
      have hqw : q.wide = (W : Int) := by rw [← hq]; unfold specR; rw [HW.out]
      have hqt : q.tall = (n : Int) := by rw [← hq]; unfold specR tallU; rw [HR.out, HN.out]
      have hqc : q.cells = l := by rw [← hq]; unfold specR; rw [HL3.out]
      have RV : Hid (∀ T : World, Sep w none T (rsS w.heap.size g1 n c X W R a2 c2 l) → RegV T (.agg #[.int .i64 W, .int .i64 n, .slice a2 l.length c2]) q) := Lib.hid fun T h => ⟨_, by rw [hqw, hqt], by rw [hqc]; exact (h.own 3 rfl).sl⟩
      have RVF : Hid (∀ T : World, Bl T (.slice a2 l.length c2) l → RegV T (.agg #[.int .i64 W, .int .i64 n, .slice a2 l.length c2]) q) := Lib.hid fun T h => ⟨_, by rw [hqw, hqt], by rw [hqc]; exact h⟩
      have HQ := Lib.hid hq
      have HQB : Hid ((-1000 ≤ q.wide ∧ q.wide ≤ 1000) ∧ (-1000 ≤ q.tall ∧ q.tall ≤ 1000)) := Lib.hid (by rw [hqw, hqt]; omega)
      have HSR := Lib.hid (spec_read d)
      clear hq hqw hqt hqc HLL HL3 e
      obtain ⟨y0, y1, y2, f0, f1, f2⟩ := three_cells (SS.out.blk 2 rfl)
      obtain ⟨z0, z1, z2, e0, e1, e2⟩ := three_cells (SS.out.blk 0 rfl)
      have sY := SS.out.lt 2 rfl rfl
      have sZ := SS.out.lt 0 rfl rfl
      by_cases hd0 : d = []
      · have he : s.toList.isEmpty = true := by rw [ByteArray.toList_eq, HD.out, hd0]; rfl
        have HRR : Hid (readR d = (Reg.zero, false)) := Lib.hid (by rw [HSR.out, if_pos (.inl hd0)])
        have P := Lib.hid (SS.out.put3 0 rfl (.int .i64 0) (.int .i64 0) (.slice none 0 0))
        obtain ⟨p0, p1, p2, _⟩ := three_cells (P.out.blk 0 rfl)
        have Q0 := Lib.hid p0
        have Q1 := Lib.hid p1
        have Q2 := Lib.hid p2
        clear p0 p1 p2 hd0 HSR
        go_wp2_with (fail)
        rw [HRR.out]
        exact bodyPost_ret (by simp [results, Tryd.results23, go_sem, Q0.out, Q1.out, Q2.out]) rfl ⟨.agg #[.int .i64 0, .int .i64 0, .slice none 0 0], rfl, zero_regV _, P.out.bel⟩
      · have he : s.toList.isEmpty = false := by
          rw [ByteArray.toList_eq, HD.out]
          cases d with
          | nil => exact absurd rfl hd0
          | cons _ _ => rfl
        have CT := Lib.hid (sRegionText_any _ q wr (RV.out _ SS.out) HQB.out.1 HQB.out.2)
        go_wp2_with (fail)
        refine CT.out.mono ?_
        rintro e w4 ⟨rfl, hb⟩
        by_cases hT : rgText q = d
        · have hE : bs (rgText q) = s := by rw [hT, ← HD.out]; rfl
          rw [hE]
          have HRR : Hid (readR d = (q, true)) := Lib.hid (by
            rw [HSR.out, HQ.out, if_neg]
            rintro (h | h)
            · exact hd0 h
            · exact h hT)
          clear hE
          have S5 := Lib.hid (SS.out.below hb)
          clear hb CT y0 y1 y2 f0 f1 f2 z0 z1 z2 e0 e1 e2 sY sZ
          obtain ⟨y0, y1, y2, f0, f1, f2⟩ := three_cells (S5.out.blk 2 rfl)
          obtain ⟨z0, z1, z2, e0, e1, e2⟩ := three_cells (S5.out.blk 0 rfl)
          have sY := S5.out.lt 2 rfl rfl
          have sZ := S5.out.lt 0 rfl rfl
          have P := Lib.hid (S5.out.put3 0 rfl (.int .i64 W) (.int .i64 n) (.slice a2 l.length c2))
          obtain ⟨p0, p1, p2, _⟩ := three_cells (P.out.blk 0 rfl)
          have Q0 := Lib.hid p0
          have Q1 := Lib.hid p1
          have Q2 := Lib.hid p2
          clear p0 p1 p2 hd0 HSR hT
          go_wp2_with (fail)
          rw [HRR.out]
          exact bodyPost_ret (by simp [results, Tryd.results23, go_sem, Q0.out, Q1.out, Q2.out]) rfl ⟨.agg #[.int .i64 W, .int .i64 n, .slice a2 l.length c2], rfl, RVF.out _ (P.out.own 3 rfl).sl, P.out.bel⟩
        · obtain ⟨T, hTT⟩ : ∃ T, bs (rgText q) = T := ⟨_, rfl⟩
          have hne : (T.toList == s.toList) = false := by
            rw [← hTT, beq_eq_false_iff_ne, ByteArray.toList_eq, ByteArray.toList_eq, HD.out, bs_data]
            exact hT
          rw [hTT]
          have HRR : Hid (readR d = (Reg.zero, false)) := Lib.hid (by
            rw [HSR.out, HQ.out, if_pos (.inr hT)])
          clear hTT
          have S5 := Lib.hid (SS.out.below hb)
          clear hb CT y0 y1 y2 f0 f1 f2 z0 z1 z2 e0 e1 e2 sY sZ
          obtain ⟨y0, y1, y2, f0, f1, f2⟩ := three_cells (S5.out.blk 2 rfl)
          obtain ⟨z0, z1, z2, e0, e1, e2⟩ := three_cells (S5.out.blk 0 rfl)
          have sY := S5.out.lt 2 rfl rfl
          have sZ := S5.out.lt 0 rfl rfl
          have P := Lib.hid (S5.out.put3 0 rfl (.int .i64 0) (.int .i64 0) (.slice none 0 0))
          obtain ⟨p0, p1, p2, _⟩ := three_cells (P.out.blk 0 rfl)
          have Q0 := Lib.hid p0
          have Q1 := Lib.hid p1
          have Q2 := Lib.hid p2
          clear p0 p1 p2 hd0 HSR hT
          go_wp2_with (fail)
          rw [HRR.out]
          exact bodyPost_ret (by simp [results, Tryd.results23, go_sem, Q0.out, Q1.out, Q2.out]) rfl ⟨.agg #[.int .i64 0, .int .i64 0, .slice none 0 0], rfl, zero_regV _, P.out.bel⟩
end Go.Proofs.YtklifibiadiinaaDoor
