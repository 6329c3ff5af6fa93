/- Walks: reading dominoes, the reference's. -/
import Derived.Test.YtklifibiadiinaaDoorVWrdS
import Derived.Test.YtklifibiadiinaaDoorVWltxS
import Derived.Test.YtklifibiadiinaaDoorVWrlR
import Derived.Deep.CutRange
set_option linter.unusedVariables false
namespace Go.Proofs.YtklifibiadiinaaDoor
open Go.RowKit Domi

/-- The direction found among the first signs. -/
def zAt (ch : UInt8) (t : Int) : Int := if 1 ≤ wayC ch ∧ wayC ch < t then wayC ch else 0
theorem wayC_bd (ch : UInt8) : 0 ≤ wayC ch ∧ wayC ch ≤ 4 := by
  unfold wayC
  split <;> first | decide | (split <;> first | decide | (split <;> first | decide | (split <;> decide)))
theorem wayC_iff (ch : UInt8) {t : Int} (ht : t = 1 ∨ t = 2 ∨ t = 3 ∨ t = 4) : wayC ch = t ↔ ch = waySg t := by
  constructor
  · intro h
    by_cases h1 : ch = 101
    · subst h1; rw [← h]; decide
    by_cases h2 : ch = 110
    · subst h2; rw [← h]; decide
    by_cases h3 : ch = 119
    · subst h3; rw [← h]; decide
    by_cases h4 : ch = 115
    · subst h4; rw [← h]; decide
    · unfold wayC at h
      rw [if_neg h1, if_neg h2, if_neg h3, if_neg h4] at h
      omega
  · rintro rfl
    rcases ht with rfl | rfl | rfl | rfl <;> decide
theorem way_hit {ch : UInt8} {n : Int} (hn : (ch.toNat : Int) = n) {t : Int} (ht : t = 1 ∨ t = 2 ∨ t = 3 ∨ t = 4) {code : Int} (hc : ((waySg t).toNat : Int) = code) (h : n = code) : zAt ch (t + 1) = t := by
  have e : ch = waySg t := UInt8.toNat_inj.1 (by omega)
  have e2 := (wayC_iff ch ht).2 e
  unfold zAt
  rw [e2, if_pos (by omega)]
theorem way_miss {ch : UInt8} {n : Int} (hn : (ch.toNat : Int) = n) {t : Int} (ht : t = 1 ∨ t = 2 ∨ t = 3 ∨ t = 4) {code : Int} (hc : ((waySg t).toNat : Int) = code) (h : ¬ n = code) : zAt ch (t + 1) = zAt ch t := by
  have e2 : wayC ch ≠ t := fun e => by
    have e3 := (wayC_iff ch ht).1 e
    rw [e3] at hn
    omega
  unfold zAt
  by_cases g : 1 ≤ wayC ch ∧ wayC ch < t
  · rw [if_pos g, if_pos (by omega)]
  · rw [if_neg g, if_neg (by omega)]
theorem zAt_one (ch : UInt8) : zAt ch 1 = 0 := by unfold zAt; rw [if_neg (by omega)]
theorem zAt_end (ch : UInt8) : zAt ch 5 = wayC ch := by
  have := wayC_bd ch
  unfold zAt
  by_cases g : 1 ≤ wayC ch
  · rw [if_pos (by omega)]
  · rw [if_neg (by omega)]; omega
theorem zAt_bd (ch : UInt8) (t : Int) : 0 ≤ zAt ch t ∧ zAt ch t ≤ 4 := by
  have := wayC_bd ch
  unfold zAt; split <;> omega
theorem sep_put3e {w0 w : World} {S : List It} (h : Sep w0 none w S) (i : Nat) {g : Nat} {x y z : Value} {t : TypeId} (hi : S[i]? = some (.box g #[x, y, z] t)) (x' y' z' : Value) (e : TypeId) :
    Sep w0 none ((((w.setCell ⟨g, 0, none⟩ x').setCell ⟨g, 1, none⟩ y').setCell ⟨g, 2, none⟩ z').alloc (.cells #[] e)) (S.set i (.box g #[x', y', z'] t) ++ [.row e (.slice (some ⟨w.heap.size, 0, none⟩) 0 0) []]) := by
  have h1 := (h.put3 i hi x' y' z').empty e
  rw [show (((w.setCell ⟨g, 0, none⟩ x').setCell ⟨g, 1, none⟩ y').setCell ⟨g, 2, none⟩ z').heap.size = w.heap.size by simp] at h1
  exact h1
/-- What lies in memory while the reference reads. -/
def rlS (X0 g1 n c X : Nat) (W : Nat) (R : List (List UInt8)) (a2 : Option Addr) (c2 : Nat) (l : List Bool) (a3 : Option Addr) (c3 : Nat) (L : List Int) : List It :=
  [.box X0 #[.int .i64 0, .int .i64 0, .slice none 0 0] 25, .row 9 (.slice (some ⟨g1, 0, none⟩) n c) (R.map fun l => Value.string (bs l)),
   .box X #[.int .i64 W, .int .i64 n, .slice a2 l.length c2] 25, .row 4 (.slice a2 l.length c2) (l.map Value.bool), .row 3 (.slice a3 L.length c3) (L.map (Value.int .i64))]
set_option maxRecDepth 100000 in
set_option maxHeartbeats 4000000 in
theorem sReadLaid_any (s : ByteArray) (w : World) (hs : s.size ≤ 500) : Calls Tryd.prog 16 #[.string s] w (RetRLB (readL s.data.toList) w) := by
  obtain ⟨w1, hw1⟩ : ∃ w1, w1 = w.alloc (.cells #[.int .i64 0, .int .i64 0, .slice none 0 0] 25) := ⟨_, rfl⟩
  have S1 := Lib.hid (show Sep w none w1 [.box w.heap.size #[.int .i64 0, .int .i64 0, .slice none 0 0] 25] by rw [hw1]; exact (Sep.start w none).box _ _)
  have HCU := Lib.hid (l1Cut_any s w1 (by omega))
  obtain ⟨d, hd⟩ : ∃ d, s.data.toList = d := ⟨_, rfl⟩
  have HD := Lib.hid hd
  have hdl : d.length ≤ 500 := by rw [← hd, Array.length_toList]; exact hs
  rw [hd] at HCU ⊢
  obtain ⟨R, hR⟩ : ∃ R, spl d = R := ⟨_, rfl⟩
  have HR := Lib.hid hR
  have hfl : R.flatten.length ≤ 500 ∧ R.length ≤ 501 := by
    have := spl_flat d
    rw [hR] at this
    have h1 := tallU_pos d
    unfold tallU at h1
    rw [hR] at h1
    omega
  obtain ⟨n, hn⟩ : ∃ n, R.length = n := ⟨_, rfl⟩
  have HN := Lib.hid hn
  have hn1 : 1 ≤ n := by rw [← hn, ← hR]; exact tallU_pos d
  have HFL := Lib.hid hfl
  have hn2 : n ≤ 501 := by rw [← hn]; exact hfl.2
  obtain ⟨W, hW⟩ : ∃ W, (R.getD 0 []).length = W := ⟨_, rfl⟩
  have HW : Hid (wideU d = W) := Lib.hid (by
    rw [← hW]; unfold wideU; rw [hR]
    cases R with
    | nil => simp at hn; omega
    | cons a t => rfl)
  have hWb : W ≤ 500 := by
    have := wide_le d
    rw [HW.out] at this; omega
  have HW0 := Lib.hid hW
  clear hd hR hn hfl hW
  go_enter Tryd.func16, Tryd.ntmps16
  go_wp2_with (fail)
  rw [← hw1]
  clear hw1
  refine HCU.out.mono ?_
  rintro e w2 ⟨a, c, rfl, ho, hb⟩
  rw [HR.out, HN.out] at ho
  obtain ⟨g1, c', e0, _, _, _, _⟩ := ho.formN (by rw [List.length_map, HN.out]; omega)
  rw [List.length_map, HN.out, Value.slice.injEq] at e0
  obtain ⟨rfl, _, rfl⟩ := e0
  have S2 := Lib.hid ((S1.out.below hb).add S1.out ho)
  rw [HR.out, HN.out]
  clear ho hb HCU S1
  have rowAt : Hid (∀ (S : List It) (x : World) (j : Nat), S[1]? = some (.row 9 (.slice (some ⟨g1, 0, none⟩) n c) (R.map fun l => Value.string (bs l))) → Sep w none x S → j < n → x.cell? ⟨g1, j, none⟩ = some (.string (bs (R.getD j [])))) := Lib.hid fun S x j hi hS hj => by
    rw [((hS.own 1 hi).cell j hj).1, List.getElem?_map, List.getElem?_eq_getElem (by rw [HN.out]; exact hj), List.getD_eq_getElem?_getD, List.getElem?_eq_getElem (by rw [HN.out]; exact hj)]
    rfl
  have c0 := rowAt.out _ _ 0 rfl S2.out (by omega)
  obtain ⟨B0, hB0⟩ : ∃ B0, bs (R.getD 0 []) = B0 := ⟨_, rfl⟩
  have hB : B0.size = W := by rw [← hB0, bs_size, HW0.out]
  rw [hB0] at c0
  clear hB0
  have S3 := Lib.hid ((S2.out.box #[.int .i64 W, .int .i64 n, .slice none 0 0] 25).nil 4)
  go_upto_region 3 with (fail)
  obtain ⟨w3, hw3⟩ : ∃ w3, w3 = w2.alloc (.cells #[.int .i64 W, .int .i64 n, .slice none 0 0] 25) := ⟨_, rfl⟩
  obtain ⟨X, hX⟩ : ∃ X, w2.heap.size = X := ⟨_, rfl⟩
  rw [hX, ← hw3] at S3
  rw [hX, ← hw3]
  clear hw3 hX S2 c0
  have S4 := Lib.hid (S3.out.empty 3)
  clear S3
  go_upto_region 4 with (fail)
  obtain ⟨w4, hw4⟩ : ∃ w4, w4 = w3.alloc (.cells #[] 3) := ⟨_, rfl⟩
  obtain ⟨g4, hg4⟩ : ∃ g4, w3.heap.size = g4 := ⟨_, rfl⟩
  rw [hg4, ← hw4] at S4
  rw [hg4, ← hw4]
  clear hw4 hg4
  have S5 : Hid (Sep w none w4 (rlS w.heap.size g1 n c X W R none 0 [] (some ⟨g4, 0, none⟩) 0 [])) := Lib.hid S4.out
  clear S4
  go_wp2_with (fail)
  go_loopw [7, 8] (fun u i wr => ∃ (j : Nat) (iv : Int) (a2 : Option Addr) (c2 : Nat) (l : List Bool) (a3 : Option Addr) (c3 : Nat) (L : List Int), j ≤ n ∧ i = .int .i64 iv ∧ u = .slice a3 L.length c3 ∧ Hid (iv = (n : Int) - 1 - j) ∧ Hid (l = (R.reverse.take j).flatten.map fun c => c != 46) ∧ Hid (L = (R.reverse.take j).flatten.map wayC) ∧ Sep w none wr (rlS w.heap.size g1 n c X W R a2 c2 l a3 c3 L)) (fun _ i _ => (intOf i + 1).toNat)
  case atStart => exact ⟨0, (n : Int) - 1, none, 0, [], some ⟨g4, 0, none⟩, 0, [], Nat.zero_le _, by go_num, rfl, Lib.hid (by omega), Lib.hid rfl, Lib.hid rfl, S5.out⟩
  case round =>
    clear S5
    obtain ⟨j, iv, a2, c2, l, a3, c3, L0, hj, rfl, rfl, HI, HLL, HLD, hsep⟩ := hrel
    have SS := Lib.hid hsep
    have hiv : -1 ≤ iv ∧ iv ≤ 500 := by have := HI.out; omega
    clear hsep
    by_cases h0 : 0 ≤ iv
    · obtain ⟨y, rfl⟩ := Int.eq_ofNat_of_zero_le h0
      have hyn : y < n := by have := HI.out; omega
      have hyn' : (y : Int) < (n : Int) := by omega
      have HY : Hid (n - 1 - j = y) := Lib.hid (by have := HI.out; omega)
      obtain ⟨row, hrow⟩ : ∃ row, R.getD y [] = row := ⟨_, rfl⟩
      have HROW := Lib.hid hrow
      obtain ⟨L, hL⟩ : ∃ L, row.length = L := ⟨_, rfl⟩
      have HL := Lib.hid hL
      have HREV : Hid ((R.reverse.take (j + 1)).flatten = (R.reverse.take j).flatten ++ row) := Lib.hid (by
        have hjl : j < R.reverse.length := by rw [List.length_reverse, HN.out]; have := HI.out; omega
        rw [List.take_succ_eq_append_getElem hjl, List.flatten_append, List.flatten_cons, List.flatten_nil, List.append_nil]
        congr 1
        rw [List.getElem_reverse, ← hrow, ← HY.out, List.getD_eq_getElem?_getD, List.getElem?_eq_getElem (by rw [HN.out]; omega), Option.getD_some]
        congr 1
        rw [HN.out])
      have hL5 : L ≤ 500 := by
        have h1 := flat_take R.reverse (j + 1)
        rw [flat_rev, HREV.out, List.length_append, hL] at h1
        have := HFL.out.1
        omega
      clear hrow hL
      go_wp2_with (fail)
      go_loopw [7, 9] (fun u i wr => ∃ (x : Nat) (a2 : Option Addr) (c2 : Nat) (l : List Bool) (a3 : Option Addr) (c3 : Nat) (M : List Int), x ≤ L ∧ i = .int .i64 x ∧ u = .slice a3 M.length c3 ∧ Hid (l = ((R.reverse.take j).flatten ++ row.take x).map fun c => c != 46) ∧ Hid (M = ((R.reverse.take j).flatten ++ row.take x).map wayC) ∧ Sep w none wr (rlS w.heap.size g1 n c X W R a2 c2 l a3 c3 M)) (fun _ i _ => L - (intOf i).toNat)
      case atStart => exact ⟨0, a2, c2, l, a3, c3, L0, Nat.zero_le _, rfl, rfl, Lib.hid (by rw [HLL.out, List.take_zero, List.append_nil]), Lib.hid (by rw [HLD.out, List.take_zero, List.append_nil]), SS.out⟩
      case round =>
        clear SS HLL HLD
        obtain ⟨x, a2, c2, l, a3, c3, M, hx, rfl, rfl, HLL, HLD, hsep⟩ := hrel
        have SS := Lib.hid hsep
        clear hsep
        have c1 := rowAt.out _ _ y rfl SS.out hyn
        rw [HROW.out] at c1
        obtain ⟨Bk, hBk⟩ : ∃ Bk, bs row = Bk := ⟨_, rfl⟩
        have HBK := Lib.hid hBk
        have hBL : Bk.size = L := by rw [← hBk, bs_size, HL.out]
        clear hBk
        rw [HBK.out] at c1
        by_cases hxL : x < L
        · have hxL' : (x : Int) < (L : Int) := by omega
          have hxB : x < Bk.size := by omega
          obtain ⟨ch, hch⟩ : ∃ ch, row.getD x 0 = ch := ⟨_, rfl⟩
          obtain ⟨cv, hcv⟩ : ∃ cv : Int, (ch.toNat : Int) = cv := ⟨_, rfl⟩
          have HBT : Hid (∀ h : x < Bk.size, ((Bk[x]'h).toNat : Int) = cv) := Lib.hid fun h => by
            rw [← hcv, ← hch]
            have h2 : x < row.length := by rw [HL.out]; exact hxL
            have e := HBK.out
            subst e
            rw [List.getD_eq_getElem?_getD, List.getElem?_eq_getElem h2]; rfl
          obtain ⟨bb, hbb⟩ : ∃ bb, (cv != 46) = bb := ⟨_, rfl⟩
          have hgx : row.take (x + 1) = row.take x ++ [ch] := by
            have h2 : x < row.length := by rw [HL.out]; exact hxL
            rw [List.take_succ_eq_append_getElem h2]
            rw [List.getD_eq_getElem?_getD, List.getElem?_eq_getElem h2, Option.getD_some] at hch
            rw [hch]
          have NL : Hid (l ++ [bb] = ((R.reverse.take j).flatten ++ row.take (x + 1)).map fun c => c != 46) := Lib.hid (by
            rw [HLL.out, hgx, ← List.append_assoc, List.map_append (l₁ := (R.reverse.take j).flatten ++ row.take x)]
            congr 1
            rw [List.map_cons, List.map_nil]
            congr 1
            rw [← hbb, ← hcv, Bool.eq_iff_iff, bne_iff_ne, bne_iff_ne]
            refine not_congr ⟨fun h => UInt8.toNat_inj.1 (show ch.toNat = 46 by omega), ?_⟩
            rintro rfl; rfl)
          have NM : Hid (M ++ [wayC ch] = ((R.reverse.take j).flatten ++ row.take (x + 1)).map wayC) := Lib.hid (by
            rw [HLD.out, hgx, ← List.append_assoc, List.map_append (l₁ := (R.reverse.take j).flatten ++ row.take x)]; rfl)
          have hl5 : l.length ≤ 1000 ∧ M.length ≤ 1000 := by
            rw [HLL.out, HLD.out, List.length_map, List.length_map, List.length_append, List.length_take]
            have h1 := flat_take R.reverse j
            rw [flat_rev] at h1
            have := HFL.out.1
            omega
          have HCV := Lib.hid hcv
          clear hch hcv HLL HLD hgx
          obtain ⟨y0, y1, y2, f0, f1, f2⟩ := three_cells (SS.out.blk 2 rfl)
          have sY := SS.out.lt 2 rfl rfl
          have s1 := SS.out.lt 1 rfl rfl
          have hbt := HBT.out
          go_upto_region 10 with (fail)
          go_cut [] from 29 to 69 (fun wx => ∃ (g2 cap : Nat), Sep w none wx (rlS w.heap.size g1 n c X W R (some ⟨g2, 0, none⟩) cap (l ++ [bb]) a3 c3 M))
          case first =>
            go_region_law (refine step_app elem_bools 0 (.slice a2 l.length c2) (l.map Value.bool) ?_ wr.heap.size (.bool bb) (.tmp 39) (.tmp 47) (by rfl) (by rfl) (by rfl) (by rfl) (heap_alloc_new _ _) (by rfl) ?_ ?_ ?_; exact Own.alloc (SS.out.drew.own 3 rfl) _; (rw [List.length_map]; omega); (exact Nat.zero_le _); intro g2 cap w7 A7; (have D8 := Lib.hid ((SS.out.drew.alloc _).app 3 rfl A7)); (obtain ⟨z0, z1, z2, e0, e1, e2⟩ := three_cells (D8.out.blk 2 rfl)); clear A7)
            all_goals
              have D9 := Lib.hid (D8.out.put 2 rfl 2 (.slice (some ⟨g2, 0, none⟩) (l.length + 1) cap))
              have S9 : Hid (Sep w none (w7.setCell ⟨X, 2, none⟩ (.slice (some ⟨g2, 0, none⟩) (l.length + 1) cap)) (rlS w.heap.size g1 n c X W R (some ⟨g2, 0, none⟩) cap (l ++ [bb]) a3 c3 M)) := Lib.hid (by simpa [rlS] using D9.out)
              clear D8 D9
              go_wp2_with (fail)
              go_meet
              exact ⟨g2, cap, S9.out⟩
          case rest =>
            obtain ⟨g2, cap, hsep⟩ := hcut
            have S9 := Lib.hid hsep
            clear hsep SS y0 y1 y2 f0 f1 f2 c1 hbt s1
            go_wp2_with (fail)
            go_loopw [10, 11] (fun z t wr => ∃ (tv zv : Int), 1 ≤ tv ∧ tv ≤ 5 ∧ t = .int .i64 tv ∧ z = .int .i64 zv ∧ Hid (zv = zAt ch tv) ∧ Sep w none wr (rlS w.heap.size g1 n c X W R (some ⟨g2, 0, none⟩) cap (l ++ [bb]) a3 c3 M)) (fun _ t _ => (5 - intOf t).toNat)
            case atStart => exact ⟨1, 0, by omega, by omega, rfl, rfl, Lib.hid (zAt_one ch).symm, S9.out⟩
            case round =>
              clear S9
              obtain ⟨tv, zv, ht1, ht5, rfl, rfl, HZ, hsep⟩ := hrel
              have SS := Lib.hid hsep
              clear hsep
              have hcases : tv = 5 ∨ tv = 1 ∨ tv = 2 ∨ tv = 3 ∨ tv = 4 := by omega
              have c1 := rowAt.out _ _ y rfl SS.out hyn
              rw [HROW.out, HBK.out] at c1
              have s1 := SS.out.lt 1 rfl rfl
              have SD : Hid (∀ o : Obj, Sep w none (wr.alloc o).drew (rlS w.heap.size g1 n c X W R (some ⟨g2, 0, none⟩) cap (l ++ [bb]) a3 c3 M)) := Lib.hid fun o => (SS.out.alloc o).drew
              clear ht1 ht5
              rcases hcases with rfl | hc
              · have hz : zv = wayC ch := HZ.out.trans (zAt_end ch)
                subst hz
                have hzb := wayC_bd ch
                obtain ⟨zz, hzz⟩ : ∃ zz, wayC ch = zz := ⟨_, rfl⟩
                rw [hzz] at NM hzb HZ
                rw [hzz]
                clear hzz SD
                go_wp2_with (at_builtin; refine list_app elem_ints 0 (.slice a3 M.length c3) (M.map (Value.int .i64)) ?_ wr.heap.size (.int .i64 zz) (.tmp 66) (.tmp 68) rfl rfl rfl rfl (heap_alloc_new _ _) rfl ?_ (Nat.zero_le _) ?_; exact Own.alloc (SS.out.own 4 rfl) _; (rw [List.length_map]; omega); intro g5 c5 w9 A5; (have S5 := Lib.hid ((SS.out.alloc _).app 4 rfl A5)); clear A5 SS; rw [List.length_map])
                have SF : Hid (Sep w none w9 (rlS w.heap.size g1 n c X W R (some ⟨g2, 0, none⟩) cap (l ++ [bb]) (some ⟨g5, 0, none⟩) c5 (M ++ [zz]))) := Lib.hid (by simpa [rlS] using S5.out)
                clear S5
                go_roundw
                case rel => exact ⟨x + 1, some ⟨g2, 0, none⟩, cap, l ++ [bb], some ⟨g5, 0, none⟩, c5, M ++ [zz], by omega, by go_num, by rw [List.length_append]; rfl, NL, NM, SF.out⟩
                case measure => simp [intOf]; omega
              · have hbt := HBT.out
                rcases hc with rfl | rfl | rfl | rfl
                · by_cases hq : cv = 101
                  · have NZ := Lib.hid (way_hit HCV.out (t := 1) (by omega) (code := 101) rfl hq)
                    have hq' : (cv == 101) = true := by simpa using hq
                    clear hq
                    go_wp2_with (fail)
                    go_region
                    go_wp2_with (fail)
                    go_roundw
                    case rel => exact ⟨2, 1, by omega, by omega, by go_num, rfl, Lib.hid NZ.out.symm, SD.out _⟩
                    case measure => simp [intOf]
                  · have NZ := Lib.hid (way_miss HCV.out (t := 1) (by omega) (code := 101) rfl hq)
                    have hq' : (cv == 101) = false := by simpa using hq
                    clear hq
                    go_wp2_with (fail)
                    go_region
                    go_wp2_with (fail)
                    go_roundw
                    case rel => exact ⟨2, zv, by omega, by omega, by go_num, rfl, Lib.hid (HZ.out.trans NZ.out.symm), SD.out _⟩
                    case measure => simp [intOf]
                · by_cases hq : cv = 110
                  · have NZ := Lib.hid (way_hit HCV.out (t := 2) (by omega) (code := 110) rfl hq)
                    have hq' : (cv == 110) = true := by simpa using hq
                    clear hq
                    go_wp2_with (fail)
                    go_region
                    go_wp2_with (fail)
                    go_roundw
                    case rel => exact ⟨3, 2, by omega, by omega, by go_num, rfl, Lib.hid NZ.out.symm, SD.out _⟩
                    case measure => simp [intOf]
                  · have NZ := Lib.hid (way_miss HCV.out (t := 2) (by omega) (code := 110) rfl hq)
                    have hq' : (cv == 110) = false := by simpa using hq
                    clear hq
                    go_wp2_with (fail)
                    go_region
                    go_wp2_with (fail)
                    go_roundw
                    case rel => exact ⟨3, zv, by omega, by omega, by go_num, rfl, Lib.hid (HZ.out.trans NZ.out.symm), SD.out _⟩
                    case measure => simp [intOf]
                · by_cases hq : cv = 119
                  · have NZ := Lib.hid (way_hit HCV.out (t := 3) (by omega) (code := 119) rfl hq)
                    have hq' : (cv == 119) = true := by simpa using hq
                    clear hq
                    go_wp2_with (fail)
                    go_region
                    go_wp2_with (fail)
                    go_roundw
                    case rel => exact ⟨4, 3, by omega, by omega, by go_num, rfl, Lib.hid NZ.out.symm, SD.out _⟩
                    case measure => simp [intOf]
                  · have NZ := Lib.hid (way_miss HCV.out (t := 3) (by omega) (code := 119) rfl hq)
                    have hq' : (cv == 119) = false := by simpa using hq
                    clear hq
                    go_wp2_with (fail)
                    go_region
                    go_wp2_with (fail)
                    go_roundw
                    case rel => exact ⟨4, zv, by omega, by omega, by go_num, rfl, Lib.hid (HZ.out.trans NZ.out.symm), SD.out _⟩
                    case measure => simp [intOf]
                · by_cases hq : cv = 115
                  · have NZ := Lib.hid (way_hit HCV.out (t := 4) (by omega) (code := 115) rfl hq)
                    have hq' : (cv == 115) = true := by simpa using hq
                    clear hq
                    go_wp2_with (fail)
                    go_region
                    go_wp2_with (fail)
                    go_roundw
                    case rel => exact ⟨5, 4, by omega, by omega, by go_num, rfl, Lib.hid NZ.out.symm, SD.out _⟩
                    case measure => simp [intOf]
                  · have NZ := Lib.hid (way_miss HCV.out (t := 4) (by omega) (code := 115) rfl hq)
                    have hq' : (cv == 115) = false := by simpa using hq
                    clear hq
                    go_wp2_with (fail)
                    go_region
                    go_wp2_with (fail)
                    go_roundw
                    case rel => exact ⟨5, zv, by omega, by omega, by go_num, rfl, Lib.hid (HZ.out.trans NZ.out.symm), SD.out _⟩
                    case measure => simp [intOf]
        · have e : x = L := by omega
          have HL3 : Hid (l = (R.reverse.take (j + 1)).flatten.map fun c => c != 46) := Lib.hid (by
            rw [HLL.out, HREV.out, List.take_of_length_le (l := row) (by rw [HL.out, e]; exact Nat.le_refl _)])
          have HM3 : Hid (M = (R.reverse.take (j + 1)).flatten.map wayC) := Lib.hid (by
            rw [HLD.out, HREV.out, List.take_of_length_le (l := row) (by rw [HL.out, e]; exact Nat.le_refl _)])
          have hxL' : ¬ (x : Int) < (L : Int) := by omega
          clear HLL HLD
          go_wp2_with (fail)
          go_roundw
          case rel => exact ⟨j + 1, (y : Int) - 1, a2, c2, l, a3, c3, M, by have := HI.out; omega, by go_num, rfl, Lib.hid (by have := HI.out; push_cast; omega), HL3, HM3, SS.out⟩
          case measure => simp [intOf]; try omega
    · have e : j = n := by have := HI.out; omega
      have hfl : (R.reverse.take j).flatten = sigs d := by
        rw [e, List.take_of_length_le (by rw [List.length_reverse, HN.out]; exact Nat.le_refl _)]
        unfold sigs
        rw [HR.out]
      have HL3 : Hid (l = (sigs d).map fun c => c != 46) := Lib.hid (by rw [HLL.out, hfl])
      have HM3 : Hid (L0 = layU d) := Lib.hid (by rw [HLD.out, hfl]; rfl)
      obtain ⟨q, hq⟩ : ∃ q, outR d = q := ⟨_, rfl⟩
      have hqw : q.wide = (W : Int) := by rw [← hq]; unfold outR; rw [HW.out]
      have hqt : q.tall = (n : Int) := by rw [← hq]; unfold outR tallU; rw [HR.out, HN.out]
      have hqc : q.cells = l := by rw [← hq]; unfold outR; rw [HL3.out]
      have RVF : Hid (∀ T : World, Bl T (.slice a2 l.length c2) l → RegV T (.agg #[.int .i64 W, .int .i64 n, .slice a2 l.length c2]) q) := Lib.hid fun T h => ⟨_, by rw [hqw, hqt], by rw [hqc]; exact h⟩
      have HQB : Hid ((-1000 ≤ q.wide ∧ q.wide ≤ 1000) ∧ (-1000 ≤ q.tall ∧ q.tall ≤ 1000)) := Lib.hid (by rw [hqw, hqt]; omega)
      have HSR : Hid (readL d = if d = [] ∨ laidText q L0 ≠ d then (Reg.zero, [], false) else (q, L0, true)) := Lib.hid (by rw [spec_readL d, hq, HM3.out])
      clear hq hqw hqt hqc HLL HLD HL3 HM3 e hfl
      obtain ⟨y0, y1, y2, f0, f1, f2⟩ := three_cells (SS.out.blk 2 rfl)
      obtain ⟨z0, z1, z2, e0, e1, e2⟩ := three_cells (SS.out.blk 0 rfl)
      have sY := SS.out.lt 2 rfl rfl
      have sZ := SS.out.lt 0 rfl rfl
      by_cases hd0 : d = []
      · have he : s.toList.isEmpty = true := by rw [ByteArray.toList_eq, HD.out, hd0]; rfl
        have HRR : Hid (readL d = (Reg.zero, [], false)) := Lib.hid (by rw [HSR.out, if_pos (.inl hd0)])
        have P := Lib.hid (sep_put3e SS.out 0 rfl (.int .i64 0) (.int .i64 0) (.slice none 0 0) 3)
        obtain ⟨p0, p1, p2, _⟩ := three_cells (P.out.blk 0 rfl)
        have Q0 := Lib.hid p0
        have Q1 := Lib.hid p1
        have Q2 := Lib.hid p2
        clear p0 p1 p2 hd0 HSR
        go_wp2_with (fail)
        rw [HRR.out]
        exact bodyPost_ret (by simp [results, Tryd.results16, go_sem, Q0.out, Q1.out, Q2.out]) rfl ⟨.agg #[.int .i64 0, .int .i64 0, .slice none 0 0], .slice (some ⟨wr.heap.size, 0, none⟩) 0 0, rfl, zero_regV _, (P.out.own 5 rfl).sl, P.out.bel⟩
      · have he : s.toList.isEmpty = false := by
          rw [ByteArray.toList_eq, HD.out]
          cases d with
          | nil => exact absurd rfl hd0
          | cons _ _ => rfl
        have CT := Lib.hid (sLaidText_any _ _ q L0 wr (RVF.out _ (SS.out.own 3 rfl).sl) ((SS.out.own 4 rfl).sl) HQB.out.1 HQB.out.2)
        go_wp2_with (fail)
        refine CT.out.mono ?_
        rintro e w4 ⟨rfl, hb⟩
        have S5 := Lib.hid (SS.out.below hb)
        clear hb CT y0 y1 y2 f0 f1 f2 z0 z1 z2 e0 e1 e2 sY sZ
        obtain ⟨y0, y1, y2, f0, f1, f2⟩ := three_cells (S5.out.blk 2 rfl)
        obtain ⟨z0, z1, z2, e0, e1, e2⟩ := three_cells (S5.out.blk 0 rfl)
        have sY := S5.out.lt 2 rfl rfl
        have sZ := S5.out.lt 0 rfl rfl
        by_cases hT : laidText q L0 = d
        · have hE : bs (laidText q L0) = s := by rw [hT, ← HD.out]; rfl
          rw [hE]
          have HRR : Hid (readL d = (q, L0, true)) := Lib.hid (by
            rw [HSR.out, if_neg]
            rintro (h | h)
            · exact hd0 h
            · exact h hT)
          clear hE
          have P := Lib.hid (S5.out.put3 0 rfl (.int .i64 W) (.int .i64 n) (.slice a2 l.length c2))
          obtain ⟨p0, p1, p2, _⟩ := three_cells (P.out.blk 0 rfl)
          have Q0 := Lib.hid p0
          have Q1 := Lib.hid p1
          have Q2 := Lib.hid p2
          clear p0 p1 p2 hd0 HSR hT
          go_wp2_with (fail)
          rw [HRR.out]
          exact bodyPost_ret (by simp [results, Tryd.results16, go_sem, Q0.out, Q1.out, Q2.out]) rfl ⟨.agg #[.int .i64 W, .int .i64 n, .slice a2 l.length c2], .slice a3 L0.length c3, rfl, RVF.out _ (P.out.own 3 rfl).sl, (P.out.own 4 rfl).sl, P.out.bel⟩
        · obtain ⟨T, hTT⟩ : ∃ T, bs (laidText q L0) = T := ⟨_, rfl⟩
          have hne : (T.toList == s.toList) = false := by
            rw [← hTT, beq_eq_false_iff_ne, ByteArray.toList_eq, ByteArray.toList_eq, HD.out, bs_data]
            exact hT
          rw [hTT]
          have HRR : Hid (readL d = (Reg.zero, [], false)) := Lib.hid (by
            rw [HSR.out, if_pos (.inr hT)])
          clear hTT
          have P := Lib.hid (sep_put3e S5.out 0 rfl (.int .i64 0) (.int .i64 0) (.slice none 0 0) 3)
          obtain ⟨p0, p1, p2, _⟩ := three_cells (P.out.blk 0 rfl)
          have Q0 := Lib.hid p0
          have Q1 := Lib.hid p1
          have Q2 := Lib.hid p2
          clear p0 p1 p2 hd0 HSR hT
          go_wp2_with (fail)
          rw [HRR.out]
          exact bodyPost_ret (by simp [results, Tryd.results16, go_sem, Q0.out, Q1.out, Q2.out]) rfl ⟨.agg #[.int .i64 0, .int .i64 0, .slice none 0 0], .slice (some ⟨w4.heap.size, 0, none⟩) 0 0, rfl, zero_regV _, (P.out.own 5 rfl).sl, P.out.bel⟩
end Go.Proofs.YtklifibiadiinaaDoor
