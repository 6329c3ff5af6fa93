/- Walks: count of the program: the closure that counts and remembers. -/
import Derived.Test.YtklifibiadiinaaVWlaid
import Derived.Test.YtklifibiadiinaaVClone
import Derived.Test.YtklifibiadiinaaZc
import Derived.Test.YtklifibiadiinaaVLaw
set_option linter.unusedVariables false
namespace Go.Proofs.Ytklifibiadiinaa
open Go.RowKit Domi

theorem elem_bytes : ElemOk Try.prog 35 5 1 := ⟨Try.underlying35, by kernel_rfl⟩
theorem str_keyed : Go.Maps.Keyed Try.prog 9 := Go.Maps.string_keyed Try.underlying9
theorem zero_intW (w : World) : (zeroValue 3).run Try.prog w = .ok (.int .i64 0) w := by kernel_rfl
theorem run_make_key (n : Nat) (hn : n ≤ 36) (w : World) :
    (Instr.makeSlice 35 (.int .i64 0) (.int .i64 ((n : Int) + 1))).run Try.prog w = .ok (.slice (some ⟨w.heap.size, 0, none⟩) 0 (n + 1)) (w.alloc (.cells (mkRow (n + 1) (.int .u8 0)) 5)) := by
  obtain ⟨i, z, i1, i2, i3, i4, i5⟩ := elem_bytes.info
  have hz : z = .int .u8 0 := by
    have h : (Try.prog.info? 5).bind (·.zero) = some (.int .u8 0) := by kernel_rfl
    rw [i1] at h; simp [i2] at h; exact h
  subst hz
  have hr := run_make (P := Try.prog) w 35 5 i _ elem_bytes.ht i1 i2 .i64 .i64 0 ((n : Int) + 1) (by omega) (by omega) (by rw [i4]; omega) (by omega)
  rw [hr, i3, Nat.mul_one]
  have e1 : ((n : Int) + 1).toNat = n + 1 := by omega
  rw [e1]
  have e2 : madeCells (Value.cells (.int .u8 0)) (n + 1) = mkRow (n + 1) (.int .u8 0) := madeOne _ _
  rw [e2]; rfl
section
variable {P : Program} {ops : Array Oper} {o : Oper} {a : Act} {Q : Exit → Act → World → Prop} {w : World}
theorem list_make_key (n : Nat) (hn : n ≤ 36) (l c : Operand) {rest : List Oper} (hgd : o.guard = none) (ho : o.op = Op.makeSlice 35 l c) (hlv : a.eval l = .int .i64 0) (hcv : a.eval c = .int .i64 ((n : Int) + 1))
    (h : ∀ gk W1, Own W1 w.heap.size 5 (.slice (some ⟨gk, 0, none⟩) 0 (n + 1)) [] → Below w.heap.size w W1 → wpList Try.prog ops Q rest (a.put o.dst (.slice (some ⟨gk, 0, none⟩) 0 (n + 1))) W1) :
    wpList Try.prog ops Q (o :: rest) a w := by
  refine wpList_plain hgd fun K hK' => ?_
  have hrun := run_make_key n hn w
  unfold Oper.wp
  simp [execOp, ho, hlv, hcv, hrun, Result.andThen]
  refine hK' _ _ (h _ _ ?_ (below_alloc w _))
  exact World.ownsRow_made (base := w.heap.size) (e := 5) (size := 1) w (mkRow (n + 1) (.int .u8 0)) (n + 1) (Nat.le_refl _) (by unfold maxLen; omega) (by simp [mkRow])
end
theorem key_made (w : World) (n : Nat) (hn : n ≤ 36) : Own (w.alloc (.cells (mkRow (n + 1) (.int .u8 0)) 5)) w.heap.size 5 (.slice (some ⟨w.heap.size, 0, none⟩) 0 (n + 1)) [] := by
  have := World.ownsRow_made (base := w.heap.size) (e := 5) (size := 1) w (mkRow (n + 1) (.int .u8 0)) (n + 1) (Nat.le_refl _) (by unfold maxLen; omega) (by simp [mkRow])
  exact this

/-- What the closure captures. -/
structure CW (r : Reg) (s : Value) (gR gK gF gm : Nat) (w : World) : Prop where
  box : w.heap[gR]? = some (.cells #[.int .i64 r.wide, .int .i64 r.tall, s] 28 (0, 0))
  kn : w.heap[gK]? = some (.cells #[.map (some gm)] 91 (0, 0))
  fn : w.heap[gF]? = some (.cells #[.func (.func 104) #[] #[.pointer (some ⟨gR, 0, none⟩), .pointer (some ⟨gK, 0, none⟩), .pointer (some ⟨gF, 0, none⟩)]] 52 (0, 0))
  bl : Bl w s r.cells
abbrev OM (w : World) (gm N : Nat) (D : DataW Unit) : Prop := w.ownsMap Try.prog 9 (plainElem Try.prog 3) gm N D
theorem CW.below {r : Reg} {s : Value} {gR gK gF gm : Nat} {w w' : World} (h : CW r s gR gK gF gm w) (hb : Below w.heap.size w w') : CW r s gR gK gF gm w' :=
  ⟨by rw [hb.block _ (lt_of_heap h.box)]; exact h.box, by rw [hb.block _ (lt_of_heap h.kn)]; exact h.kn, by rw [hb.block _ (lt_of_heap h.fn)]; exact h.fn, h.bl.below hb⟩
theorem CW.grown {r : Reg} {s : Value} {gR gK gF gm N : Nat} {D : DataW Unit} {w w' : World} (h : CW r s gR gK gF gm w) (hm : OM w gm N D) (hg : w.grownBy w' (some gm)) : CW r s gR gK gF gm w' := by
  obtain ⟨es, ck, hb, _⟩ := hm
  exact ⟨grown_block hb hg h.box, grown_block hb hg h.kn, grown_block hb hg h.fn, Sl.grownM hb hg h.bl⟩
theorem CW.cells {r : Reg} {s : Value} {gR gK gF gm : Nat} {w : World} (h : CW r s gR gK gF gm w) :
    w.cell? ⟨gR, 0, none⟩ = some (.int .i64 r.wide) ∧ w.cell? ⟨gR, 1, none⟩ = some (.int .i64 r.tall) ∧ w.cell? ⟨gR, 2, none⟩ = some s ∧ w.cell? ⟨gK, 0, none⟩ = some (.map (some gm)) ∧
    w.cell? ⟨gF, 0, none⟩ = some (.func (.func 104) #[] #[.pointer (some ⟨gR, 0, none⟩), .pointer (some ⟨gK, 0, none⟩), .pointer (some ⟨gF, 0, none⟩)]) :=
  ⟨(three_cells h.box).1, (three_cells h.box).2.1, (three_cells h.box).2.2.1, cell_of_one h.kn, cell_of_one h.fn⟩
theorem om_below {gm N : Nat} {D : DataW Unit} {w w' : World} (h : OM w gm N D) (hb : Below w.heap.size w w') : OM w' gm N D := h.kept (grown_below hb none) (by simp)
theorem sl_om {gm N : Nat} {D : DataW Unit} {w w' : World} (hm : OM w gm N D) (hg : w.grownBy w' (some gm)) {v : Value} {xs : List Value} (h : Sl w v xs) : Sl w' v xs := by
  obtain ⟨es, ck, hb, _⟩ := hm; exact Sl.grownM hb hg h

/-- What the closure leaves. -/
def Counted (r : Reg) (gm N B : Nat) (x : Nat) (w : World) (e : Ending) (w' : World) : Prop :=
  e = .returned (.int .i64 (x : Int)) ∧ w.grownBy w' (some gm) ∧ ∃ N' D', OM w' gm N' D' ∧ Memo r D' ∧ N' + 1 ≤ N + B
theorem counted_is {r : Reg} {gm N B : Nat} {x : Nat} {w : World} {y : Int} (h : (x : Int) = y) {w' : World} {N' : Nat} {D' : DataW Unit} (hg : w.grownBy w' (some gm)) (ho : OM w' gm N' D') (hm : Memo r D') (hN : N' + 1 ≤ N + B) : Counted r gm N B x w (.returned (.int .i64 y)) w' := by
  subst h; exact ⟨rfl, hg, N', D', ho, hm, hN⟩

set_option maxRecDepth 100000 in
set_option maxHeartbeats 8000000 in
theorem count_walk (r : Reg) (hv : r.valid = true) (s : Value) (gR gK gF gm : Nat) : ∀ (n : Nat) (v : Value) (C : List Bool) (c : Nat) (w : World) (N : Nat) (D : DataW Unit), C.length = r.cells.length → c + n = r.cells.length → CW r s gR gK gF gm w → OM w gm N D → Memo r D → N + 2 ^ (n + 1) ≤ 2 ^ 40 → Bl w v C →
    Calls Try.prog 104 #[v, .int .i64 c, .pointer (some ⟨gR, 0, none⟩), .pointer (some ⟨gK, 0, none⟩), .pointer (some ⟨gF, 0, none⟩)] w (Counted r gm N (2 ^ (n + 1)) (tilC n r C c) w) := by
  intro n
  induction n using Nat.strongRecOn with
  | _ n ih =>
  intro v C c w N D hC hcn hW hM hme hN hb
  have IH := Lib.hid ih
  obtain ⟨v1, v2, v3, _⟩ := Reg.valid_iff.1 hv
  have hA := area_in v1 v2
  have hl36 : 1 ≤ r.cells.length ∧ r.cells.length ≤ 36 := by omega
  obtain ⟨va, vc, hvf, hvl, hvm, hvc⟩ := hb.opened
  rw [hC] at hvf hvl
  subst hvf
  obtain ⟨vb, vo, rfl, hvb, hvcell⟩ : ∃ b off, va = some ⟨b, off, none⟩ ∧ b < w.heap.size ∧ ∀ i, i < C.length → w.cell? ⟨b, off + i, none⟩ = some (.bool (C.getD i false)) := by
    rcases hvc with e | h
    · rw [e] at hC; simp at hC; omega
    · exact h
  obtain ⟨sa, sc, rfl, hsl, hsm, hsc⟩ := hW.bl.opened
  obtain ⟨sb, so, rfl, hsb, hscell⟩ : ∃ b off, sa = some ⟨b, off, none⟩ ∧ b < w.heap.size ∧ ∀ i, i < r.cells.length → w.cell? ⟨b, off + i, none⟩ = some (.bool (r.cells.getD i false)) := by
    rcases hsc with e | h
    · rw [e] at hl36; simp at hl36
    · exact h
  have HW := Lib.hid hW
  have HM := Lib.hid hM
  have HME := Lib.hid hme
  have HNN := Lib.hid hN
  have HB := Lib.hid hb
  have HC := Lib.hid hC
  have HCN := Lib.hid hcn
  have HVC := Lib.hid hvcell
  have HSC := Lib.hid hscell
  have hc36 : c ≤ 36 := by omega
  have HV3 := Lib.hid v3
  have hmk := run_make_key r.cells.length (by omega)
  obtain ⟨z0, z1, z2, z3, z4⟩ := hW.cells
  have sR := lt_of_heap hW.box
  have sK := lt_of_heap hW.kn
  have sF := lt_of_heap hW.fn
  clear ih hvc hsc hvcell hscell hW hM hme hN hb v3 hA hC hcn
  go_enter Try.func104, Try.ntmps104
  go_wp2
  go_loop [1] (fun i => ∃ k : Nat, c ≤ k ∧ k ≤ r.cells.length ∧ i = .int .i64 k ∧ ∀ j, c ≤ j → j < k → skipB r C j = true) (fun i => r.cells.length - (intOf i).toNat)
  case atStart => exact ⟨c, Nat.le_refl _, by have := HCN.out; omega, rfl, fun _ _ h => by omega⟩
  case round =>
    obtain ⟨k, hck, hkC, rfl, hsk⟩ := hrel
    have HSK := Lib.hid hsk
    clear hsk
    by_cases hlt : k < r.cells.length
    rotate_left
    · have e : k = r.cells.length := by omega
      subst e
      have HT := Lib.hid (show ((tilC n r C c : Nat) : Int) = 1 by
        have h := tilC_pass r C r.cells.length (r.cells.length - c) c (by have := HCN.out; omega) (fun j h1 h2 => HSK.out j h1 (by omega))
        have e1 : r.cells.length - c = n := by have := HCN.out; omega
        have e2 : r.cells.length - (c + n) = 0 := by have := HCN.out; omega
        rw [e1, e2] at h
        rw [h]; rfl)
      have h2 := Lib.hid (Nat.one_le_two_pow (n := n + 1))
      go_wp2
      go_ret
      exact counted_is HT.out (grown_refl _ _) HM.out HME.out (by have := h2.out; omega)
    have hsk1 := HSC.out k hlt
    have hvk1 := HVC.out k (by have := HC.out; omega)
    cases hskip : skipB r C k
    rotate_left
    · have HD := Lib.hid (fun j (h1 : c ≤ j) (h2 : j < k + 1) => show skipB r C j = true by
        by_cases e : j = k
        · subst e; exact hskip
        · exact HSK.out j h1 (by omega))
      unfold skipB at hskip
      cases hf : r.cells.getD k false
      · rw [hf] at hsk1
        clear hskip hf
        go_wp2
        go_round
        case rel => exact ⟨k + 1, by omega, by omega, by go_num, HD.out⟩
        case measure => simp [intOf]; omega
      · have hcv : C.getD k false = true := by rw [show r.f k = true from hf] at hskip; simpa using hskip
        rw [hf] at hsk1
        rw [hcv] at hvk1
        clear hskip hf hcv
        go_wp2
        go_round
        case rel => exact ⟨k + 1, by omega, by omega, by go_num, HD.out⟩
        case measure => simp [intOf]; omega
    · have hfk : r.cells.getD k false = true := by
        unfold skipB at hskip
        cases h : r.cells.getD k false
        · rw [show r.f k = false from h] at hskip; cases hskip
        · rfl
      have hcv : C.getD k false = false := by
        unfold skipB at hskip
        cases h : C.getD k false
        · rfl
        · rw [h] at hskip; simp at hskip
      rw [hfk] at hsk1
      rw [hcv] at hvk1
      obtain ⟨m, hm⟩ : ∃ m, r.cells.length - k = m + 1 := ⟨r.cells.length - k - 1, by omega⟩
      have HT := Lib.hid (show tilC n r C c = wayC m r C k 1 + wayC m r C k 2 by
        have h := tilC_pass r C r.cells.length (k - c) c (by omega) (fun j h1 h2 => HSK.out j h1 (by omega))
        have e1 : r.cells.length - c = n := by have := HCN.out; omega
        have e2 : c + (k - c) = k := by omega
        rw [e1, e2, hm] at h
        rw [h, tilC_open hskip])
      have HTK := Lib.hid (show tilC (r.cells.length - k) r C k = tilC n r C c by
        have h := tilC_pass r C r.cells.length (k - c) c (by omega) (fun j h1 h2 => HSK.out j h1 (by omega))
        have e1 : r.cells.length - c = n := by have := HCN.out; omega
        have e2 : c + (k - c) = k := by omega
        rw [e1, e2] at h
        exact h.symm)
      have hmn : m < n := by have := HCN.out; omega
      have hwk : IntKind.u8.wrap (k : Int) = k := by
        have : k ≤ 36 := by omega
        rw [IntKind.wrap_u8]; omega
      clear hskip hfk hcv
      clear hmk
      go_wp2_with (first
        | (at_make; refine list_make_key r.cells.length (by omega) _ _ rfl rfl rfl rfl ?_; intro gk W1 hk1 hb1; (have HK1 := Lib.hid hk1); (have HB1 := Lib.hid hb1); clear hk1 hb1)
        | (at_builtin; refine list_app elem_bytes w.heap.size (.slice (some ⟨gk, 0, none⟩) 0 (r.cells.length + 1)) [] (Own.alloc HK1.out _) W1.heap.size (.int .u8 k) (.tmp 46) (.tmp 49) rfl rfl rfl rfl (heap_alloc_new _ _) rfl (by simp) (by have := HB1.out.size; simp; omega) ?_; intro g2 c2 W2 A2; (have A2 := Lib.hid A2)))
      have O2 : Own W2 w.heap.size 5 (.slice (some ⟨g2, 0, none⟩) ((keyJ C k 0).map (Value.int .u8)).length c2) ((keyJ C k 0).map (Value.int .u8)) := A2.out.own
      have B2 := Lib.hid (HB1.out.trans (App.below A2.out (Own.alloc HK1.out _) (by have := HB1.out.size; simp; omega) |> fun h => (below_alloc W1 _).mono HB1.out.size |>.trans h))
      have O2 := Lib.hid O2
      have HCK := Lib.hid (show C.length - k = m + 1 by rw [HC.out]; exact hm)
      clear A2 HK1 z0 z1 z2 z3 z4 hsk1 hvk1
      go_loopw [8, 55] (fun key i wr => ∃ (j g cc : Nat), j ≤ m + 1 ∧ i = .int .i64 j ∧ key = .slice (some ⟨g, 0, none⟩) ((keyJ C k j).map (Value.int .u8)).length cc ∧ Own wr w.heap.size 5 (.slice (some ⟨g, 0, none⟩) ((keyJ C k j).map (Value.int .u8)).length cc) ((keyJ C k j).map (Value.int .u8)) ∧ Below w.heap.size w wr) (fun _ i _ => m + 1 - (intOf i).toNat)
      case atStart => exact ⟨0, g2, c2, by omega, rfl, rfl, O2.out, B2.out⟩
      case round =>
        clear O2 B2 HB1
        obtain ⟨j, g, cc, hj, rfl, rfl, ho, hbw⟩ := hrel
        have HO := Lib.hid ho
        have HBW := Lib.hid hbw
        have hws := hbw.size
        have hvb2 : vb < wr.heap.size := Nat.lt_of_lt_of_le hvb hws
        clear ho hbw
        by_cases hjm : j < m + 1
        · have hcj : wr.cell? ⟨vb, vo + k + j, none⟩ = some (.bool (C.getD (k + j) false)) := by
            have h1 := HVC.out (k + j) (by have := HC.out; omega)
            rw [Nat.add_assoc, HBW.out.cell (p := ⟨vb, vo + (k + j), none⟩) hvb]; exact h1
          have HS := keyJ_succ (C := C) (c := k) (j := j) (by rw [HCK.out]; exact hjm)
          have hkl : (keyJ C k j).length = j + 1 := keyJ_len (by rw [HCK.out]; omega)
          have HKL := Lib.hid hkl
          clear hkl
          cases hb : C.getD (k + j) false
          all_goals
            rw [hb] at hcj HS
            have HS := Lib.hid HS
            clear hb
            obtain ⟨kl, hkl⟩ : ∃ n, ((keyJ C k j).map (Value.int .u8)).length = n := ⟨_, rfl⟩
            have HKN := Lib.hid hkl
            rw [hkl] at HO ⊢
            clear hkl
          · go_wp2_with (at_builtin; refine list_app elem_bytes w.heap.size (.slice (some ⟨g, 0, none⟩) kl cc) ((keyJ C k j).map (Value.int .u8)) ?_ wr.heap.size (.int .u8 48) (.tmp 63) (.tmp 64) rfl rfl rfl rfl (heap_alloc_new _ _) rfl ?_ ?_ ?_; exact Own.alloc (HKN.out ▸ HO.out) _; (rw [List.length_map, HKL.out]; omega); (simp; omega); intro g3 c3 w3 A3; (have A3 := Lib.hid A3))
            have B3 := Lib.hid (HBW.out.trans ((below_alloc wr _).mono hws |>.trans (App.below A3.out (Own.alloc (HKN.out ▸ HO.out) _) (by simp; omega))))
            have O3 : Hid (Own w3 w.heap.size 5 (.slice (some ⟨g3, 0, none⟩) ((keyJ C k (j + 1)).map (Value.int .u8)).length c3) ((keyJ C k (j + 1)).map (Value.int .u8))) := Lib.hid (by rw [HS.out, List.map_append]; simpa [Own] using A3.out.own)
            have HE := Lib.hid (show ((keyJ C k (j + 1)).map (Value.int .u8)).length = ((keyJ C k j).map (Value.int .u8)).length + 1 by rw [HS.out]; simp)
            go_wp2
            go_roundw
            case rel => exact ⟨j + 1, g3, c3, by omega, by go_num, by rw [HE.out, List.length_map], O3.out, B3.out⟩
            case measure => simp [intOf]; omega
          · go_wp2_with (at_builtin; refine list_app elem_bytes w.heap.size (.slice (some ⟨g, 0, none⟩) kl cc) ((keyJ C k j).map (Value.int .u8)) ?_ wr.heap.size (.int .u8 49) (.tmp 60) (.tmp 61) rfl rfl rfl rfl (heap_alloc_new _ _) rfl ?_ ?_ ?_; exact Own.alloc (HKN.out ▸ HO.out) _; (rw [List.length_map, HKL.out]; omega); (simp; omega); intro g3 c3 w3 A3; (have A3 := Lib.hid A3))
            have B3 := Lib.hid (HBW.out.trans ((below_alloc wr _).mono hws |>.trans (App.below A3.out (Own.alloc (HKN.out ▸ HO.out) _) (by simp; omega))))
            have O3 : Hid (Own w3 w.heap.size 5 (.slice (some ⟨g3, 0, none⟩) ((keyJ C k (j + 1)).map (Value.int .u8)).length c3) ((keyJ C k (j + 1)).map (Value.int .u8))) := Lib.hid (by rw [HS.out, List.map_append]; simpa [Own] using A3.out.own)
            have HE := Lib.hid (show ((keyJ C k (j + 1)).map (Value.int .u8)).length = ((keyJ C k j).map (Value.int .u8)).length + 1 by rw [HS.out]; simp)
            go_wp2
            go_roundw
            case rel => exact ⟨j + 1, g3, c3, by omega, by go_num, by rw [HE.out, List.length_map], O3.out, B3.out⟩
            case measure => simp [intOf]; omega
        · have e : j = m + 1 := by omega
          subst e
          have hke : ((keyJ C k (m + 1)).map (Value.int .u8)).length = m + 2 := by rw [List.length_map, keyJ_len (by rw [HCK.out]; omega)]
          have hkn : (keyJ C k (m + 1)) = keyN C k := by rw [← HCK.out]; exact keyJ_all
          have hnl : (keyN C k).length = m + 2 := by rw [keyN_len, HCK.out]
          rw [hkn, List.length_map, hnl] at HO ⊢
          have KC := Lib.hid (show Sl wr (.slice (some ⟨g, 0, none⟩) (m + 2) cc) ((keyN C k).map (Value.int .u8)) from HO.out.2 |> fun _ => by
            have h := Own.sl (w := wr) (B := w.heap.size) (e := 5) (v := .slice (some ⟨g, 0, none⟩) (m + 2) cc) (xs := (keyN C k).map (Value.int .u8)) (by simpa [Own, hnl] using HO.out)
            exact h)
          have HNL := Lib.hid hnl
          clear hke hkn hnl
          obtain ⟨S, hS⟩ : ∃ S, strOfNums (keyN C k) = S := ⟨_, rfl⟩
          have HCV : Hid (∀ x, Sl x (.slice (some ⟨g, 0, none⟩) (m + 2) cc) ((keyN C k).map (Value.int .u8)) → (convert 35 9 (.slice (some ⟨g, 0, none⟩) (m + 2) cc)).run Try.prog x = .ok (.string S) x) := Lib.hid fun x hx => by
            rw [← hS]
            refine run_convert_bytes_arg x 35 5 Try.underlying35 Try.underlying5 g 0 (m + 2) cc (keyN C k) HNL.out (fun i hi => ?_) 9 Try.underlying9
            obtain ⟨a', c', e, _, _, h3⟩ := hx
            have e' : (some (⟨g, 0, none⟩ : Addr)) = a' := by
              have := e; rw [List.length_map, HNL.out] at this
              simp only [Value.slice.injEq, true_and] at this
              exact this.1
            subst e'
            rcases h3 with h3 | ⟨b', o', e2, _, hc'⟩
            · have : (keyN C k).length = 0 := by rw [List.map_eq_nil_iff.1 h3]; rfl
              have := HNL.out; omega
            · cases e2
              have hil : i < (keyN C k).length := by rw [HNL.out]; exact hi
              rw [hc' i (by rw [List.length_map]; exact hil), List.getElem_map, Domi.get_at (keyN C k) 0 i hil]
          have HKEY : Hid (keyOf Try.prog 9 (.string S) = some (.string (keyL C k))) := Lib.hid (by
            have hsz : S.size ≤ maxLen := by rw [← hS, strOfNums_size, HNL.out]; unfold maxLen; omega
            rw [Go.WideMaps.keyOf_string_mk Try.underlying9 hsz, ← hS, keyN_str])
          have HWR := Lib.hid (HW.out.below HBW.out)
          have HMR := Lib.hid (om_below HM.out HBW.out)
          have hcv1 := HCV.out wr KC.out
          obtain ⟨z0, z1, z2, z3, z4⟩ := HWR.out.cells
          have sR2 := lt_of_heap HWR.out.box
          have sK2 := lt_of_heap HWR.out.kn
          have sF2 := lt_of_heap HWR.out.fn
          clear hS
          cases hhas : Go.Maps.has D (.string (keyL C k))
          rotate_left
          · have HHAS := Lib.hid hhas
            clear hhas
            go_wp2_with (at_lookup; refine wpList_lookup_own_ok_int _ rfl _ _ 91 rfl 9 3 .i64 str_keyed Try.underlying91 Try.underlying3 (zero_intW _) gm N D rfl HMR.out _ _ rfl HKEY.out ?_; intro cv hat hwc; rw [HHAS.out]; (have HAT := Lib.hid hat); clear hat hwc)
            have HX := Lib.hid (show ((tilC n r C c : Nat) : Int) = cv by
              have h1 := HME.out.says C k HC.out hlt HHAS.out (.lit (.int .i64 0))
              rw [HAT.out, HTK.out] at h1
              injection h1 with h1
              injection h1 with _ h1
              exact h1.symm)
            have h2 := Lib.hid (Nat.one_le_two_pow (n := n + 1))
            clear z0 z1 z2 z3 z4 hcv1
            go_wp2
            go_ret
            exact counted_is HX.out (grown_below HBW.out _) HMR.out HME.out (by have := h2.out; omega)
          · have HHAS := Lib.hid hhas
            clear hhas
            go_wp2_with (at_lookup; refine wpList_lookup_own_ok_int _ rfl _ _ 91 rfl 9 3 .i64 str_keyed Try.underlying91 Try.underlying3 (zero_intW _) gm N D rfl HMR.out _ _ rfl HKEY.out ?_; intro cv hat hwc; rw [HHAS.out]; clear hat hwc)
            have HA := Lib.hid (heap_alloc_new wr (.cells #[.int .i64 1, .int .i64 2] 3))
            have B4 := below_alloc wr (.cells #[.int .i64 1, .int .i64 2] 3)
            obtain ⟨w4, hw4⟩ : ∃ x, x = wr.alloc (.cells #[.int .i64 1, .int .i64 2] 3) := ⟨_, rfl⟩
            rw [← hw4] at HA B4 ⊢
            have hA4 : wr.heap.size < w4.heap.size := by rw [hw4]; simp
            have HW4 := Lib.hid (HWR.out.below B4)
            have HM4 := Lib.hid (om_below HMR.out B4)
            have KC4 := Lib.hid (Sl.below KC.out B4)
            have HB4 := Lib.hid (Sl.below HB.out (HBW.out.trans (B4.mono HBW.out.size)))
            have G4 := Lib.hid (grown_below (HBW.out.trans (B4.mono HBW.out.size)) (some gm))
            clear z0 z1 z2 z3 z4 hcv1 hw4 B4
            generalize wr.heap.size = A at *
            have hP1 := Nat.one_le_two_pow (n := m)
            have hP2 : 2 ^ m ≤ 2 ^ 36 := Nat.pow_le_pow_right (by omega) (by omega)
            have hP3 : 2 ^ (m + 1) = 2 ^ m + 2 ^ m := by rw [Nat.pow_succ]; omega
            have hP4 : 2 ^ (m + 1) + 2 ^ (m + 1) ≤ 2 ^ (n + 1) := by
              have : 2 ^ (m + 2) ≤ 2 ^ (n + 1) := Nat.pow_le_pow_right (by omega) (by omega)
              have : 2 ^ (m + 2) = 2 ^ (m + 1) + 2 ^ (m + 1) := by rw [Nat.pow_succ]; omega
              omega
            have HP4 := Lib.hid hP4
            have HP3 := Lib.hid hP3
            have HP2 := Lib.hid hP2
            have HP1 := Lib.hid hP1
            clear hP1 hP2 hP3 hP4
            go_loopw [13, 78] (fun q i wx => ∃ (j N' : Nat) (D' : DataW Unit), j ≤ 2 ∧ i = .int .i64 j ∧ q = .int .i64 (sumJ m r C k j : Nat) ∧ w4.grownBy wx (some gm) ∧ OM wx gm N' D' ∧ Memo r D' ∧ N' + j ≤ N + j * 2 ^ (m + 1)) (fun _ i _ => 2 - (intOf i).toNat)
            case atStart => exact ⟨0, N, D, by omega, rfl, by rw [sumJ_zero]; rfl, grown_refl _ _, HM4.out, HME.out, by omega⟩
            case round =>
              obtain ⟨j, N', D', hj, rfl, rfl, hg, hom, hme', hN'⟩ := hrel
              have HG := Lib.hid hg
              have HMx := Lib.hid hom
              have HEx := Lib.hid hme'
              have HNx := Lib.hid hN'
              have HWx := Lib.hid (HW4.out.grown HM4.out hg)
              have HBx := Lib.hid (sl_om HM4.out hg HB4.out)
              have KCx := Lib.hid (sl_om HM4.out hg KC4.out)
              have hAx : wr.heap[A]? = some (.cells #[.int .i64 1, .int .i64 2] 3 (0, 0)) := by
                obtain ⟨es, ck, hb, _⟩ := HM4.out
                exact grown_block hb hg HA.out
              have HAx := Lib.hid hAx
              have hsum := sumJ_le m r C k j
              have HSUM := Lib.hid hsum
              obtain ⟨y, hy⟩ : ∃ y, sumJ m r C k j = y := ⟨_, rfl⟩
              have HY := Lib.hid hy
              rw [hy] at hsum ⊢
              have hy40 : (y : Int) ≤ 137438953472 := by have := HP2.out; omega
              clear hg hom hme' hN' hAx hsum hy
              by_cases hj2 : j < 2
              · have hca : wr.cell? ⟨A, j, none⟩ = some (.int .i64 ((j : Int) + 1)) := by
                  rw [cell_of_row wr A j _ _ _ HAx.out]
                  have hc : j = 0 ∨ j = 1 := by omega
                  rcases hc with rfl | rfl <;> rfl
                have sA := lt_of_heap HAx.out
                obtain ⟨z0, z1, z2, z3, z4⟩ := HWx.out.cells
                have sR3 := lt_of_heap HWx.out.box
                have sK3 := lt_of_heap HWx.out.kn
                have sF3 := lt_of_heap HWx.out.fn
                have HSJ := Lib.hid (sumJ_succ (m := m) (r := r) (C := C) (k := k) hj2)
                obtain ⟨t, ht⟩ : ∃ t, stepI r k ((j : Int) + 1) = t := ⟨_, rfl⟩
                have HST := Lib.hid ht
                have HK3 := Lib.hid (show (k : Int) < r.wide * r.tall by have := HV3.out; omega)
                have htin : t = -1 ∨ (0 ≤ t ∧ t < (r.cells.length : Int)) := by
                  have h := stepI_in (r := r) (c := k) (way := (j : Int) + 1) (by omega) (by omega) HK3.out
                  rw [ht, ← HV3.out] at h; exact h
                clear ht
                go_wp2_with (fail)
                refine (step_is _ r k ((j : Int) + 1) t wr ⟨_, rfl, HWx.out.bl⟩ hv (by omega) HK3.out HST.out).mono ?_
                rintro e w5 ⟨rfl, hb⟩
                have HW5 := Lib.hid (HWx.out.below hb)
                have HM5 := Lib.hid (om_below HMx.out hb)
                have HB5 := Lib.hid (Sl.below HBx.out hb)
                have G5 := Lib.hid (grown_trans HG.out (grown_below hb (some gm)))
                clear hb z0 z1 z2 z3 z4 hca
                obtain ⟨z0, z1, z2, z3, z4⟩ := HW5.out.cells
                have sR4 := lt_of_heap HW5.out.box
                have sF4 := lt_of_heap HW5.out.fn
                by_cases ht0 : 0 ≤ t
                rotate_left
                · have HX := Lib.hid (show sumJ m r C k (j + 1) = y by
                    rw [HSJ.out, wayC_no, HY.out]; rfl
                    unfold canB; rw [HST.out, decide_eq_false ht0]; rfl)
                  go_wp2
                  go_roundw
                  case rel => exact ⟨j + 1, N', D', by omega, by go_num, by rw [HX.out], G5.out, HM5.out, HEx.out, by have := HNx.out; have := HP1.out; have := HP3.out; rw [Nat.add_mul, Nat.one_mul]; omega⟩
                  case measure => simp [intOf]; omega
                obtain ⟨u, rfl⟩ := Int.eq_ofNat_of_zero_le ht0
                have hul : u < r.cells.length := by omega
                have hfu : w5.cell? ⟨sb, so + u, none⟩ = some (.bool (r.cells.getD u false)) := by
                  obtain ⟨_, _, e, _, _, h3⟩ := HW5.out.bl.opened
                  simp only [Value.slice.injEq] at e
                  obtain ⟨rfl, _, rfl⟩ := e
                  rcases h3 with e | ⟨b', o', e, _, hc'⟩
                  · rw [e] at hul; simp at hul
                  · cases e; exact hc' u hul
                have hsb5 : sb < w5.heap.size := World.block_lt_of_cell? w5 ⟨sb, so + u, none⟩ hfu
                have hcu : w5.cell? ⟨vb, vo + u, none⟩ = some (.bool (C.getD u false)) := by
                  have h5 : Bl w5 (.slice (some ⟨vb, vo, none⟩) r.cells.length vc) C := HB5.out
                  obtain ⟨_, _, e, _, _, h3⟩ := h5.opened
                  simp only [Value.slice.injEq] at e
                  obtain ⟨rfl, _, rfl⟩ := e
                  rcases h3 with e | ⟨b', o', e, _, hc'⟩
                  · have := HC.out; rw [e] at this; simp at this; omega
                  · cases e; exact hc' u (by have := HC.out; omega)
                have hvb5 : vb < w5.heap.size := World.block_lt_of_cell? w5 ⟨vb, vo + u, none⟩ hcu
                cases hf : r.cells.getD u false
                · rw [hf] at hfu
                  have HX := Lib.hid (show sumJ m r C k (j + 1) = y by
                    rw [HSJ.out, wayC_no, HY.out]; rfl
                    unfold canB; rw [HST.out, Int.toNat_natCast, show r.f u = false from hf, Bool.and_false]; rfl)
                  clear hf
                  go_wp2
                  go_roundw
                  case rel => exact ⟨j + 1, N', D', by omega, by go_num, by rw [HX.out], G5.out, HM5.out, HEx.out, by have := HNx.out; have := HP1.out; have := HP3.out; rw [Nat.add_mul, Nat.one_mul]; omega⟩
                  case measure => simp [intOf]; omega
                cases hcc : C.getD u false
                rotate_left
                · rw [hcc] at hcu
                  rw [hf] at hfu
                  have HX := Lib.hid (show sumJ m r C k (j + 1) = y by
                    rw [HSJ.out, wayC_no, HY.out]; rfl
                    unfold canB; rw [HST.out, Int.toNat_natCast, hcc]; simp)
                  clear hf hcc
                  go_wp2
                  go_roundw
                  case rel => exact ⟨j + 1, N', D', by omega, by go_num, by rw [HX.out], G5.out, HM5.out, HEx.out, by have := HNx.out; have := HP1.out; have := HP3.out; rw [Nat.add_mul, Nat.one_mul]; omega⟩
                  case measure => simp [intOf]; omega
                rw [hcc] at hcu
                rw [hf] at hfu
                have HCAN := Lib.hid (show canB r C k ((j : Int) + 1) = true by
                  unfold canB; rw [HST.out, Int.toNat_natCast, hcc, show r.f u = true from hf]; simp)
                have HWY := Lib.hid (wayC_yes (m := m) HCAN.out)
                have HCV2 := Lib.hid (show cov r C k ((j : Int) + 1) = (C.set k true).set u true by unfold cov; rw [HST.out, Int.toNat_natCast])
                clear hf hcc
                go_wp2_with (fail)
                refine (Clone_bool _ C w5 HB5.out (by have := HC.out; omega) (by have := HC.out; omega)).mono ?_
                rintro e w6 ⟨v6, rfl, ho, hb⟩
                obtain ⟨gn, cn, rfl, hgn, hgn2, _, _⟩ := ho.formN (by rw [List.length_map]; have := HC.out; omega)
                rw [List.length_map, HC.out] at ho ⊢
                have HO6 : Hid (Own w6 w5.heap.size 4 (.slice (some ⟨gn, 0, none⟩) r.cells.length cn) (C.map Value.bool)) := Lib.hid (by have := ho; simpa [Own, HC.out] using this)
                obtain ⟨_, q1, q2, q3⟩ := Own.there HO6.out k (by omega)
                have O7 := Lib.hid (Own.stored HO6.out k (.bool true))
                obtain ⟨_, q4, q5, q6⟩ := Own.there O7.out u (by omega)
                have O8 := Own.stored O7.out u (.bool true)
                rw [← List.map_set, ← List.map_set, ← HCV2.out] at O8
                have B8 := (hb.setCell (p := ⟨gn, k, none⟩) hgn (.bool true)).setCell (p := ⟨gn, u, none⟩) hgn (.bool true)
                have O8 := Lib.hid O8
                have HB8 := Lib.hid B8
                have HW8 := Lib.hid (HW5.out.below B8)
                have HM8 := Lib.hid (om_below HM5.out B8)
                obtain ⟨y0, y1, y2, y3, y4⟩ := HW8.out.cells
                have sF8 := lt_of_heap HW8.out.fn
                clear ho hb B8 z0 z1 z2 z3 z4 hfu hcu
                go_wp2_with (fail)
                refine (IH.out m hmn _ (cov r C k ((j : Int) + 1)) (k + 1) _ N' D' (by rw [cov_len]; exact HC.out) (by omega) HW8.out HM8.out HEx.out (by
                  have := HNx.out; have := HNN.out; have := HP4.out; have := HP1.out; have := HP3.out
                  have hc : j = 0 ∨ j = 1 := by omega
                  rcases hc with rfl | rfl <;> omega) O8.out.sl).mono ?_
                rintro e w9 ⟨rfl, hg9, N9, D9, hom9, hme9, hN9⟩
                have G9 := Lib.hid (grown_trans (grown_trans G5.out (grown_below HB8.out (some gm))) hg9)
                have HM9 := Lib.hid hom9
                have HE9 := Lib.hid hme9
                have HN9 := Lib.hid hN9
                have HX := Lib.hid (show sumJ m r C k (j + 1) = y + tilC m r (cov r C k ((j : Int) + 1)) (k + 1) by rw [HSJ.out, HWY.out, HY.out])
                have htc := tilC_le r m (cov r C k ((j : Int) + 1)) (k + 1)
                obtain ⟨q, hq⟩ : ∃ q, tilC m r (cov r C k ((j : Int) + 1)) (k + 1) = q := ⟨_, rfl⟩
                rw [hq] at htc HX ⊢
                have hq36 : (q : Int) ≤ 68719476736 := by have := HP2.out; omega
                clear hg9 hom9 hme9 hN9 y0 y1 y2 y3 y4 q1 q2 q3 q4 q5 q6 htc hq
                go_wp2
                go_roundw
                case rel => exact ⟨j + 1, N9, D9, by omega, by go_num, by rw [HX.out]; go_num, G9.out, HM9.out, HE9.out, by have := HNx.out; have := HN9.out; rw [Nat.add_mul, Nat.one_mul]; omega⟩
                case measure => simp [intOf]; omega
              · have e : j = 2 := by omega
                subst e
                have hcv2 := HCV.out wr KCx.out
                obtain ⟨z0, z1, z2, z3, z4⟩ := HWx.out.cells
                have sK3 := lt_of_heap HWx.out.kn
                have HX := Lib.hid (show tilC n r C c = y by rw [HT.out, ← sumJ_two, HY.out])
                have hwf : (Lit.int .i64 (y : Int)).wf = true := WalkArith.wf_i64 (by omega)
                have HPUT := Lib.hid (HEx.out.put v1.1 hl36.2 HC.out hlt)
                rw [HTK.out, HX.out] at HPUT
                have HNB : Hid (N' < maxLen) := Lib.hid (by have := HNx.out; have := HNN.out; have := HP4.out; unfold maxLen; omega)
                go_wp2_with (at_mapUpdate; refine wpList_mapUpdate_own _ rfl _ _ _ 91 rfl 9 3 str_keyed Try.underlying91 _ gm N' D' rfl HMx.out HNB.out _ _ _ rfl rfl HKEY.out _ [] (plainElem_int Try.underlying3 hwf) ?_; intro w8 hown8 hgrow8; (have O8 := Lib.hid hown8); (have G8 := Lib.hid hgrow8); clear hown8 hgrow8)
                have GF := Lib.hid (grown_trans (grown_trans G4.out HG.out) G8.out)
                clear z0 z1 z2 z3 z4 hcv2
                go_ret
                exact counted_is (congrArg Nat.cast HX.out) GF.out O8.out HPUT.out (by have := HNx.out; have := HP4.out; omega)
end Go.Proofs.Ytklifibiadiinaa
