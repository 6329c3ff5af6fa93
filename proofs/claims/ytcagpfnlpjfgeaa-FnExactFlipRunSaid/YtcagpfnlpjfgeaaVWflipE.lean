/- Walks: FlipRun on both sides. -/
import Derived.Test.YtcagpfnlpjfgeaaVWflipD
set_option linter.unusedVariables false
namespace Go.Proofs.Ytcagpfnlpjfgeaa
open Go.RowKit Domi

/-- One flip of a run: the list and how many were done. -/
def runS (r : Reg) (p : List Int × Nat) (c : Int) : List Int × Nat := (flipL r p.1 c, p.2 + if canFl r p.1 c then 1 else 0)
def runK (r : Reg) (L cs : List Int) (k : Nat) : List Int × Nat := (cs.take k).foldl (runS r) (L, 0)
def flipRun (r : Reg) (L cs : List Int) : List Int × Nat := if laidOk r L && decide (cs.length ≤ 60) then runK r L cs cs.length else ([], 0)
theorem runK_zero (r : Reg) (L cs : List Int) : runK r L cs 0 = (L, 0) := by unfold runK; simp
theorem runK_succ {r : Reg} {L cs : List Int} {k : Nat} (hk : k < cs.length) : runK r L cs (k + 1) = runS r (runK r L cs k) (cs.getD k 0) := by
  unfold runK; rw [take_snoc cs 0 k hk, List.foldl_append]; rfl
theorem runK_ok {r : Reg} {L : List Int} (h : laidOk r L = true) (cs : List Int) (k : Nat) : laidOk r (runK r L cs k).1 = true := by
  induction k with
  | zero => rw [runK_zero]; exact h
  | succ k ih =>
    by_cases hk : k < cs.length
    · rw [runK_succ hk]; exact flip_ok ih
    · have e : runK r L cs (k + 1) = runK r L cs k := by unfold runK; rw [List.take_of_length_le (by omega), List.take_of_length_le (by omega)]
      rw [e]; exact ih
theorem runK_le (r : Reg) (L cs : List Int) (k : Nat) : (runK r L cs k).2 ≤ k := by
  induction k with
  | zero => rw [runK_zero]; exact Nat.le_refl _
  | succ k ih =>
    by_cases hk : k < cs.length
    · rw [runK_succ hk]; unfold runS; simp only; split <;> omega
    · have e : runK r L cs (k + 1) = runK r L cs k := by unfold runK; rw [List.take_of_length_le (by omega), List.take_of_length_le (by omega)]
      rw [e]; omega
theorem runK_yes {r : Reg} {L cs : List Int} {k n : Nat} {X : List Int} (hk : k < cs.length) (h : runK r L cs k = (X, n)) (hc : canFl r X (cs.getD k 0) = true) : runK r L cs (k + 1) = (flipL r X (cs.getD k 0), n + 1) := by
  rw [runK_succ hk, h]; unfold runS; simp only; rw [hc]; rfl
theorem runK_no {r : Reg} {L cs : List Int} {k n : Nat} {X : List Int} (hk : k < cs.length) (h : runK r L cs k = (X, n)) (hc : canFl r X (cs.getD k 0) = false) : runK r L cs (k + 1) = (X, n) := by
  rw [runK_succ hk, h]; unfold runS; simp only; rw [hc, flipL_no hc]; rfl
theorem flipRun_no1 {r : Reg} {L cs : List Int} (h : laidOk r L = false) : flipRun r L cs = ([], 0) := by unfold flipRun; rw [h]; rfl
theorem flipRun_no2 {r : Reg} {L cs : List Int} (h : 60 < cs.length) : flipRun r L cs = ([], 0) := by unfold flipRun; rw [decide_eq_false (by omega), Bool.and_false]; rfl
theorem flipRun_yes {r : Reg} {L cs : List Int} (h : laidOk r L = true) (h2 : cs.length ≤ 60) : flipRun r L cs = runK r L cs cs.length := by unfold flipRun; rw [h, decide_eq_true h2]; rfl
theorem runK_len (r : Reg) (L cs : List Int) (k : Nat) : (runK r L cs k).1.length = L.length := by
  induction k with
  | zero => rw [runK_zero]
  | succ k ih =>
    by_cases hk : k < cs.length
    · rw [runK_succ hk]; unfold runS; simp only; rw [flipL_len]; exact ih
    · have e : runK r L cs (k + 1) = runK r L cs k := by unfold runK; rw [List.take_of_length_le (by omega), List.take_of_length_le (by omega)]
      rw [e]; exact ih
theorem flipRun_len (r : Reg) (L cs : List Int) : (flipRun r L cs).1.length ≤ L.length := by
  unfold flipRun; split
  · exact Nat.le_of_eq (runK_len r L cs _)
  · exact Nat.zero_le _
/-- A list and a number; the list lies in blocks of its own. -/
def RetWN (q : List Int × Nat) (w : World) (e : Ending) (w' : World) : Prop := ∃ v, e = .returned (.tuple #[v, .int .i64 (q.2 : Int)]) ∧ Ow w' w.heap.size 3 v (q.1.map (Value.int .i64)) ∧ Below w.heap.size w w'
theorem retWN_mk {q : List Int × Nat} {X : List Int} {n : Nat} (h : q = (X, n)) {w w' : World} {v : Value} (hv : Ow w' w.heap.size 3 v (X.map (Value.int .i64))) (hb : Below w.heap.size w w') : RetWN q w (.returned (.tuple #[v, .int .i64 (n : Int)])) w' := by subst h; exact ⟨v, rfl, hv, hb⟩
theorem cl_ow {w : World} {B : Nat} {e : TypeId} {v : Value} {xs : List Value} (h : Cl w B e v xs) : Ow w B e v xs := by
  obtain ⟨g, cur, rfl, hB, hg, ht, hl⟩ := h
  exact .inr ⟨g, xs.length, cur, rfl, hB, hg, by omega, by omega, ht⟩

set_option maxRecDepth 100000 in
set_option maxHeartbeats 4000000 in
theorem FlipRun_any (v u t : Value) (r : Reg) (L cs : List Int) (w : World) (h : RegV w v r) (hu : Il w u L) (ht : Il w t cs)
    (hcs : ∀ k, k < cs.length → -9223372036854775808 ≤ cs.getD k 0 ∧ cs.getD k 0 ≤ 9223372036854775807) :
    Calls Try.prog 57 #[v, u, t] w (RetWN (flipRun r L cs) w) := by
  obtain ⟨a, cap, rfl, hs, hlc, hcm⟩ := h.opened
  have R0 := Lib.hid (RB.new hs)
  have B0 := Lib.hid (below_alloc w (.cells #[.int .i64 r.wide, .int .i64 r.tall, .slice a r.cells.length cap] 25))
  have HU := Lib.hid hu
  have HT := Lib.hid ht
  have HC := Lib.hid hcs
  obtain ⟨ta, tc, rfl, htl, htm, htc⟩ := ht.opened
  clear h hs hu ht hcs
  go_enter Try.func57, Try.ntmps57
  go_wp2_with (fail)
  cases hk : laidOk r L
  · refine (LaidOk_is _ _ r L _ R0.out.v (HU.out.below B0.out) false hk).mono ?_
    rintro e w1 ⟨rfl, hb⟩
    have B1 := Lib.hid (B0.out.trans (hb.mono B0.out.size))
    have E := Lib.hid (flipRun_no1 (cs := cs) hk)
    clear hb
    go_wp2
    go_ret2
    exact retWN_mk E.out (.inl ⟨rfl, rfl⟩) B1.out
  refine (LaidOk_is _ _ r L _ R0.out.v (HU.out.below B0.out) true hk).mono ?_
  rintro e w1 ⟨rfl, hb⟩
  have R1 := Lib.hid (R0.out.on hb)
  have B1 := Lib.hid (B0.out.trans (hb.mono B0.out.size))
  clear hb R0 B0
  by_cases h60 : (60 : Int) < (cs.length : Int)
  · have E := Lib.hid (flipRun_no2 (r := r) (L := L) (cs := cs) (by omega))
    go_wp2
    go_ret2
    exact retWN_mk E.out (.inl ⟨rfl, rfl⟩) B1.out
  have E := Lib.hid (flipRun_yes (cs := cs) hk (by omega))
  obtain ⟨hv, hlen, _⟩ := laidOk_iff.1 hk
  obtain ⟨v1, v2, v3, _⟩ := Reg.valid_iff.1 hv
  have hA := area_in v1 v2
  have HK := Lib.hid hk
  have HL : Hid (0 < L.length ∧ L.length ≤ 1000) := Lib.hid (by omega)
  have HV := Lib.hid hv
  have Hh60 : cs.length ≤ 60 := by omega
  clear hk hlen v3 hA hv v1 v2
  go_wp2_with (fail)
  refine (clone_int _ L _ (HU.out.below B1.out) HL.out.1 HL.out.2).mono ?_
  rintro e w2 ⟨v2, rfl, ho, hb⟩
  have R2 := Lib.hid (R1.out.on hb)
  have B2 := Lib.hid (B1.out.trans (hb.mono B1.out.size))
  have O2 := Lib.hid (cl_ow ho |>.mono B1.out.size)
  clear hb ho R1 B1
  go_wp2_with (fail)
  go_loopw [8, 9, 27] (fun o d i wr => ∃ (k n : Nat) (X : List Int), k ≤ cs.length ∧ i = .int .i64 k ∧ d = .int .i64 n ∧ n ≤ k ∧ runK r L cs k = (X, n) ∧ Ow wr w.heap.size 3 o (X.map (Value.int .i64)) ∧ Below w2.heap.size w2 wr) (fun _ _ i _ => cs.length - (intOf i).toNat)
  case atStart => exact ⟨0, 0, L, Nat.zero_le _, rfl, rfl, Nat.le_refl _, runK_zero r L cs, O2.out, Below.refl _ _⟩
  case round =>
    clear O2
    obtain ⟨k, n, X, hk, rfl, rfl, hnk, hrun, ho, hbw⟩ := hrel
    have HR := Lib.hid hrun
    have HO := Lib.hid ho
    have R3 := Lib.hid (R2.out.on hbw)
    have BR := Lib.hid hbw
    have BW := Lib.hid (B2.out.trans (hbw.mono B2.out.size))
    have HX : Hid (laidOk r X = true) := Lib.hid (by have := runK_ok HK.out cs k; rw [hrun] at this; exact this)
    obtain ⟨xa, xc, rfl⟩ := ho.formM
    clear hrun ho hbw
    by_cases hlt : k < cs.length
    · have hlt' : (k : Int) < (cs.length : Int) := by omega
      rcases htc with hz | ⟨b, off, rfl, hb0, hcell⟩
      · rw [hz] at hlt; simp at hlt
      have hck := ((bcell BW.out).1 b (off + k) hb0).trans (hcell k hlt)
      have hb1 : b < wr.heap.size := Nat.lt_of_lt_of_le hb0 BW.out.size
      obtain ⟨c, hcc⟩ : ∃ c, cs.getD k 0 = c := ⟨_, rfl⟩
      have hcb := HC.out k hlt
      rw [hcc] at hck hcb
      have HCC := Lib.hid hcc
      clear hcell hcc
      obtain ⟨x0, x1, x2⟩ := R3.out.c3
      go_wp2_with (fail)
      refine (flip_any _ _ r X c _ R3.out.v HO.out.il HV.out (laidOk_iff.1 HX.out).2.1 hcb).mono ?_
      rintro e w4 ⟨v4, rfl, ho4, hb4⟩
      have B4 := Lib.hid (BR.out.trans (hb4.mono BR.out.size))
      have O4 := Lib.hid (ho4.mono BW.out.size)
      clear hb4 ho4 x0 x1 x2 hck
      obtain ⟨f, hf⟩ : ∃ f, canFl r X c = f := ⟨_, rfl⟩
      rw [hf]
      cases f
      · have N : Hid (runK r L cs (k + 1) = (flipL r X c, n)) := Lib.hid (by rw [flipL_no hf]; exact runK_no hlt HR.out (by rw [HCC.out]; exact hf))
        clear hf HR
        go_wp2
        go_roundw
        case rel => exact ⟨k + 1, n, _, by omega, by go_num, rfl, by omega, N.out, O4.out, B4.out⟩
        case measure => simp [intOf]; omega
      · have N : Hid (runK r L cs (k + 1) = (flipL r X c, n + 1)) := Lib.hid (by rw [← HCC.out]; exact runK_yes hlt HR.out (by rw [HCC.out]; exact hf))
        clear hf HR
        go_wp2
        go_roundw
        case rel => exact ⟨k + 1, n + 1, _, by omega, by go_num, by go_num, by omega, N.out, O4.out, B4.out⟩
        case measure => simp [intOf]; omega
    · have e : k = cs.length := by omega
      subst e
      go_wp2
      go_ret2
      exact retWN_mk (E.out.trans HR.out) HO.out BW.out

set_option maxRecDepth 100000 in
set_option maxHeartbeats 4000000 in
theorem sFlipRun_any (v u t : Value) (r : Reg) (L cs : List Int) (w : World) (h : RegV w v r) (hu : Il w u L) (ht : Il w t cs)
    (hcs : ∀ k, k < cs.length → -9223372036854775808 ≤ cs.getD k 0 ∧ cs.getD k 0 ≤ 9223372036854775807) :
    Calls Try.prog 56 #[v, u, t] w (RetWN (flipRun r L cs) w) := by
  obtain ⟨a, cap, rfl, hs, hlc, hcm⟩ := h.opened
  have R0 := Lib.hid (RB.new hs)
  have B0 := Lib.hid (below_alloc w (.cells #[.int .i64 r.wide, .int .i64 r.tall, .slice a r.cells.length cap] 25))
  have HU := Lib.hid hu
  have HT := Lib.hid ht
  have HC := Lib.hid hcs
  obtain ⟨ta, tc, rfl, htl, htm, htc⟩ := ht.opened
  have hu2 := hu
  obtain ⟨ua, uc, rfl, hul, hum, _⟩ := hu.opened
  clear h hs hu ht hcs
  go_enter Try.func56, Try.ntmps56
  go_wp2_with (fail)
  cases hk : laidOk r L
  · refine (sLaidOk_is _ _ r L _ R0.out.v (HU.out.below B0.out) false hk).mono ?_
    rintro e w1 ⟨rfl, hb⟩
    have B1 := Lib.hid (B0.out.trans (hb.mono B0.out.size))
    have E := Lib.hid (flipRun_no1 (cs := cs) hk)
    clear hb
    go_wp2
    go_ret2
    exact retWN_mk E.out (Ow.of_owns (own_empty B1.out)) (below_two B1.out _)
  refine (sLaidOk_is _ _ r L _ R0.out.v (HU.out.below B0.out) true hk).mono ?_
  rintro e w1 ⟨rfl, hb⟩
  have R1 := Lib.hid (R0.out.on hb)
  have B1 := Lib.hid (B0.out.trans (hb.mono B0.out.size))
  clear hb R0 B0
  by_cases h60 : (60 : Int) < (cs.length : Int)
  · have E := Lib.hid (flipRun_no2 (r := r) (L := L) (cs := cs) (by omega))
    go_wp2
    go_ret2
    exact retWN_mk E.out (Ow.of_owns (own_empty B1.out)) (below_two B1.out _)
  have E := Lib.hid (flipRun_yes (cs := cs) hk (by omega))
  obtain ⟨hv, hlen, _⟩ := laidOk_iff.1 hk
  obtain ⟨v1, v2, v3, _⟩ := Reg.valid_iff.1 hv
  have hA := area_in v1 v2
  have HK := Lib.hid hk
  have hL1 : 0 < L.length := by omega
  have hL36 : L.length ≤ 36 := by omega
  have Hh60 : cs.length ≤ 60 := by omega
  clear hk hlen v3 hA hv v1 v2 hu2
  have H1c := Lib.hid (int_cells L)
  have S1 := Lib.hid ((Sep.start w1 none).empty 3)
  go_wp2_with (at_builtin; refine list_copy elem_ints _ (S1.out.own 0 rfl) _ (L.map (Value.int .i64)) (HU.out.below (B1.out.trans (S1.out.bel.mono B1.out.size))) L.length (by rw [List.length_map]) hL1 (.tmp 23) (.tmp 24) rfl rfl rfl rfl H1c.out (by omega) ?_; intro g c2 w5 A5; (have S5 := Lib.hid (S1.out.copied 0 rfl A5)); clear A5)
  have R2 := Lib.hid (R1.out.on S5.out.bel)
  have B2 := Lib.hid (B1.out.trans (S5.out.bel.mono B1.out.size))
  have O2 := Lib.hid ((Ow.of_owns (S5.out.high 0 rfl)).mono B1.out.size)
  clear S1 S5 R1
  go_loopw [8, 9, 10] (fun o d i wr => ∃ (k n : Nat) (X : List Int), k ≤ cs.length ∧ i = .int .i64 k ∧ d = .int .i64 n ∧ n ≤ k ∧ runK r L cs k = (X, n) ∧ Ow wr w.heap.size 3 o (X.map (Value.int .i64)) ∧ Below w5.heap.size w5 wr) (fun _ _ i _ => cs.length - (intOf i).toNat)
  case atStart => exact ⟨0, 0, L, Nat.zero_le _, rfl, rfl, Nat.le_refl _, runK_zero r L cs, O2.out, Below.refl _ _⟩
  case round =>
    clear O2
    obtain ⟨k, n, X, hk, rfl, rfl, hnk, hrun, ho, hbw⟩ := hrel
    have HR := Lib.hid hrun
    have HO := Lib.hid ho
    have R3 := Lib.hid (R2.out.on hbw)
    have BR := Lib.hid hbw
    have BW := Lib.hid (B2.out.trans (hbw.mono B2.out.size))
    have HX : Hid (laidOk r X = true) := Lib.hid (by have := runK_ok HK.out cs k; rw [hrun] at this; exact this)
    obtain ⟨xa, xc, rfl⟩ := ho.formM
    clear hrun ho hbw
    by_cases hlt : k < cs.length
    · have hlt' : (k : Int) < (cs.length : Int) := by omega
      rcases htc with hz | ⟨b, off, rfl, hb0, hcell⟩
      · rw [hz] at hlt; simp at hlt
      have hck := ((bcell BW.out).1 b (off + k) hb0).trans (hcell k hlt)
      have hb1 : b < wr.heap.size := Nat.lt_of_lt_of_le hb0 BW.out.size
      obtain ⟨c, hcc⟩ : ∃ c, cs.getD k 0 = c := ⟨_, rfl⟩
      have hcb := HC.out k hlt
      rw [hcc] at hck hcb
      have HCC := Lib.hid hcc
      clear hcell hcc
      obtain ⟨x0, x1, x2⟩ := R3.out.c3
      have sX := R3.out.lt
      go_wp2_with (fail)
      go_region_held3 (fun w' => w'.cell? ⟨w.heap.size, 0, none⟩ = some (.int .i64 r.wide) ∧ w'.cell? ⟨w.heap.size, 1, none⟩ = some (.int .i64 r.tall) ∧ w'.cell? ⟨w.heap.size, 2, none⟩ = some (.slice a r.cells.length cap) ∧ w'.cell? ⟨b, off + k, none⟩ = some (.int .i64 c))
        (first | go_keep | assumption | exact ⟨(cell_behind BY sX).trans x0, (cell_behind BY sX).trans x1, (cell_behind BY sX).trans x2, (cell_behind BY hb1).trans hck⟩)
        ((first | (go_at_call 54; refine (sFlipOne_any _ _ r X c _ (R3.out.on (Below.refl _ _).drew).v (HO.out.il.below (Below.refl _ _).drew) hcb).mono ?_; rintro e w6 ⟨v4, rfl, ho4, hb4⟩; (have BY : Below wr.heap.size wr w6 := (Below.refl _ _).drew.trans hb4); (have O4 := Lib.hid ((Ow.of_owns ho4).mono BW.out.size)); clear ho4 hb4)))
      have B4 := Lib.hid (BR.out.trans (BY.mono BR.out.size))
      have HO6 := Lib.hid (HO.out.below BY)
      rw [show flipOne r X c = (flipL r X c, canFl r X c) by unfold flipOne; rw [HX.out]; rfl] at O4
      rw [show (flipOne r X c).2 = canFl r X c by unfold flipOne; rw [HX.out]; rfl]
      clear BY x0 x1 x2 sX hck
      obtain ⟨f, hf⟩ : ∃ f, canFl r X c = f := ⟨_, rfl⟩
      rw [hf]
      cases f
      · have N : Hid (runK r L cs (k + 1) = (X, n)) := Lib.hid (runK_no hlt HR.out (by rw [HCC.out]; exact hf))
        clear hf HR
        go_wp2
        go_roundw
        case rel => exact ⟨k + 1, n, _, by omega, by go_num, rfl, by omega, N.out, HO6.out, B4.out⟩
        case measure => simp [intOf]; omega
      · have N : Hid (runK r L cs (k + 1) = (flipL r X c, n + 1)) := Lib.hid (by rw [← HCC.out]; exact runK_yes hlt HR.out (by rw [HCC.out]; exact hf))
        clear hf HR
        go_wp2
        go_roundw
        case rel => exact ⟨k + 1, n + 1, _, by omega, by go_num, by go_num, by omega, N.out, O4.out, B4.out⟩
        case measure => simp [intOf]; omega
    · have e : k = cs.length := by omega
      subst e
      go_wp2
      go_ret2
      exact retWN_mk (E.out.trans HR.out) HO.out BW.out

end Go.Proofs.Ytcagpfnlpjfgeaa
