/- The law FnPartsOf: its walk. -/
import Derived.Test.YtedccoimdkehgaaWpm
import Derived.Test.YtedccoimdkehgaaSame
import Derived.Test.YtedccoimdkehgaaDrawD
set_option linter.unusedVariables false
set_option linter.unusedSimpArgs false
namespace Go.Proofs.Ytedccoimdkehgaa
open Go.RowKit Domi

theorem PartsOf_is (v : Value) (r : Reg) (w : World) (h : RegV w v r) (L : List Int) (hL : r.partsR = L) : Calls Try.prog 40 #[v] w (RetI L w) := by rw [← hL]; exact PartsOf_any v r w h
theorem sPartsOf_is (v : Value) (r : Reg) (w : World) (h : RegV w v r) (L : List Int) (hL : r.partsR = L) : Calls Try.prog 42 #[v] w (RetI L w) := by rw [← hL]; exact sPartsOf_any v r w h

theorem flat64 {α : Type} {a0 a1 a2 a3 a4 a5 a6 a7 a8 a9 a10 a11 a12 a13 a14 a15 a16 a17 a18 a19 a20 a21 a22 a23 a24 a25 a26 a27 a28 a29 a30 a31 a32 a33 a34 a35 a36 a37 a38 a39 a40 a41 a42 a43 a44 a45 a46 a47 a48 a49 a50 a51 a52 a53 a54 a55 a56 a57 a58 a59 a60 a61 a62 a63 : α} {m : List α} : List.append (a0 :: a1 :: a2 :: a3 :: a4 :: a5 :: a6 :: a7 :: a8 :: a9 :: a10 :: a11 :: a12 :: a13 :: a14 :: a15 :: a16 :: a17 :: a18 :: a19 :: a20 :: a21 :: a22 :: a23 :: a24 :: a25 :: a26 :: a27 :: a28 :: a29 :: a30 :: a31 :: a32 :: a33 :: a34 :: a35 :: a36 :: a37 :: a38 :: a39 :: a40 :: a41 :: a42 :: a43 :: a44 :: a45 :: a46 :: a47 :: a48 :: a49 :: a50 :: a51 :: a52 :: a53 :: a54 :: a55 :: a56 :: a57 :: a58 :: a59 :: a60 :: a61 :: a62 :: a63 :: []) m = a0 :: a1 :: a2 :: a3 :: a4 :: a5 :: a6 :: a7 :: a8 :: a9 :: a10 :: a11 :: a12 :: a13 :: a14 :: a15 :: a16 :: a17 :: a18 :: a19 :: a20 :: a21 :: a22 :: a23 :: a24 :: a25 :: a26 :: a27 :: a28 :: a29 :: a30 :: a31 :: a32 :: a33 :: a34 :: a35 :: a36 :: a37 :: a38 :: a39 :: a40 :: a41 :: a42 :: a43 :: a44 :: a45 :: a46 :: a47 :: a48 :: a49 :: a50 :: a51 :: a52 :: a53 :: a54 :: a55 :: a56 :: a57 :: a58 :: a59 :: a60 :: a61 :: a62 :: a63 :: m := rfl
theorem wp_region_later_flat {P : Program} {id : Nat} {Q : Exit → Act → World → Prop} {a : Act} {w : World} {l l' : List Oper} (e : l = l') (hm : P.follows .mixedOrders = true) (hB : Region.lexB .any l'.toArray = true)
    (h : wpQuiet P l'.toArray (fun x => ∃ L : Later w, x = L.x) (fun a' => ∀ L : Later w, Q .normal a' L.x) l' a) : (Code.region id l.toArray true).wp P Q a w := by
  subst e; exact wp_region_later_all hm hB h

set_option maxRecDepth 100000 in
set_option maxHeartbeats 4000000 in
theorem FnPartsOf_walk (v : Value) (ys : List Int) (w : World) (h : Yl w v ys) (hr : ∀ i, i < ys.length → 0 ≤ ys.getD i 0 ∧ ys.getD i 0 ≤ 255) :
    Calls Try.prog 9 #[v] w (Ret (.bool true) w) := by
  have H := Lib.hid h
  have Hr := Lib.hid hr
  obtain ⟨a0, cap0, rfl, hlc0, hcm0, _⟩ := h.opened
  clear h hr
  by_cases hlen : (1048576 : Int) < (ys.length : Int)
  · go_enter Try.func9, Try.ntmps9
    go_wp2
    go_ret
    exact ⟨rfl, Below.refl _ _⟩
  · go_enter Try.func9, Try.ntmps9
    go_wp2_with (fail)
    refine (DrawPartsOf_any _ ys w H.out Hr.out).mono ?_
    rintro e w1 ⟨v1, r, rfl, hv1, hsm, hb1⟩
    obtain ⟨p1, n1, rfl, hs, _, _⟩ := hv1.opened
    have BW := Lib.hid hb1
    obtain ⟨L, hL⟩ : ∃ L, r.partsR = L := ⟨_, rfl⟩
    have HL := Lib.hid hL
    clear hb1 hL hv1
    go_wp2_with (fail)
    obtain ⟨W1, hW1⟩ : ∃ W, W = w1.alloc (.cells #[.int .i64 r.wide, .int .i64 r.tall, .slice p1 r.cells.length n1] 25) := ⟨_, rfl⟩
    have RA := RB.new hs
    have hbW1 := below_alloc w1 (.cells #[.int .i64 r.wide, .int .i64 r.tall, .slice p1 r.cells.length n1] 25)
    rw [← hW1] at RA hbW1 ⊢
    have RA := Lib.hid RA
    have BW := Lib.hid (BW.out.trans (hbW1.mono BW.out.size))
    clear hbW1
    clear hs hW1
    refine (PartsOf_is _ r _ RA.out.v L HL.out).mono ?_
    rintro e w2 ⟨u, rfl, hu, hb⟩
    obtain ⟨pa, pc, rfl, l1, l2, _⟩ := hu.opened
    have HU := Lib.hid hu
    have RA := Lib.hid (RA.out.on hb)
    have BW := Lib.hid (BW.out.trans (hb.mono BW.out.size))
    clear hb hu
    obtain ⟨ra0, ra1, ra2⟩ := RA.out.c3
    have ra3 := RA.out.lt
    go_wp2_with (fail)
    clear ra0 ra1 ra2 ra3
    refine (sPartsOf_is _ r _ RA.out.v L HL.out).mono ?_
    rintro e w3 ⟨u, rfl, hu, hb⟩
    have HU := Lib.hid (HU.out.below hb)
    have RA := Lib.hid (RA.out.on hb)
    have BW := Lib.hid (BW.out.trans (hb.mono BW.out.size))
    clear hb
    go_wp2_with (fail)
    refine (sameInts_is _ _ L L _ HU.out hu true (by simp)).mono ?_
    rintro e w4 ⟨rfl, hb⟩
    have HU := Lib.hid (HU.out.below hb)
    have RA := Lib.hid (RA.out.on hb)
    have BW := Lib.hid (BW.out.trans (hb.mono BW.out.size))
    clear hb hu
    obtain ⟨ra0, ra1, ra2⟩ := RA.out.c3
    have ra3 := RA.out.lt
    go_wp2_with (fail)
    clear ra0 ra1 ra2 ra3
    refine (sRegionValid_is _ r _ RA.out.v r.valid rfl).mono ?_
    rintro e w5 ⟨rfl, hb⟩
    have HU := Lib.hid (HU.out.below hb)
    have RA := Lib.hid (RA.out.on hb)
    have BW := Lib.hid (BW.out.trans (hb.mono BW.out.size))
    clear hb
    cases hv : r.valid
    · have hL0 : L = [] := by rw [← HL.out]; exact partsR_no hv
      subst hL0
      go_wp2_with (fail)
      refine (alive_any _).mono ?_
      rintro e w7 ⟨rfl, hb⟩
      have BW := Lib.hid (BW.out.trans (hb.mono BW.out.size))
      clear hb
      go_wp2
      go_ret
      exact ⟨rfl, BW.out⟩
    have hLp : L = r.parts := by rw [← HL.out]; exact partsR_yes hv
    subst hLp
    rw [parts_length] at l1 ⊢
    obtain ⟨v1, v2, v3, _⟩ := Reg.valid_iff.1 hv
    have ha := area_in v1 v2
    have h36 : r.cells.length ≤ 36 := by omega
    have hl1 : 1 ≤ r.cells.length := by omega
    have Hn := Lib.hid v3
    obtain ⟨qa, qc, e, _, _, h3⟩ := HU.out.opened
    rw [parts_length] at e
    simp only [Value.slice.injEq, true_and] at e
    obtain ⟨rfl, rfl⟩ := e
    rcases h3 with h3 | ⟨bp, op, rfl, hbp, hpc⟩
    · have := parts_length r; rw [h3] at this; simp at this; omega
    have HP := Lib.hid (fun W' (hw : Below w5.heap.size w5 W') k (hk : k < r.cells.length) => ((hw.cell (p := ⟨bp, op + k, none⟩) hbp).trans (hpc k (by rw [parts_length]; exact hk))).trans (by rw [parts_get hk]))
    obtain ⟨_, _, _, ba, oa, rfl, hba, _⟩ := bl_cell RA.out.bl (k := 0) (by omega)
    have hca : ∀ k, k < r.cells.length → w5.cell? ⟨ba, oa + k, none⟩ = some (.bool (r.f k)) := fun k hk => by
      obtain ⟨_, _, _, b', o', e, _, hc⟩ := bl_cell RA.out.bl hk
      simp only [Option.some.injEq, Addr.mk.injEq, and_true] at e
      obtain ⟨rfl, rfl⟩ := e
      exact hc
    have HC := Lib.hid (fun W' (hw : Below w5.heap.size w5 W') k (hk : k < r.cells.length) => (hw.cell (p := ⟨ba, oa + k, none⟩) hba).trans (hca k hk))
    clear hpc hca v3 ha
    obtain ⟨ra0, ra1, ra2⟩ := RA.out.c3
    have ra3 := RA.out.lt
    go_wp2_with (fail)
    clear ra0 ra1 ra2 ra3
    go_loopw [5] (fun i wr => ∃ k : Nat, k ≤ r.cells.length ∧ i = .int .i64 k ∧ Below w5.heap.size w5 wr) (fun i _ => r.cells.length - (intOf i).toNat)
    case atStart => exact ⟨0, Nat.zero_le _, rfl, Below.refl _ _⟩
    case round =>
      obtain ⟨k, hk, rfl, hb⟩ := hrel
      by_cases hlt : k < r.cells.length
      · have hm1 := Int.emod_nonneg (k : Int) (b := r.wide) (by omega)
        have hm2 := Int.emod_lt_of_pos (k : Int) (b := r.wide) (by omega)
        have hkn : (k : Int) < (r.cells.length : Int) := by omega
        cases hfk : r.f k
        · have hda : decide ((k : Int) < -1) = false := by simp only [decide_eq_false_iff_not]; omega
          have RBa := RA.out.on hb
          obtain ⟨c0a, c1a, c2a⟩ := RBa.c3
          have c3a := RBa.lt
          have s1a := Nat.lt_of_lt_of_le hba hb.size
          have s2a := Nat.lt_of_lt_of_le hbp hb.size
          have p0a : wr.cell? ⟨bp, op + k, none⟩ = some (.int .i64 (-1)) := by rw [HP.out _ hb _ hlt]; rw [partN_no hfk]
          have q1a : wr.cell? ⟨ba, oa + k, none⟩ = some (.bool false) := by rw [HC.out _ hb _ hlt]; rw [hfk]
          clear RBa
          have HB := Lib.hid hb
          clear hb
          have hLc : ∀ (L : Later wr) (b o : Nat), b < wr.heap.size → L.x.cell? ⟨b, o, none⟩ = wr.cell? ⟨b, o, none⟩ := Later.cell
          go_wp2_with (fail)
          refine wp_region_later_all (by kernel_rfl) (by kernel_rfl) ?_
          repeat (first | (go_big_quiet_step (fail)) | (rw [hda]) | (rw [hdn]) | (rw [hdm]) | (rw [hdc]))
          refine wpQuiet_nil ?_
          intro L
          have hb := HB.out.trans (L.h.mono HB.out.size)
          clear hLc c0a c1a c2a c3a s1a s2a p0a q1a
          have RBb := RA.out.on hb
          obtain ⟨c0b, c1b, c2b⟩ := RBb.c3
          have c3b := RBb.lt
          have s1b := Nat.lt_of_lt_of_le hba hb.size
          have s2b := Nat.lt_of_lt_of_le hbp hb.size
          have p0b : L.x.cell? ⟨bp, op + k, none⟩ = some (.int .i64 (-1)) := by rw [HP.out _ hb _ hlt]; rw [partN_no hfk]
          have q1b : L.x.cell? ⟨ba, oa + k, none⟩ = some (.bool false) := by rw [HC.out _ hb _ hlt]; rw [hfk]
          clear RBb
          have HB2 := Lib.hid hb
          clear hb
          have hLc : ∀ (M : Later L.x) (b o : Nat), b < L.x.heap.size → M.x.cell? ⟨b, o, none⟩ = L.x.cell? ⟨b, o, none⟩ := Later.cell
          go_wp2_with (fail)
          refine wp_region_later_flat flat64 (by kernel_rfl) (by kernel_rfl) ?_
          repeat (first | (go_big_quiet_step (fail)) | (rw [hda]) | (rw [hdn]) | (rw [hdm]) | (rw [hdc]))
          refine wpQuiet_nil ?_
          intro M
          go_wp2
          go_roundw
          case rel => exact ⟨k + 1, by omega, by go_num, HB2.out.trans (M.h.mono HB2.out.size)⟩
          case measure => simp [intOf]; omega
        · obtain ⟨m, hm, hml, hmm⟩ := partN_part hv hfk
          have hmk : m ≤ k := by have := (partN_bd r k).2; omega
          have hdn : decide ((k : Int) < (m : Int)) = false := by simp only [decide_eq_false_iff_not]; omega
          have hda : decide (k < m) = false := by simp only [decide_eq_false_iff_not]; omega
          by_cases hmw : 0 < (k : Int) % r.wide
          · obtain ⟨j, hj⟩ : ∃ j : Nat, j + 1 = k := ⟨k - 1, by
              rcases Nat.eq_zero_or_pos k with h | h
              · subst h; simp at hmw
              · omega⟩
            have hjl : k - 1 < r.cells.length := by omega
            have hjk : k - 1 = j := by omega
            have w1 : 0 ≤ (k : Int) - 1 := by omega
            have hdm : decide (0 < (k : Int) % r.wide) = true := by simp only [decide_eq_true_eq]; omega
            have w2 : (k : Int) - 1 < (r.cells.length : Int) := by omega
            cases hfj : r.f j
            · have HJ := Lib.hid (show r.f (k - 1) = false by rw [hjk]; exact hfj)
              clear hj hjk hfj
              by_cases hwc : r.wide ≤ (k : Int)
              · obtain ⟨i, hi⟩ : ∃ i : Nat, (i : Int) + r.wide = k := ⟨((k : Int) - r.wide).toNat, by omega⟩
                have hil : i < r.cells.length := by omega
                have hiw : ((k : Int) - r.wide).toNat = i := by omega
                have z1 : 0 ≤ (k : Int) - r.wide := by omega
                have z2 : (k : Int) - r.wide < (r.cells.length : Int) := by omega
                have hdc : decide (r.wide ≤ (k : Int)) = true := by simp only [decide_eq_true_eq]; omega
                cases hfi : r.f i
                · clear hi
                  have RBa := RA.out.on hb
                  obtain ⟨c0a, c1a, c2a⟩ := RBa.c3
                  have c3a := RBa.lt
                  have s1a := Nat.lt_of_lt_of_le hba hb.size
                  have s2a := Nat.lt_of_lt_of_le hbp hb.size
                  have p0a : wr.cell? ⟨bp, op + k, none⟩ = some (.int .i64 m) := by rw [HP.out _ hb _ hlt]; rw [hm]
                  have p1a : wr.cell? ⟨bp, op + m, none⟩ = some (.int .i64 m) := by rw [HP.out _ hb _ hml]; rw [hmm]
                  have q2a : wr.cell? ⟨ba, oa + k, none⟩ = some (.bool true) := by rw [HC.out _ hb _ hlt]; rw [hfk]
                  have q3a : wr.cell? ⟨ba, oa + (k - 1), none⟩ = some (.bool false) := by rw [HC.out _ hb _ hjl]; rw [HJ.out]
                  have q4a : wr.cell? ⟨ba, oa + ((k : Int) - r.wide).toNat, none⟩ = some (.bool false) := by rw [HC.out _ hb _ (by omega)]; rw [hiw, hfi]
                  clear RBa
                  have HB := Lib.hid hb
                  have HIW := Lib.hid hiw
                  clear hiw
                  clear hb
                  have hLc : ∀ (L : Later wr) (b o : Nat), b < wr.heap.size → L.x.cell? ⟨b, o, none⟩ = wr.cell? ⟨b, o, none⟩ := Later.cell
                  go_wp2_with (fail)
                  refine wp_region_later_all (by kernel_rfl) (by kernel_rfl) ?_
                  repeat (first | (go_big_quiet_step (fail)) | (rw [hda]) | (rw [hdn]) | (rw [hdm]) | (rw [hdc]))
                  refine wpQuiet_nil ?_
                  intro L
                  have hiw := HIW.out
                  have hb := HB.out.trans (L.h.mono HB.out.size)
                  clear hLc c0a c1a c2a c3a s1a s2a p0a p1a q2a q3a q4a
                  have RBb := RA.out.on hb
                  obtain ⟨c0b, c1b, c2b⟩ := RBb.c3
                  have c3b := RBb.lt
                  have s1b := Nat.lt_of_lt_of_le hba hb.size
                  have s2b := Nat.lt_of_lt_of_le hbp hb.size
                  have p0b : L.x.cell? ⟨bp, op + k, none⟩ = some (.int .i64 m) := by rw [HP.out _ hb _ hlt]; rw [hm]
                  have p1b : L.x.cell? ⟨bp, op + m, none⟩ = some (.int .i64 m) := by rw [HP.out _ hb _ hml]; rw [hmm]
                  have q2b : L.x.cell? ⟨ba, oa + k, none⟩ = some (.bool true) := by rw [HC.out _ hb _ hlt]; rw [hfk]
                  have q3b : L.x.cell? ⟨ba, oa + (k - 1), none⟩ = some (.bool false) := by rw [HC.out _ hb _ hjl]; rw [HJ.out]
                  have q4b : L.x.cell? ⟨ba, oa + ((k : Int) - r.wide).toNat, none⟩ = some (.bool false) := by rw [HC.out _ hb _ (by omega)]; rw [hiw, hfi]
                  clear RBb
                  have HB2 := Lib.hid hb
                  clear hiw
                  clear hb
                  have hLc : ∀ (M : Later L.x) (b o : Nat), b < L.x.heap.size → M.x.cell? ⟨b, o, none⟩ = L.x.cell? ⟨b, o, none⟩ := Later.cell
                  go_wp2_with (fail)
                  refine wp_region_later_flat flat64 (by kernel_rfl) (by kernel_rfl) ?_
                  repeat (first | (go_big_quiet_step (fail)) | (rw [hda]) | (rw [hdn]) | (rw [hdm]) | (rw [hdc]))
                  refine wpQuiet_nil ?_
                  intro M
                  go_wp2
                  go_roundw
                  case rel => exact ⟨k + 1, by omega, by go_num, HB2.out.trans (M.h.mono HB2.out.size)⟩
                  case measure => simp [intOf]; omega
                · have en := partN_near hv (E4_south hv hi hfk hfi)
                  rw [hm] at en
                  have EN := Lib.hid en
                  clear hi en
                  have RBa := RA.out.on hb
                  obtain ⟨c0a, c1a, c2a⟩ := RBa.c3
                  have c3a := RBa.lt
                  have s1a := Nat.lt_of_lt_of_le hba hb.size
                  have s2a := Nat.lt_of_lt_of_le hbp hb.size
                  have p0a : wr.cell? ⟨bp, op + k, none⟩ = some (.int .i64 m) := by rw [HP.out _ hb _ hlt]; rw [hm]
                  have p1a : wr.cell? ⟨bp, op + m, none⟩ = some (.int .i64 m) := by rw [HP.out _ hb _ hml]; rw [hmm]
                  have q2a : wr.cell? ⟨ba, oa + k, none⟩ = some (.bool true) := by rw [HC.out _ hb _ hlt]; rw [hfk]
                  have q3a : wr.cell? ⟨ba, oa + (k - 1), none⟩ = some (.bool false) := by rw [HC.out _ hb _ hjl]; rw [HJ.out]
                  have q4a : wr.cell? ⟨ba, oa + ((k : Int) - r.wide).toNat, none⟩ = some (.bool true) := by rw [HC.out _ hb _ (by omega)]; rw [hiw, hfi]
                  have p5a : wr.cell? ⟨bp, op + ((k : Int) - r.wide).toNat, none⟩ = some (.int .i64 m) := by rw [HP.out _ hb _ (by omega)]; rw [hiw, ← EN.out]
                  clear RBa
                  have HB := Lib.hid hb
                  have HIW := Lib.hid hiw
                  clear hiw
                  clear hb
                  have hLc : ∀ (L : Later wr) (b o : Nat), b < wr.heap.size → L.x.cell? ⟨b, o, none⟩ = wr.cell? ⟨b, o, none⟩ := Later.cell
                  go_wp2_with (fail)
                  refine wp_region_later_all (by kernel_rfl) (by kernel_rfl) ?_
                  repeat (first | (go_big_quiet_step (fail)) | (rw [hda]) | (rw [hdn]) | (rw [hdm]) | (rw [hdc]))
                  refine wpQuiet_nil ?_
                  intro L
                  have hiw := HIW.out
                  have hb := HB.out.trans (L.h.mono HB.out.size)
                  clear hLc c0a c1a c2a c3a s1a s2a p0a p1a q2a q3a q4a p5a
                  have RBb := RA.out.on hb
                  obtain ⟨c0b, c1b, c2b⟩ := RBb.c3
                  have c3b := RBb.lt
                  have s1b := Nat.lt_of_lt_of_le hba hb.size
                  have s2b := Nat.lt_of_lt_of_le hbp hb.size
                  have p0b : L.x.cell? ⟨bp, op + k, none⟩ = some (.int .i64 m) := by rw [HP.out _ hb _ hlt]; rw [hm]
                  have p1b : L.x.cell? ⟨bp, op + m, none⟩ = some (.int .i64 m) := by rw [HP.out _ hb _ hml]; rw [hmm]
                  have q2b : L.x.cell? ⟨ba, oa + k, none⟩ = some (.bool true) := by rw [HC.out _ hb _ hlt]; rw [hfk]
                  have q3b : L.x.cell? ⟨ba, oa + (k - 1), none⟩ = some (.bool false) := by rw [HC.out _ hb _ hjl]; rw [HJ.out]
                  have q4b : L.x.cell? ⟨ba, oa + ((k : Int) - r.wide).toNat, none⟩ = some (.bool true) := by rw [HC.out _ hb _ (by omega)]; rw [hiw, hfi]
                  have p5b : L.x.cell? ⟨bp, op + ((k : Int) - r.wide).toNat, none⟩ = some (.int .i64 m) := by rw [HP.out _ hb _ (by omega)]; rw [hiw, ← EN.out]
                  clear RBb
                  have HB2 := Lib.hid hb
                  clear hiw
                  clear hb
                  have hLc : ∀ (M : Later L.x) (b o : Nat), b < L.x.heap.size → M.x.cell? ⟨b, o, none⟩ = L.x.cell? ⟨b, o, none⟩ := Later.cell
                  go_wp2_with (fail)
                  refine wp_region_later_flat flat64 (by kernel_rfl) (by kernel_rfl) ?_
                  repeat (first | (go_big_quiet_step (fail)) | (rw [hda]) | (rw [hdn]) | (rw [hdm]) | (rw [hdc]))
                  refine wpQuiet_nil ?_
                  intro M
                  go_wp2
                  go_roundw
                  case rel => exact ⟨k + 1, by omega, by go_num, HB2.out.trans (M.h.mono HB2.out.size)⟩
                  case measure => simp [intOf]; omega
              · have hwc : (k : Int) < r.wide := by omega
                have hdc : decide (r.wide ≤ (k : Int)) = false := by simp only [decide_eq_false_iff_not]; omega
                have RBa := RA.out.on hb
                obtain ⟨c0a, c1a, c2a⟩ := RBa.c3
                have c3a := RBa.lt
                have s1a := Nat.lt_of_lt_of_le hba hb.size
                have s2a := Nat.lt_of_lt_of_le hbp hb.size
                have p0a : wr.cell? ⟨bp, op + k, none⟩ = some (.int .i64 m) := by rw [HP.out _ hb _ hlt]; rw [hm]
                have p1a : wr.cell? ⟨bp, op + m, none⟩ = some (.int .i64 m) := by rw [HP.out _ hb _ hml]; rw [hmm]
                have q2a : wr.cell? ⟨ba, oa + k, none⟩ = some (.bool true) := by rw [HC.out _ hb _ hlt]; rw [hfk]
                have q3a : wr.cell? ⟨ba, oa + (k - 1), none⟩ = some (.bool false) := by rw [HC.out _ hb _ hjl]; rw [HJ.out]
                clear RBa
                have HB := Lib.hid hb
                clear hb
                have hLc : ∀ (L : Later wr) (b o : Nat), b < wr.heap.size → L.x.cell? ⟨b, o, none⟩ = wr.cell? ⟨b, o, none⟩ := Later.cell
                go_wp2_with (fail)
                refine wp_region_later_all (by kernel_rfl) (by kernel_rfl) ?_
                repeat (first | (go_big_quiet_step (fail)) | (rw [hda]) | (rw [hdn]) | (rw [hdm]) | (rw [hdc]))
                refine wpQuiet_nil ?_
                intro L
                have hb := HB.out.trans (L.h.mono HB.out.size)
                clear hLc c0a c1a c2a c3a s1a s2a p0a p1a q2a q3a
                have RBb := RA.out.on hb
                obtain ⟨c0b, c1b, c2b⟩ := RBb.c3
                have c3b := RBb.lt
                have s1b := Nat.lt_of_lt_of_le hba hb.size
                have s2b := Nat.lt_of_lt_of_le hbp hb.size
                have p0b : L.x.cell? ⟨bp, op + k, none⟩ = some (.int .i64 m) := by rw [HP.out _ hb _ hlt]; rw [hm]
                have p1b : L.x.cell? ⟨bp, op + m, none⟩ = some (.int .i64 m) := by rw [HP.out _ hb _ hml]; rw [hmm]
                have q2b : L.x.cell? ⟨ba, oa + k, none⟩ = some (.bool true) := by rw [HC.out _ hb _ hlt]; rw [hfk]
                have q3b : L.x.cell? ⟨ba, oa + (k - 1), none⟩ = some (.bool false) := by rw [HC.out _ hb _ hjl]; rw [HJ.out]
                clear RBb
                have HB2 := Lib.hid hb
                clear hb
                have hLc : ∀ (M : Later L.x) (b o : Nat), b < L.x.heap.size → M.x.cell? ⟨b, o, none⟩ = L.x.cell? ⟨b, o, none⟩ := Later.cell
                go_wp2_with (fail)
                refine wp_region_later_flat flat64 (by kernel_rfl) (by kernel_rfl) ?_
                repeat (first | (go_big_quiet_step (fail)) | (rw [hda]) | (rw [hdn]) | (rw [hdm]) | (rw [hdc]))
                refine wpQuiet_nil ?_
                intro M
                go_wp2
                go_roundw
                case rel => exact ⟨k + 1, by omega, by go_num, HB2.out.trans (M.h.mono HB2.out.size)⟩
                case measure => simp [intOf]; omega
            · have HJ := Lib.hid (show r.f (k - 1) = true by rw [hjk]; exact hfj)
              have en := partN_near hv (E4_left hj hmw hfk hfj)
              rw [hm] at en
              have EJ := Lib.hid (show partN r (k - 1) = (m : Int) by rw [hjk]; exact en.symm)
              clear hj hjk hfj en
              by_cases hwc : r.wide ≤ (k : Int)
              · obtain ⟨i, hi⟩ : ∃ i : Nat, (i : Int) + r.wide = k := ⟨((k : Int) - r.wide).toNat, by omega⟩
                have hil : i < r.cells.length := by omega
                have hiw : ((k : Int) - r.wide).toNat = i := by omega
                have z1 : 0 ≤ (k : Int) - r.wide := by omega
                have z2 : (k : Int) - r.wide < (r.cells.length : Int) := by omega
                have hdc : decide (r.wide ≤ (k : Int)) = true := by simp only [decide_eq_true_eq]; omega
                cases hfi : r.f i
                · clear hi
                  have RBa := RA.out.on hb
                  obtain ⟨c0a, c1a, c2a⟩ := RBa.c3
                  have c3a := RBa.lt
                  have s1a := Nat.lt_of_lt_of_le hba hb.size
                  have s2a := Nat.lt_of_lt_of_le hbp hb.size
                  have p0a : wr.cell? ⟨bp, op + k, none⟩ = some (.int .i64 m) := by rw [HP.out _ hb _ hlt]; rw [hm]
                  have p1a : wr.cell? ⟨bp, op + m, none⟩ = some (.int .i64 m) := by rw [HP.out _ hb _ hml]; rw [hmm]
                  have q2a : wr.cell? ⟨ba, oa + k, none⟩ = some (.bool true) := by rw [HC.out _ hb _ hlt]; rw [hfk]
                  have q3a : wr.cell? ⟨ba, oa + (k - 1), none⟩ = some (.bool true) := by rw [HC.out _ hb _ hjl]; rw [HJ.out]
                  have p4a : wr.cell? ⟨bp, op + (k - 1), none⟩ = some (.int .i64 m) := by rw [HP.out _ hb _ hjl]; rw [EJ.out]
                  have q5a : wr.cell? ⟨ba, oa + ((k : Int) - r.wide).toNat, none⟩ = some (.bool false) := by rw [HC.out _ hb _ (by omega)]; rw [hiw, hfi]
                  clear RBa
                  have HB := Lib.hid hb
                  have HIW := Lib.hid hiw
                  clear hiw
                  clear hb
                  have hLc : ∀ (L : Later wr) (b o : Nat), b < wr.heap.size → L.x.cell? ⟨b, o, none⟩ = wr.cell? ⟨b, o, none⟩ := Later.cell
                  go_wp2_with (fail)
                  refine wp_region_later_all (by kernel_rfl) (by kernel_rfl) ?_
                  repeat (first | (go_big_quiet_step (fail)) | (rw [hda]) | (rw [hdn]) | (rw [hdm]) | (rw [hdc]))
                  refine wpQuiet_nil ?_
                  intro L
                  have hiw := HIW.out
                  have hb := HB.out.trans (L.h.mono HB.out.size)
                  clear hLc c0a c1a c2a c3a s1a s2a p0a p1a q2a q3a p4a q5a
                  have RBb := RA.out.on hb
                  obtain ⟨c0b, c1b, c2b⟩ := RBb.c3
                  have c3b := RBb.lt
                  have s1b := Nat.lt_of_lt_of_le hba hb.size
                  have s2b := Nat.lt_of_lt_of_le hbp hb.size
                  have p0b : L.x.cell? ⟨bp, op + k, none⟩ = some (.int .i64 m) := by rw [HP.out _ hb _ hlt]; rw [hm]
                  have p1b : L.x.cell? ⟨bp, op + m, none⟩ = some (.int .i64 m) := by rw [HP.out _ hb _ hml]; rw [hmm]
                  have q2b : L.x.cell? ⟨ba, oa + k, none⟩ = some (.bool true) := by rw [HC.out _ hb _ hlt]; rw [hfk]
                  have q3b : L.x.cell? ⟨ba, oa + (k - 1), none⟩ = some (.bool true) := by rw [HC.out _ hb _ hjl]; rw [HJ.out]
                  have p4b : L.x.cell? ⟨bp, op + (k - 1), none⟩ = some (.int .i64 m) := by rw [HP.out _ hb _ hjl]; rw [EJ.out]
                  have q5b : L.x.cell? ⟨ba, oa + ((k : Int) - r.wide).toNat, none⟩ = some (.bool false) := by rw [HC.out _ hb _ (by omega)]; rw [hiw, hfi]
                  clear RBb
                  have HB2 := Lib.hid hb
                  clear hiw
                  clear hb
                  have hLc : ∀ (M : Later L.x) (b o : Nat), b < L.x.heap.size → M.x.cell? ⟨b, o, none⟩ = L.x.cell? ⟨b, o, none⟩ := Later.cell
                  go_wp2_with (fail)
                  refine wp_region_later_flat flat64 (by kernel_rfl) (by kernel_rfl) ?_
                  repeat (first | (go_big_quiet_step (fail)) | (rw [hda]) | (rw [hdn]) | (rw [hdm]) | (rw [hdc]))
                  refine wpQuiet_nil ?_
                  intro M
                  go_wp2
                  go_roundw
                  case rel => exact ⟨k + 1, by omega, by go_num, HB2.out.trans (M.h.mono HB2.out.size)⟩
                  case measure => simp [intOf]; omega
                · have en := partN_near hv (E4_south hv hi hfk hfi)
                  rw [hm] at en
                  have EN := Lib.hid en
                  clear hi en
                  have RBa := RA.out.on hb
                  obtain ⟨c0a, c1a, c2a⟩ := RBa.c3
                  have c3a := RBa.lt
                  have s1a := Nat.lt_of_lt_of_le hba hb.size
                  have s2a := Nat.lt_of_lt_of_le hbp hb.size
                  have p0a : wr.cell? ⟨bp, op + k, none⟩ = some (.int .i64 m) := by rw [HP.out _ hb _ hlt]; rw [hm]
                  have p1a : wr.cell? ⟨bp, op + m, none⟩ = some (.int .i64 m) := by rw [HP.out _ hb _ hml]; rw [hmm]
                  have q2a : wr.cell? ⟨ba, oa + k, none⟩ = some (.bool true) := by rw [HC.out _ hb _ hlt]; rw [hfk]
                  have q3a : wr.cell? ⟨ba, oa + (k - 1), none⟩ = some (.bool true) := by rw [HC.out _ hb _ hjl]; rw [HJ.out]
                  have p4a : wr.cell? ⟨bp, op + (k - 1), none⟩ = some (.int .i64 m) := by rw [HP.out _ hb _ hjl]; rw [EJ.out]
                  have q5a : wr.cell? ⟨ba, oa + ((k : Int) - r.wide).toNat, none⟩ = some (.bool true) := by rw [HC.out _ hb _ (by omega)]; rw [hiw, hfi]
                  have p6a : wr.cell? ⟨bp, op + ((k : Int) - r.wide).toNat, none⟩ = some (.int .i64 m) := by rw [HP.out _ hb _ (by omega)]; rw [hiw, ← EN.out]
                  clear RBa
                  have HB := Lib.hid hb
                  have HIW := Lib.hid hiw
                  clear hiw
                  clear hb
                  have hLc : ∀ (L : Later wr) (b o : Nat), b < wr.heap.size → L.x.cell? ⟨b, o, none⟩ = wr.cell? ⟨b, o, none⟩ := Later.cell
                  go_wp2_with (fail)
                  refine wp_region_later_all (by kernel_rfl) (by kernel_rfl) ?_
                  repeat (first | (go_big_quiet_step (fail)) | (rw [hda]) | (rw [hdn]) | (rw [hdm]) | (rw [hdc]))
                  refine wpQuiet_nil ?_
                  intro L
                  have hiw := HIW.out
                  have hb := HB.out.trans (L.h.mono HB.out.size)
                  clear hLc c0a c1a c2a c3a s1a s2a p0a p1a q2a q3a p4a q5a p6a
                  have RBb := RA.out.on hb
                  obtain ⟨c0b, c1b, c2b⟩ := RBb.c3
                  have c3b := RBb.lt
                  have s1b := Nat.lt_of_lt_of_le hba hb.size
                  have s2b := Nat.lt_of_lt_of_le hbp hb.size
                  have p0b : L.x.cell? ⟨bp, op + k, none⟩ = some (.int .i64 m) := by rw [HP.out _ hb _ hlt]; rw [hm]
                  have p1b : L.x.cell? ⟨bp, op + m, none⟩ = some (.int .i64 m) := by rw [HP.out _ hb _ hml]; rw [hmm]
                  have q2b : L.x.cell? ⟨ba, oa + k, none⟩ = some (.bool true) := by rw [HC.out _ hb _ hlt]; rw [hfk]
                  have q3b : L.x.cell? ⟨ba, oa + (k - 1), none⟩ = some (.bool true) := by rw [HC.out _ hb _ hjl]; rw [HJ.out]
                  have p4b : L.x.cell? ⟨bp, op + (k - 1), none⟩ = some (.int .i64 m) := by rw [HP.out _ hb _ hjl]; rw [EJ.out]
                  have q5b : L.x.cell? ⟨ba, oa + ((k : Int) - r.wide).toNat, none⟩ = some (.bool true) := by rw [HC.out _ hb _ (by omega)]; rw [hiw, hfi]
                  have p6b : L.x.cell? ⟨bp, op + ((k : Int) - r.wide).toNat, none⟩ = some (.int .i64 m) := by rw [HP.out _ hb _ (by omega)]; rw [hiw, ← EN.out]
                  clear RBb
                  have HB2 := Lib.hid hb
                  clear hiw
                  clear hb
                  have hLc : ∀ (M : Later L.x) (b o : Nat), b < L.x.heap.size → M.x.cell? ⟨b, o, none⟩ = L.x.cell? ⟨b, o, none⟩ := Later.cell
                  go_wp2_with (fail)
                  refine wp_region_later_flat flat64 (by kernel_rfl) (by kernel_rfl) ?_
                  repeat (first | (go_big_quiet_step (fail)) | (rw [hda]) | (rw [hdn]) | (rw [hdm]) | (rw [hdc]))
                  refine wpQuiet_nil ?_
                  intro M
                  go_wp2
                  go_roundw
                  case rel => exact ⟨k + 1, by omega, by go_num, HB2.out.trans (M.h.mono HB2.out.size)⟩
                  case measure => simp [intOf]; omega
              · have hwc : (k : Int) < r.wide := by omega
                have hdc : decide (r.wide ≤ (k : Int)) = false := by simp only [decide_eq_false_iff_not]; omega
                have RBa := RA.out.on hb
                obtain ⟨c0a, c1a, c2a⟩ := RBa.c3
                have c3a := RBa.lt
                have s1a := Nat.lt_of_lt_of_le hba hb.size
                have s2a := Nat.lt_of_lt_of_le hbp hb.size
                have p0a : wr.cell? ⟨bp, op + k, none⟩ = some (.int .i64 m) := by rw [HP.out _ hb _ hlt]; rw [hm]
                have p1a : wr.cell? ⟨bp, op + m, none⟩ = some (.int .i64 m) := by rw [HP.out _ hb _ hml]; rw [hmm]
                have q2a : wr.cell? ⟨ba, oa + k, none⟩ = some (.bool true) := by rw [HC.out _ hb _ hlt]; rw [hfk]
                have q3a : wr.cell? ⟨ba, oa + (k - 1), none⟩ = some (.bool true) := by rw [HC.out _ hb _ hjl]; rw [HJ.out]
                have p4a : wr.cell? ⟨bp, op + (k - 1), none⟩ = some (.int .i64 m) := by rw [HP.out _ hb _ hjl]; rw [EJ.out]
                clear RBa
                have HB := Lib.hid hb
                clear hb
                have hLc : ∀ (L : Later wr) (b o : Nat), b < wr.heap.size → L.x.cell? ⟨b, o, none⟩ = wr.cell? ⟨b, o, none⟩ := Later.cell
                go_wp2_with (fail)
                refine wp_region_later_all (by kernel_rfl) (by kernel_rfl) ?_
                repeat (first | (go_big_quiet_step (fail)) | (rw [hda]) | (rw [hdn]) | (rw [hdm]) | (rw [hdc]))
                refine wpQuiet_nil ?_
                intro L
                have hb := HB.out.trans (L.h.mono HB.out.size)
                clear hLc c0a c1a c2a c3a s1a s2a p0a p1a q2a q3a p4a
                have RBb := RA.out.on hb
                obtain ⟨c0b, c1b, c2b⟩ := RBb.c3
                have c3b := RBb.lt
                have s1b := Nat.lt_of_lt_of_le hba hb.size
                have s2b := Nat.lt_of_lt_of_le hbp hb.size
                have p0b : L.x.cell? ⟨bp, op + k, none⟩ = some (.int .i64 m) := by rw [HP.out _ hb _ hlt]; rw [hm]
                have p1b : L.x.cell? ⟨bp, op + m, none⟩ = some (.int .i64 m) := by rw [HP.out _ hb _ hml]; rw [hmm]
                have q2b : L.x.cell? ⟨ba, oa + k, none⟩ = some (.bool true) := by rw [HC.out _ hb _ hlt]; rw [hfk]
                have q3b : L.x.cell? ⟨ba, oa + (k - 1), none⟩ = some (.bool true) := by rw [HC.out _ hb _ hjl]; rw [HJ.out]
                have p4b : L.x.cell? ⟨bp, op + (k - 1), none⟩ = some (.int .i64 m) := by rw [HP.out _ hb _ hjl]; rw [EJ.out]
                clear RBb
                have HB2 := Lib.hid hb
                clear hb
                have hLc : ∀ (M : Later L.x) (b o : Nat), b < L.x.heap.size → M.x.cell? ⟨b, o, none⟩ = L.x.cell? ⟨b, o, none⟩ := Later.cell
                go_wp2_with (fail)
                refine wp_region_later_flat flat64 (by kernel_rfl) (by kernel_rfl) ?_
                repeat (first | (go_big_quiet_step (fail)) | (rw [hda]) | (rw [hdn]) | (rw [hdm]) | (rw [hdc]))
                refine wpQuiet_nil ?_
                intro M
                go_wp2
                go_roundw
                case rel => exact ⟨k + 1, by omega, by go_num, HB2.out.trans (M.h.mono HB2.out.size)⟩
                case measure => simp [intOf]; omega
          · have hmw : (k : Int) % r.wide = 0 := by omega
            have hdm : decide (0 < (k : Int) % r.wide) = false := by simp only [decide_eq_false_iff_not]; omega
            by_cases hwc : r.wide ≤ (k : Int)
            · obtain ⟨i, hi⟩ : ∃ i : Nat, (i : Int) + r.wide = k := ⟨((k : Int) - r.wide).toNat, by omega⟩
              have hil : i < r.cells.length := by omega
              have hiw : ((k : Int) - r.wide).toNat = i := by omega
              have z1 : 0 ≤ (k : Int) - r.wide := by omega
              have z2 : (k : Int) - r.wide < (r.cells.length : Int) := by omega
              have hdc : decide (r.wide ≤ (k : Int)) = true := by simp only [decide_eq_true_eq]; omega
              cases hfi : r.f i
              · clear hi
                have RBa := RA.out.on hb
                obtain ⟨c0a, c1a, c2a⟩ := RBa.c3
                have c3a := RBa.lt
                have s1a := Nat.lt_of_lt_of_le hba hb.size
                have s2a := Nat.lt_of_lt_of_le hbp hb.size
                have p0a : wr.cell? ⟨bp, op + k, none⟩ = some (.int .i64 m) := by rw [HP.out _ hb _ hlt]; rw [hm]
                have p1a : wr.cell? ⟨bp, op + m, none⟩ = some (.int .i64 m) := by rw [HP.out _ hb _ hml]; rw [hmm]
                have q2a : wr.cell? ⟨ba, oa + k, none⟩ = some (.bool true) := by rw [HC.out _ hb _ hlt]; rw [hfk]
                have q3a : wr.cell? ⟨ba, oa + ((k : Int) - r.wide).toNat, none⟩ = some (.bool false) := by rw [HC.out _ hb _ (by omega)]; rw [hiw, hfi]
                clear RBa
                have HB := Lib.hid hb
                have HIW := Lib.hid hiw
                clear hiw
                clear hb
                have hLc : ∀ (L : Later wr) (b o : Nat), b < wr.heap.size → L.x.cell? ⟨b, o, none⟩ = wr.cell? ⟨b, o, none⟩ := Later.cell
                go_wp2_with (fail)
                refine wp_region_later_all (by kernel_rfl) (by kernel_rfl) ?_
                repeat (first | (go_big_quiet_step (fail)) | (rw [hda]) | (rw [hdn]) | (rw [hdm]) | (rw [hdc]))
                refine wpQuiet_nil ?_
                intro L
                have hiw := HIW.out
                have hb := HB.out.trans (L.h.mono HB.out.size)
                clear hLc c0a c1a c2a c3a s1a s2a p0a p1a q2a q3a
                have RBb := RA.out.on hb
                obtain ⟨c0b, c1b, c2b⟩ := RBb.c3
                have c3b := RBb.lt
                have s1b := Nat.lt_of_lt_of_le hba hb.size
                have s2b := Nat.lt_of_lt_of_le hbp hb.size
                have p0b : L.x.cell? ⟨bp, op + k, none⟩ = some (.int .i64 m) := by rw [HP.out _ hb _ hlt]; rw [hm]
                have p1b : L.x.cell? ⟨bp, op + m, none⟩ = some (.int .i64 m) := by rw [HP.out _ hb _ hml]; rw [hmm]
                have q2b : L.x.cell? ⟨ba, oa + k, none⟩ = some (.bool true) := by rw [HC.out _ hb _ hlt]; rw [hfk]
                have q3b : L.x.cell? ⟨ba, oa + ((k : Int) - r.wide).toNat, none⟩ = some (.bool false) := by rw [HC.out _ hb _ (by omega)]; rw [hiw, hfi]
                clear RBb
                have HB2 := Lib.hid hb
                clear hiw
                clear hb
                have hLc : ∀ (M : Later L.x) (b o : Nat), b < L.x.heap.size → M.x.cell? ⟨b, o, none⟩ = L.x.cell? ⟨b, o, none⟩ := Later.cell
                go_wp2_with (fail)
                refine wp_region_later_flat flat64 (by kernel_rfl) (by kernel_rfl) ?_
                repeat (first | (go_big_quiet_step (fail)) | (rw [hda]) | (rw [hdn]) | (rw [hdm]) | (rw [hdc]))
                refine wpQuiet_nil ?_
                intro M
                go_wp2
                go_roundw
                case rel => exact ⟨k + 1, by omega, by go_num, HB2.out.trans (M.h.mono HB2.out.size)⟩
                case measure => simp [intOf]; omega
              · have en := partN_near hv (E4_south hv hi hfk hfi)
                rw [hm] at en
                have EN := Lib.hid en
                clear hi en
                have RBa := RA.out.on hb
                obtain ⟨c0a, c1a, c2a⟩ := RBa.c3
                have c3a := RBa.lt
                have s1a := Nat.lt_of_lt_of_le hba hb.size
                have s2a := Nat.lt_of_lt_of_le hbp hb.size
                have p0a : wr.cell? ⟨bp, op + k, none⟩ = some (.int .i64 m) := by rw [HP.out _ hb _ hlt]; rw [hm]
                have p1a : wr.cell? ⟨bp, op + m, none⟩ = some (.int .i64 m) := by rw [HP.out _ hb _ hml]; rw [hmm]
                have q2a : wr.cell? ⟨ba, oa + k, none⟩ = some (.bool true) := by rw [HC.out _ hb _ hlt]; rw [hfk]
                have q3a : wr.cell? ⟨ba, oa + ((k : Int) - r.wide).toNat, none⟩ = some (.bool true) := by rw [HC.out _ hb _ (by omega)]; rw [hiw, hfi]
                have p4a : wr.cell? ⟨bp, op + ((k : Int) - r.wide).toNat, none⟩ = some (.int .i64 m) := by rw [HP.out _ hb _ (by omega)]; rw [hiw, ← EN.out]
                clear RBa
                have HB := Lib.hid hb
                have HIW := Lib.hid hiw
                clear hiw
                clear hb
                have hLc : ∀ (L : Later wr) (b o : Nat), b < wr.heap.size → L.x.cell? ⟨b, o, none⟩ = wr.cell? ⟨b, o, none⟩ := Later.cell
                go_wp2_with (fail)
                refine wp_region_later_all (by kernel_rfl) (by kernel_rfl) ?_
                repeat (first | (go_big_quiet_step (fail)) | (rw [hda]) | (rw [hdn]) | (rw [hdm]) | (rw [hdc]))
                refine wpQuiet_nil ?_
                intro L
                have hiw := HIW.out
                have hb := HB.out.trans (L.h.mono HB.out.size)
                clear hLc c0a c1a c2a c3a s1a s2a p0a p1a q2a q3a p4a
                have RBb := RA.out.on hb
                obtain ⟨c0b, c1b, c2b⟩ := RBb.c3
                have c3b := RBb.lt
                have s1b := Nat.lt_of_lt_of_le hba hb.size
                have s2b := Nat.lt_of_lt_of_le hbp hb.size
                have p0b : L.x.cell? ⟨bp, op + k, none⟩ = some (.int .i64 m) := by rw [HP.out _ hb _ hlt]; rw [hm]
                have p1b : L.x.cell? ⟨bp, op + m, none⟩ = some (.int .i64 m) := by rw [HP.out _ hb _ hml]; rw [hmm]
                have q2b : L.x.cell? ⟨ba, oa + k, none⟩ = some (.bool true) := by rw [HC.out _ hb _ hlt]; rw [hfk]
                have q3b : L.x.cell? ⟨ba, oa + ((k : Int) - r.wide).toNat, none⟩ = some (.bool true) := by rw [HC.out _ hb _ (by omega)]; rw [hiw, hfi]
                have p4b : L.x.cell? ⟨bp, op + ((k : Int) - r.wide).toNat, none⟩ = some (.int .i64 m) := by rw [HP.out _ hb _ (by omega)]; rw [hiw, ← EN.out]
                clear RBb
                have HB2 := Lib.hid hb
                clear hiw
                clear hb
                have hLc : ∀ (M : Later L.x) (b o : Nat), b < L.x.heap.size → M.x.cell? ⟨b, o, none⟩ = L.x.cell? ⟨b, o, none⟩ := Later.cell
                go_wp2_with (fail)
                refine wp_region_later_flat flat64 (by kernel_rfl) (by kernel_rfl) ?_
                repeat (first | (go_big_quiet_step (fail)) | (rw [hda]) | (rw [hdn]) | (rw [hdm]) | (rw [hdc]))
                refine wpQuiet_nil ?_
                intro M
                go_wp2
                go_roundw
                case rel => exact ⟨k + 1, by omega, by go_num, HB2.out.trans (M.h.mono HB2.out.size)⟩
                case measure => simp [intOf]; omega
            · have hwc : (k : Int) < r.wide := by omega
              have hdc : decide (r.wide ≤ (k : Int)) = false := by simp only [decide_eq_false_iff_not]; omega
              have RBa := RA.out.on hb
              obtain ⟨c0a, c1a, c2a⟩ := RBa.c3
              have c3a := RBa.lt
              have s1a := Nat.lt_of_lt_of_le hba hb.size
              have s2a := Nat.lt_of_lt_of_le hbp hb.size
              have p0a : wr.cell? ⟨bp, op + k, none⟩ = some (.int .i64 m) := by rw [HP.out _ hb _ hlt]; rw [hm]
              have p1a : wr.cell? ⟨bp, op + m, none⟩ = some (.int .i64 m) := by rw [HP.out _ hb _ hml]; rw [hmm]
              have q2a : wr.cell? ⟨ba, oa + k, none⟩ = some (.bool true) := by rw [HC.out _ hb _ hlt]; rw [hfk]
              clear RBa
              have HB := Lib.hid hb
              clear hb
              have hLc : ∀ (L : Later wr) (b o : Nat), b < wr.heap.size → L.x.cell? ⟨b, o, none⟩ = wr.cell? ⟨b, o, none⟩ := Later.cell
              go_wp2_with (fail)
              refine wp_region_later_all (by kernel_rfl) (by kernel_rfl) ?_
              repeat (first | (go_big_quiet_step (fail)) | (rw [hda]) | (rw [hdn]) | (rw [hdm]) | (rw [hdc]))
              refine wpQuiet_nil ?_
              intro L
              have hb := HB.out.trans (L.h.mono HB.out.size)
              clear hLc c0a c1a c2a c3a s1a s2a p0a p1a q2a
              have RBb := RA.out.on hb
              obtain ⟨c0b, c1b, c2b⟩ := RBb.c3
              have c3b := RBb.lt
              have s1b := Nat.lt_of_lt_of_le hba hb.size
              have s2b := Nat.lt_of_lt_of_le hbp hb.size
              have p0b : L.x.cell? ⟨bp, op + k, none⟩ = some (.int .i64 m) := by rw [HP.out _ hb _ hlt]; rw [hm]
              have p1b : L.x.cell? ⟨bp, op + m, none⟩ = some (.int .i64 m) := by rw [HP.out _ hb _ hml]; rw [hmm]
              have q2b : L.x.cell? ⟨ba, oa + k, none⟩ = some (.bool true) := by rw [HC.out _ hb _ hlt]; rw [hfk]
              clear RBb
              have HB2 := Lib.hid hb
              clear hb
              have hLc : ∀ (M : Later L.x) (b o : Nat), b < L.x.heap.size → M.x.cell? ⟨b, o, none⟩ = L.x.cell? ⟨b, o, none⟩ := Later.cell
              go_wp2_with (fail)
              refine wp_region_later_flat flat64 (by kernel_rfl) (by kernel_rfl) ?_
              repeat (first | (go_big_quiet_step (fail)) | (rw [hda]) | (rw [hdn]) | (rw [hdm]) | (rw [hdc]))
              refine wpQuiet_nil ?_
              intro M
              go_wp2
              go_roundw
              case rel => exact ⟨k + 1, by omega, by go_num, HB2.out.trans (M.h.mono HB2.out.size)⟩
              case measure => simp [intOf]; omega
      · have e : k = r.cells.length := by omega
        subst e
        have RA := Lib.hid (RA.out.on hb)
        have BW := Lib.hid (BW.out.trans (hb.mono BW.out.size))
        obtain ⟨c0, c1, c2⟩ := RA.out.c3
        clear hb
        go_wp2
        go_ret
        exact ⟨rfl, BW.out⟩

end Go.Proofs.Ytedccoimdkehgaa
