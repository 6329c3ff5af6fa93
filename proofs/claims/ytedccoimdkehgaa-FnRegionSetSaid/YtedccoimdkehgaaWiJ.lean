/- Walks: RegionJoin of the reference. -/
import Derived.Test.YtedccoimdkehgaaWb
import Derived.Test.YtedccoimdkehgaaWf
import Derived.Test.YtedccoimdkehgaaRegB
import Derived.Test.YtedccoimdkehgaaCombB
set_option linter.unusedVariables false
set_option linter.unusedSimpArgs false
namespace Go.Proofs.Ytedccoimdkehgaa
open Go.RowKit Domi

set_option maxRecDepth 100000 in
set_option maxHeartbeats 2000000 in
theorem sRegionJoin_any (va vb : Value) (a b : Reg) (w : World) (ha : RegV w va a) (hb : RegV w vb b) :
    Calls Try.prog 31 #[va, vb] w (RetRB (combR (fun p q => p || q) a b) w) := by
  obtain ⟨aa, ca, rfl, hsa, hla, hma⟩ := ha.opened
  obtain ⟨ab, cb, rfl, hsb, hlb, hmb⟩ := hb.opened
  have Ha := Lib.hid ha
  have Hb := Lib.hid hb
  clear ha hb hsa hsb
  obtain ⟨W, hW⟩ : ∃ W, W = ((w.alloc (.cells #[.int .i64 a.wide, .int .i64 a.tall, .slice aa a.cells.length ca] 25)).alloc (.cells #[.int .i64 b.wide, .int .i64 b.tall, .slice ab b.cells.length cb] 25)).alloc (.cells #[.int .i64 0, .int .i64 0, .slice none 0 0] 25) := ⟨_, rfl⟩
  have P0 := Lib.hid (Pair.start w 25 a b aa ab ca cb)
  rw [← hW] at P0
  obtain ⟨R, hR⟩ : ∃ R, R = combR (fun p q => p || q) a b := ⟨_, rfl⟩
  rw [← hR]
  have HR := Lib.hid hR
  clear hR
  go_enter Try.func31, Try.ntmps31
  go_wp2_with (fail)
  rw [← hW]
  clear hW
  refine (sRegionValid_any _ a _ (Ha.out.below P0.out.g)).mono ?_
  rintro e w1 ⟨rfl, h1⟩
  have P1 := Lib.hid (P0.out.on h1)
  clear h1
  obtain ⟨x0, x1, x2, _⟩ := three_cells P1.out.x
  obtain ⟨y0, y1, y2, _⟩ := three_cells P1.out.y
  obtain ⟨z0, z1, z2, z3, z4, z5⟩ := three_cells P1.out.z
  cases hva : a.valid
  · clear x0 x1 x2 y0 y1 y2
    have DN := P1.out.none
    rw [← comb_no (f := fun p q => p || q) (a := a) (b := b) (by simp [Reg.fits, hva]), ← HR.out] at DN
    have DN := Lib.hid DN
    obtain ⟨q0, q1, q2, _⟩ := three_cells (put3 (x' := .int .i64 0) (y' := .int .i64 0) (z' := .slice none 0 0) P1.out.z)
    have Q0 := Lib.hid q0
    have Q1 := Lib.hid q1
    have Q2 := Lib.hid q2
    clear q0 q1 q2
    go_wp2
    exact bodyPost_ret (by simp [results, Try.results31, go_sem, Q0.out, Q1.out, Q2.out]) rfl DN.out
  go_wp2_with (fail)
  refine (sRegionValid_any _ b _ (Hb.out.below P1.out.g)).mono ?_
  rintro e w2 ⟨rfl, h2⟩
  have P2 := Lib.hid (P1.out.on h2)
  clear h2 x0 x1 x2 y0 y1 y2 z0 z1 z2 z3 z4 z5
  obtain ⟨x0, x1, x2, _⟩ := three_cells P2.out.x
  obtain ⟨y0, y1, y2, _⟩ := three_cells P2.out.y
  obtain ⟨z0, z1, z2, z3, z4, z5⟩ := three_cells P2.out.z
  cases hvb : b.valid
  · clear x0 x1 x2 y0 y1 y2
    have DN := P2.out.none
    rw [← comb_no (f := fun p q => p || q) (a := a) (b := b) (by simp [Reg.fits, hvb]), ← HR.out] at DN
    have DN := Lib.hid DN
    obtain ⟨q0, q1, q2, _⟩ := three_cells (put3 (x' := .int .i64 0) (y' := .int .i64 0) (z' := .slice none 0 0) P2.out.z)
    have Q0 := Lib.hid q0
    have Q1 := Lib.hid q1
    have Q2 := Lib.hid q2
    clear q0 q1 q2
    go_wp2
    exact bodyPost_ret (by simp [results, Try.results31, go_sem, Q0.out, Q1.out, Q2.out]) rfl DN.out
  obtain ⟨b1, b2, b3, b4⟩ := Reg.valid_iff.1 hva
  obtain ⟨d1, d2, d3, d4⟩ := Reg.valid_iff.1 hvb
  cases hw : (a.wide == b.wide)
  · have hw' : ¬ a.wide = b.wide := by simpa using hw
    have DN := P2.out.none
    rw [← comb_no (f := fun p q => p || q) (a := a) (b := b) (by simp [Reg.fits, hw]), ← HR.out] at DN
    have DN := Lib.hid DN
    obtain ⟨q0, q1, q2, _⟩ := three_cells (put3 (x' := .int .i64 0) (y' := .int .i64 0) (z' := .slice none 0 0) P2.out.z)
    have Q0 := Lib.hid q0
    have Q1 := Lib.hid q1
    have Q2 := Lib.hid q2
    clear q0 q1 q2
    go_wp2
    exact bodyPost_ret (by simp [results, Try.results31, go_sem, Q0.out, Q1.out, Q2.out]) rfl DN.out
  cases ht : (a.tall == b.tall)
  · have ht' : ¬ a.tall = b.tall := by simpa using ht
    have hw' : b.wide = a.wide := by simp at hw; exact hw.symm
    have DN := P2.out.none
    rw [← comb_no (f := fun p q => p || q) (a := a) (b := b) (by simp [Reg.fits, ht]), ← HR.out] at DN
    have DN := Lib.hid DN
    obtain ⟨q0, q1, q2, _⟩ := three_cells (put3 (x' := .int .i64 0) (y' := .int .i64 0) (z' := .slice none 0 0) P2.out.z)
    have Q0 := Lib.hid q0
    have Q1 := Lib.hid q1
    have Q2 := Lib.hid q2
    clear q0 q1 q2
    go_wp2
    exact bodyPost_ret (by simp [results, Try.results31, go_sem, Q0.out, Q1.out, Q2.out]) rfl DN.out
  have hw' : b.wide = a.wide := by simp at hw; exact hw.symm
  have ht' : b.tall = a.tall := by simp at ht; exact ht.symm
  have hfit : a.fits b = true := by simp [Reg.fits, hva, hvb, hw, ht]
  obtain ⟨ba, oa, ca', e1, -, hba, hca, -, -, la1, la36, -, -, -⟩ := Ha.out.valid_opened hva
  obtain ⟨bb, ob, cb', e2, -, hbb, hcb, -, -, lb1, lb36, -, -, -⟩ := Hb.out.valid_opened hvb
  obtain ⟨rfl, rfl⟩ : aa = some ⟨ba, oa, none⟩ ∧ ca = ca' := by simpa using e1
  obtain ⟨rfl, rfl⟩ : ab = some ⟨bb, ob, none⟩ ∧ cb = cb' := by simpa using e2
  have hll : b.cells.length = a.cells.length := by rw [hw', ht'] at d3; omega
  have Hca := Lib.hid hca
  have Hcb := Lib.hid hcb
  have hs2 := lt_of_heap P2.out.z
  clear e1 e2 hca hcb b3 d3 b4 d4 hw ht
  have R0 : Hid (SpecS w 25 4 a b (some ⟨ba, oa, none⟩) (some ⟨bb, ob, none⟩) ca cb (fun k => (a.cells.getD k false) || (b.cells.getD k false)) w2.heap.size a.cells.length (.int .i64 0) (w2.alloc (.cells #[.int .i64 a.wide, .int .i64 a.tall, .slice none 0 0] 25))) :=
    ⟨0, none, 0, rfl, by omega, P2.out.on (by go_grown), heap_alloc_new _ _, Own.nil _ _ _⟩
  go_wp2_with (fail)
  go_loopw [7] (fun i wr => SpecS w 25 4 a b (some ⟨ba, oa, none⟩) (some ⟨bb, ob, none⟩) ca cb (fun k => (a.cells.getD k false) || (b.cells.getD k false)) w2.heap.size a.cells.length i wr) (fun i _ => a.cells.length - (intOf i).toNat)
  case atStart => exact R0.out
  case round =>
    obtain ⟨k, va, vc, rfl, hk, hP, hX, ho⟩ := hrel
    have HP := Lib.hid hP
    have HX := Lib.hid hX
    have HO := Lib.hid ho
    clear x0 x1 x2 y0 y1 y2 z0 z1 z2 z3 z4 z5
    obtain ⟨c0, c1, c2, f0, f1, f2⟩ := three_cells hX
    obtain ⟨x0, x1, x2, _⟩ := three_cells hP.x
    obtain ⟨y0, y1, y2, _⟩ := three_cells hP.y
    obtain ⟨z0, z1, z2, z3, z4, z5⟩ := three_cells hP.z
    by_cases hlt : k < a.cells.length
    · have hka := Hca.out wr HP.out.g k hlt
      have hkb := Hcb.out wr HP.out.g k (by omega)
      have N1 := fun (uu : World) (hu : Below wr.heap.size wr uu) g cap w5 A5 => specS_put (uu := uu) (g := g) (cap := cap) (w5 := w5) (f := fun k => (a.cells.getD k false) || (b.cells.getD k false)) (HP.out.on hu) ((hu.block _ (lt_of_heap HX.out)).trans HX.out) (HO.out.below hu) (by omega) A5 hlt
      have Hp : Hid (((List.range k).map (fun k => (a.cells.getD k false) || (b.cells.getD k false))).length = k) := Lib.hid (by simp)
      generalize (List.range k).map (fun k => (a.cells.getD k false) || (b.cells.getD k false)) = l at *
      generalize a.cells.getD k false = p at *
      generalize b.cells.getD k false = q at *
      have s0 := lt_of_heap HP.out.x
      have s1 := lt_of_heap HX.out
      have HN := Lib.hid N1
      clear hX hP ho R0 N1
      have s2 : ba < wr.heap.size := Nat.lt_of_lt_of_le hba HP.out.g.size
      have s3 : bb < wr.heap.size := Nat.lt_of_lt_of_le hbb HP.out.g.size
      have s4 := lt_of_heap HP.out.y
      cases p <;> cases q
      all_goals
        go_wp2_with (fail)
        have hLc : ∀ (L : Later wr.drew) (b o : Nat), b < wr.heap.size → L.x.cell? ⟨b, o, none⟩ = wr.cell? ⟨b, o, none⟩ := Later.cell
        have hLf : ∀ (L : Later wr.drew) (b o : Nat), b < wr.heap.size → L.x.frozen? ⟨b, o, none⟩ = wr.frozen? ⟨b, o, none⟩ := Later.frozen
        refine wp_region_build 14 (by kernel_rfl) (by kernel_rfl) (by rfl) ?_
        simp only [List.take_succ_cons, List.take_zero, List.drop_succ_cons, List.drop_zero]
        repeat (go_big_quiet_step (fail))
        refine wpQuiet_nil ?_
        intro T
        refine wpOp_step (by rfl) ?_
        intro K hK
        go_simp
        refine hK _ _ ⟨⟨⟨_, (Below.refl T.x.heap.size T.x).alloc (Nat.le_refl _) _⟩, rfl⟩, ?_⟩
        intro V
        clear hK hLc hLf
        have hT : Below wr.heap.size wr T.x := (Below.refl _ _).drew.trans T.h
        have hu : Below wr.heap.size wr V.x := hT.trans (below_after V hT.size)
        have hg0 := V.block (heap_alloc_new _ _)
        have HX' := Lib.hid ((hu.block _ (lt_of_heap HX.out)).trans HX.out)
        have HO' := Lib.hid (HO.out.below hu)
        have HN' := Lib.hid (HN.out V.x hu)
        have sV := lt_of_heap HX'.out
        obtain ⟨d0, d1, d2, g0, g1, g2⟩ := three_cells HX'.out
        have HG := Lib.hid hg0
        clear hu hg0 HN hka hkb x0 x1 x2 y0 y1 y2 z0 z1 z2 z3 z4 z5 c0 c1 c2 f0 f1 f2
        go_wp2_with (at_builtin; refine list_app elem_bools (w2.heap.size + 1) (.slice va k vc) (l.map Value.bool) HO'.out T.x.heap.size _ (.tmp 44) (.tmp 57) rfl rfl rfl rfl HG.out rfl ?_ ?_ ?_; (rw [List.length_map, Hp.out]; omega); omega; intro g cap w5 A5; (have E5 := app_at HX'.out HO'.out A5); (have d5 := (three_cells E5).2.2.1); (have f5 := (three_cells E5).2.2.2.2.2); (have NX := Lib.hid (HN'.out _ _ _ A5)); clear A5 E5)
        rw [Hp.out]
        exact ⟨NX.out, by simp [intOf]; omega⟩
    · have hkn : k = a.cells.length := by omega
      have hV := Lib.hid (show RegV wr (.agg #[.int .i64 a.wide, .int .i64 a.tall, .slice va k vc]) (Reg.both (fun p q => p || q) a b) from ⟨_, rfl, by
        have := HO.out.sl
        rw [hkn] at this ⊢
        exact this⟩)
      clear hX hP ho R0 hkn
      go_wp2_with (fail)
      refine (sRegionValid_any _ (Reg.both (fun p q => p || q) a b) _ hV.out).mono ?_
      rintro e w5 ⟨rfl, h5⟩
      have P5 := Lib.hid (HP.out.on h5)
      have hX5 := (h5.block _ (lt_of_heap HX.out)).trans HX.out
      have V5 := Lib.hid (RegV.below hV.out h5)
      clear h5 x0 x1 x2 y0 y1 y2 z0 z1 z2 z3 z4 z5 c0 c1 c2 f0 f1 f2
      obtain ⟨c0, c1, c2, _⟩ := three_cells hX5
      obtain ⟨z0, z1, z2, z3, z4, z5⟩ := three_cells P5.out.z
      clear hX5
      cases hv : (Reg.both (fun p q => p || q) a b).valid
      · have DN := P5.out.none
        rw [← comb_bad (f := fun p q => p || q) (a := a) (b := b) hv, ← HR.out] at DN
        have DN := Lib.hid DN
        obtain ⟨q0, q1, q2, _⟩ := three_cells (put3 (x' := .int .i64 0) (y' := .int .i64 0) (z' := .slice none 0 0) P5.out.z)
        have Q0 := Lib.hid q0
        have Q1 := Lib.hid q1
        have Q2 := Lib.hid q2
        clear q0 q1 q2 c0 c1 c2
        go_wp2
        exact bodyPost_ret (by simp [results, Try.results31, go_sem, Q0.out, Q1.out, Q2.out]) rfl DN.out
      · obtain ⟨sv, hsv, hbl⟩ := V5.out
        obtain rfl : Value.slice va k vc = sv := by simpa [Reg.both] using hsv
        have DN := regB_done (x := a.wide) (y := a.tall) (c := true) P5.out.g hbl P5.out.z (by omega)
        rw [show (⟨a.wide, a.tall, (Reg.both (fun p q => p || q) a b).cells⟩, true) = R from (comb_yes hfit hv).symm.trans HR.out.symm] at DN
        have DN := Lib.hid DN
        clear hbl hsv
        obtain ⟨q0, q1, q2, _⟩ := three_cells (put3 (x' := .int .i64 a.wide) (y' := .int .i64 a.tall) (z' := .slice va k vc) P5.out.z)
        have Q0 := Lib.hid q0
        have Q1 := Lib.hid q1
        have Q2 := Lib.hid q2
        clear q0 q1 q2
        go_wp2
        exact bodyPost_ret (by simp [results, Try.results31, go_sem, Q0.out, Q1.out, Q2.out]) rfl DN.out

end Go.Proofs.Ytedccoimdkehgaa
