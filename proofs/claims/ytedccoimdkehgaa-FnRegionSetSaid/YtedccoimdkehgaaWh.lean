/- Walks: combine, RegionMeet, RegionJoin. -/
import Derived.Test.YtedccoimdkehgaaWc
import Derived.Test.YtedccoimdkehgaaWf
import Derived.Test.YtedccoimdkehgaaReg
import Derived.Test.YtedccoimdkehgaaComb
set_option linter.unusedVariables false
set_option linter.unusedSimpArgs false
namespace Go.Proofs.Ytedccoimdkehgaa
open Go.RowKit Domi

theorem RegionMeet_cell (p q : Bool) (w : World) : Calls Try.prog 61 #[.bool p, .bool q] w (Ret (.bool (p && q)) w) := by
  cases p <;> cases q <;>
  · go_enter Try.func61, Try.ntmps61
    go_wp2
    go_ret
    exact ⟨rfl, Below.refl _ _⟩

theorem RegionMeet_enter (u : Array Value) (w : World) : Sem.run Try.prog (callFunc 61 u) w = Result.ok (Next.enter 61 u) w := by
  have h1 : (Try.f61.name == "runtime.NumGoroutine") = false := by kernel_rfl
  have h2 : Try.f61.body.isNone = false := by kernel_rfl
  have h3 : ¬ Try.f61.name = "runtime.NumGoroutine" := by simpa using h1
  have h4 : ¬ Try.f61.body = none := by intro h; rw [h] at h2; cases h2
  simp [callFunc, go_sem, Try.func61, h3, h4]

theorem RegionJoin_cell (p q : Bool) (w : World) : Calls Try.prog 73 #[.bool p, .bool q] w (Ret (.bool (p || q)) w) := by
  cases p <;> cases q <;>
  · go_enter Try.func73, Try.ntmps73
    go_wp2
    go_ret
    exact ⟨rfl, Below.refl _ _⟩

theorem RegionJoin_enter (u : Array Value) (w : World) : Sem.run Try.prog (callFunc 73 u) w = Result.ok (Next.enter 73 u) w := by
  have h1 : (Try.f73.name == "runtime.NumGoroutine") = false := by kernel_rfl
  have h2 : Try.f73.body.isNone = false := by kernel_rfl
  have h3 : ¬ Try.f73.name = "runtime.NumGoroutine" := by simpa using h1
  have h4 : ¬ Try.f73.body = none := by intro h; rw [h] at h2; cases h2
  simp [callFunc, go_sem, Try.func73, h3, h4]

set_option maxRecDepth 100000 in
set_option maxHeartbeats 2000000 in
theorem combine_any (n : FuncId) (f : Bool → Bool → Bool) (hen : ∀ (u : Array Value) (w : World), Sem.run Try.prog (callFunc n u) w = Result.ok (Next.enter n u) w) (hf : ∀ p q w, Calls Try.prog n #[.bool p, .bool q] w (Ret (.bool (f p q)) w)) (va vb : Value) (a b : Reg) (w : World) (ha : RegV w va a) (hb : RegV w vb b) :
    Calls Try.prog 60 #[va, vb, .func (.func n) #[] #[]] w (RetRB (combR f a b) w) := by
  obtain ⟨aa, ca, rfl, hsa, hla, hma⟩ := ha.opened
  obtain ⟨ab, cb, rfl, hsb, hlb, hmb⟩ := hb.opened
  have Ha := Lib.hid ha
  have Hb := Lib.hid hb
  have Hf := Lib.hid hf
  clear ha hb hsa hsb hf
  obtain ⟨W, hW⟩ : ∃ W, W = ((w.alloc (.cells #[.int .i64 a.wide, .int .i64 a.tall, .slice aa a.cells.length ca] 25)).alloc (.cells #[.int .i64 b.wide, .int .i64 b.tall, .slice ab b.cells.length cb] 25)).alloc (.cells #[.int .i64 0, .int .i64 0, .slice none 0 0] 25) := ⟨_, rfl⟩
  have P0 := Lib.hid (Pair.start w 25 a b aa ab ca cb)
  rw [← hW] at P0
  obtain ⟨R, hR⟩ : ∃ R, R = combR f a b := ⟨_, rfl⟩
  rw [← hR]
  have HR := Lib.hid hR
  clear hR
  go_enter Try.func60, Try.ntmps60
  go_wp2_with (fail)
  rw [← hW]
  clear hW
  refine (RegionValid_any _ a _ (Ha.out.below P0.out.g)).mono ?_
  rintro e w1 ⟨rfl, h1⟩
  have P1 := Lib.hid (P0.out.on h1)
  clear h1
  obtain ⟨x0, x1, x2, _⟩ := three_cells P1.out.x
  obtain ⟨y0, y1, y2, _⟩ := three_cells P1.out.y
  obtain ⟨z0, z1, z2, z3, z4, z5⟩ := three_cells P1.out.z
  cases hva : a.valid
  · clear x0 x1 x2 y0 y1 y2
    have DN := P1.out.none
    rw [← comb_no (f := f) (a := a) (b := b) (by simp [Reg.fits, hva]), ← HR.out] at DN
    have DN := Lib.hid DN
    obtain ⟨q0, q1, q2, _⟩ := three_cells (put3 (x' := .int .i64 0) (y' := .int .i64 0) (z' := .slice none 0 0) P1.out.z)
    have Q0 := Lib.hid q0
    have Q1 := Lib.hid q1
    have Q2 := Lib.hid q2
    clear q0 q1 q2
    go_wp2
    exact bodyPost_ret (by simp [results, Try.results60, go_sem, Q0.out, Q1.out, Q2.out]) rfl DN.out
  go_wp2_with (fail)
  refine (RegionValid_any _ b _ (Hb.out.below P1.out.g)).mono ?_
  rintro e w2 ⟨rfl, h2⟩
  have P2 := Lib.hid (P1.out.on h2)
  clear h2 x0 x1 x2 y0 y1 y2 z0 z1 z2 z3 z4 z5
  obtain ⟨x0, x1, x2, _⟩ := three_cells P2.out.x
  obtain ⟨y0, y1, y2, _⟩ := three_cells P2.out.y
  obtain ⟨z0, z1, z2, z3, z4, z5⟩ := three_cells P2.out.z
  cases hvb : b.valid
  · clear x0 x1 x2 y0 y1 y2
    have DN := P2.out.none
    rw [← comb_no (f := f) (a := a) (b := b) (by simp [Reg.fits, hvb]), ← HR.out] at DN
    have DN := Lib.hid DN
    obtain ⟨q0, q1, q2, _⟩ := three_cells (put3 (x' := .int .i64 0) (y' := .int .i64 0) (z' := .slice none 0 0) P2.out.z)
    have Q0 := Lib.hid q0
    have Q1 := Lib.hid q1
    have Q2 := Lib.hid q2
    clear q0 q1 q2
    go_wp2
    exact bodyPost_ret (by simp [results, Try.results60, go_sem, Q0.out, Q1.out, Q2.out]) rfl DN.out
  obtain ⟨b1, b2, b3, b4⟩ := Reg.valid_iff.1 hva
  obtain ⟨d1, d2, d3, d4⟩ := Reg.valid_iff.1 hvb
  cases hw : (a.wide == b.wide)
  · have hw' : ¬ a.wide = b.wide := by simpa using hw
    have DN := P2.out.none
    rw [← comb_no (f := f) (a := a) (b := b) (by simp [Reg.fits, hw]), ← HR.out] at DN
    have DN := Lib.hid DN
    obtain ⟨q0, q1, q2, _⟩ := three_cells (put3 (x' := .int .i64 0) (y' := .int .i64 0) (z' := .slice none 0 0) P2.out.z)
    have Q0 := Lib.hid q0
    have Q1 := Lib.hid q1
    have Q2 := Lib.hid q2
    clear q0 q1 q2
    go_wp2
    exact bodyPost_ret (by simp [results, Try.results60, go_sem, Q0.out, Q1.out, Q2.out]) rfl DN.out
  cases ht : (a.tall == b.tall)
  · have ht' : ¬ a.tall = b.tall := by simpa using ht
    have hw' : b.wide = a.wide := by simp at hw; exact hw.symm
    have DN := P2.out.none
    rw [← comb_no (f := f) (a := a) (b := b) (by simp [Reg.fits, ht]), ← HR.out] at DN
    have DN := Lib.hid DN
    obtain ⟨q0, q1, q2, _⟩ := three_cells (put3 (x' := .int .i64 0) (y' := .int .i64 0) (z' := .slice none 0 0) P2.out.z)
    have Q0 := Lib.hid q0
    have Q1 := Lib.hid q1
    have Q2 := Lib.hid q2
    clear q0 q1 q2
    go_wp2
    exact bodyPost_ret (by simp [results, Try.results60, go_sem, Q0.out, Q1.out, Q2.out]) rfl DN.out
  have hw' : b.wide = a.wide := by simp at hw; exact hw.symm
  have ht' : b.tall = a.tall := by simp at ht; exact ht.symm
  have hfit : a.fits b = true := by simp [Reg.fits, hva, hvb, hw, ht]
  obtain ⟨ba, oa, ca', e1, -, hba, hca, -, -, la1, la36, -, -, -⟩ := Ha.out.valid_opened hva
  obtain ⟨bb, ob, cb', e2, -, hbb, hcb, -, -, lb1, lb36, -, -, -⟩ := Hb.out.valid_opened hvb
  obtain ⟨rfl, rfl⟩ : aa = some ⟨ba, oa, none⟩ ∧ ca = ca' := by simpa using e1
  obtain ⟨rfl, rfl⟩ : ab = some ⟨bb, ob, none⟩ ∧ cb = cb' := by simpa using e2
  have hll : b.cells.length = a.cells.length := by rw [hw', ht'] at d3; omega
  have Hca := Lib.hid hca
  have Hcb := Lib.hid hcb
  have B3 := Lib.hid b3
  have hs2 := lt_of_heap P2.out.z
  have fw : 0 ≤ a.wide ∧ a.wide ≤ 1000 := by omega
  have ft : 0 ≤ a.tall ∧ a.tall ≤ 1000 := by omega
  have fn : a.cells.length ≤ 1000000 := by omega
  clear e1 e2 hca hcb b3 d3 b4 d4 hw ht
  go_wp2_with (fail)
  refine (field_any a.wide a.tall w2 fw ft a.cells.length B3.out.symm fn).mono ?_
  rintro e w3 ⟨g, rfl, hg1, hg2, ho, h3⟩
  have P3 := P2.out.on h3
  have R0 : Hid (CombS w 25 4 a b (some ⟨ba, oa, none⟩) (some ⟨bb, ob, none⟩) ca cb (fun k => f (a.cells.getD k false) (b.cells.getD k false)) w3.heap.size g a.cells.length (.int .i64 0) (w3.alloc (.cells #[.int .i64 a.wide, .int .i64 a.tall, .slice (some ⟨g, 0, none⟩) a.cells.length a.cells.length] 25))) :=
    ⟨0, rfl, by omega, P3.on (by go_grown), heap_alloc_new _ _, by
      have := Own.alloc ho (.cells #[.int .i64 a.wide, .int .i64 a.tall, .slice (some ⟨g, 0, none⟩) a.cells.length a.cells.length] 25)
      rw [fillL_zero, List.map_replicate]
      exact Own.mono this (by omega)⟩
  clear ho h3 P3 x0 x1 x2 y0 y1 y2 z0 z1 z2 z3 z4 z5
  go_wp2_with (fail)
  go_loopw [41] (fun i wr => CombS w 25 4 a b (some ⟨ba, oa, none⟩) (some ⟨bb, ob, none⟩) ca cb (fun k => f (a.cells.getD k false) (b.cells.getD k false)) w3.heap.size g a.cells.length i wr) (fun i _ => a.cells.length - (intOf i).toNat)
  case atStart => exact R0.out
  case round =>
    obtain ⟨k, rfl, hk, hP, hX, ho⟩ := hrel
    have HP := Lib.hid hP
    have HX := Lib.hid hX
    have HO := Lib.hid ho
    obtain ⟨c0, c1, c2, f0, f1, f2⟩ := three_cells hX
    obtain ⟨x0, x1, x2, _⟩ := three_cells hP.x
    obtain ⟨y0, y1, y2, _⟩ := three_cells hP.y
    obtain ⟨z0, z1, z2, z3, z4, z5⟩ := three_cells hP.z
    by_cases hlt : k < a.cells.length
    · obtain ⟨u0, u1, u2, u3⟩ := HO.out.there k hlt
      have hka := Hca.out wr HP.out.g k hlt
      have hkb := Hcb.out wr HP.out.g k (by omega)
      have N1 := Lib.hid (fun L : Later wr => combS_next (f := fun k => f (a.cells.getD k false) (b.cells.getD k false)) HP.out HX.out HO.out (by omega) (by omega) hlt L.h)
      have s0 := lt_of_heap HP.out.x
      have s00 := lt_of_heap HP.out.y
      have s4 : g < wr.heap.size := by have := lt_of_heap HX.out; omega
      have s1 := lt_of_heap HX.out
      have s2 : ba < wr.heap.size := Nat.lt_of_lt_of_le hba HP.out.g.size
      have s3 : bb < wr.heap.size := Nat.lt_of_lt_of_le hbb HP.out.g.size
      generalize a.cells.getD k false = p at *
      generalize b.cells.getD k false = q at *
      clear hX hP ho R0
      go_wp2_with (fail)
      have hLc : ∀ (L : Later wr) (b o : Nat), b < wr.heap.size → L.x.cell? ⟨b, o, none⟩ = wr.cell? ⟨b, o, none⟩ := Later.cell
      have hLf : ∀ (L : Later wr) (b o : Nat), b < wr.heap.size → L.x.frozen? ⟨b, o, none⟩ = wr.frozen? ⟨b, o, none⟩ := Later.frozen
      refine wp_region_later 16 (by kernel_rfl) (by kernel_rfl) ?_
      simp only [List.take_succ_cons, List.take_zero, List.drop_succ_cons, List.drop_zero]
      repeat (go_big_quiet_step (exact calls_later _ (Hf.out _ _ _)))
      refine wpQuiet_nil ?_
      intro L
      go_wp2
      exact ⟨N1.out L, by simp [intOf]; omega⟩
    · have hkn : k = a.cells.length := by omega
      have hV := Lib.hid (show RegV wr (.agg #[.int .i64 a.wide, .int .i64 a.tall, .slice (some ⟨g, 0, none⟩) a.cells.length a.cells.length]) (Reg.both f a b) from ⟨_, rfl, by
        have := HO.out.sl
        rw [hkn, fillL_full] at this
        exact this⟩)
      clear hX hP ho R0 hkn
      go_wp2_with (fail)
      refine (RegionValid_any _ (Reg.both f a b) _ hV.out).mono ?_
      rintro e w5 ⟨rfl, h5⟩
      have P5 := Lib.hid (HP.out.on h5)
      have hX5 := (h5.block _ (lt_of_heap HX.out)).trans HX.out
      have V5 := Lib.hid (RegV.below hV.out h5)
      clear h5 x0 x1 x2 y0 y1 y2 z0 z1 z2 z3 z4 z5 c0 c1 c2 f0 f1 f2
      obtain ⟨c0, c1, c2, _⟩ := three_cells hX5
      obtain ⟨z0, z1, z2, z3, z4, z5⟩ := three_cells P5.out.z
      clear hX5
      cases hv : (Reg.both f a b).valid
      · have DN := P5.out.none
        rw [← comb_bad (f := f) (a := a) (b := b) hv, ← HR.out] at DN
        have DN := Lib.hid DN
        obtain ⟨q0, q1, q2, _⟩ := three_cells (put3 (x' := .int .i64 0) (y' := .int .i64 0) (z' := .slice none 0 0) P5.out.z)
        have Q0 := Lib.hid q0
        have Q1 := Lib.hid q1
        have Q2 := Lib.hid q2
        clear q0 q1 q2 c0 c1 c2
        go_wp2
        exact bodyPost_ret (by simp [results, Try.results60, go_sem, Q0.out, Q1.out, Q2.out]) rfl DN.out
      · obtain ⟨sv, hsv, hbl⟩ := V5.out
        obtain rfl : Value.slice (some ⟨g, 0, none⟩) a.cells.length a.cells.length = sv := by simpa [Reg.both] using hsv
        have DN := regB_done (x := a.wide) (y := a.tall) (c := true) P5.out.g hbl P5.out.z (by omega)
        rw [show (⟨a.wide, a.tall, (Reg.both f a b).cells⟩, true) = R from (comb_yes hfit hv).symm.trans HR.out.symm] at DN
        have DN := Lib.hid DN
        clear hbl hsv
        obtain ⟨q0, q1, q2, _⟩ := three_cells (put3 (x' := .int .i64 a.wide) (y' := .int .i64 a.tall) (z' := .slice (some ⟨g, 0, none⟩) a.cells.length a.cells.length) P5.out.z)
        have Q0 := Lib.hid q0
        have Q1 := Lib.hid q1
        have Q2 := Lib.hid q2
        clear q0 q1 q2
        go_wp2
        exact bodyPost_ret (by simp [results, Try.results60, go_sem, Q0.out, Q1.out, Q2.out]) rfl DN.out

set_option maxHeartbeats 400000 in
theorem RegionMeet_any (va vb : Value) (a b : Reg) (w : World) (ha : RegV w va a) (hb : RegV w vb b) :
    Calls Try.prog 16 #[va, vb] w (RetRB (combR (fun p q => p && q) a b) w) := by
  obtain ⟨aa, ca, rfl, hsa, hla, hma⟩ := ha.opened
  obtain ⟨ab, cb, rfl, hsb, hlb, hmb⟩ := hb.opened
  have Ha := Lib.hid ha
  have Hb := Lib.hid hb
  clear ha hb hsa hsb
  obtain ⟨R, hR⟩ : ∃ R, R = combR (fun p q => p && q) a b := ⟨_, rfl⟩
  rw [← hR]
  have HR := Lib.hid hR
  clear hR
  obtain ⟨W, hW⟩ : ∃ W, W = ((w.alloc (.cells #[.int .i64 a.wide, .int .i64 a.tall, .slice aa a.cells.length ca] 25)).alloc (.cells #[.int .i64 b.wide, .int .i64 b.tall, .slice ab b.cells.length cb] 25)).alloc (.cells #[.int .i64 0, .int .i64 0, .slice none 0 0] 25) := ⟨_, rfl⟩
  have P0 := Lib.hid (Pair.start w 25 a b aa ab ca cb)
  rw [← hW] at P0
  go_enter Try.func16, Try.ntmps16
  go_wp2_with (fail)
  rw [← hW]
  clear hW
  refine (combine_any 61 _ RegionMeet_enter RegionMeet_cell _ _ a b _ (Ha.out.below P0.out.g) (Hb.out.below P0.out.g)).mono ?_
  rw [← HR.out]
  rintro e w1 ⟨v1, rfl, hv, h1⟩
  obtain ⟨ar, cr, rfl, hs, _, _⟩ := hv.opened
  have P1 := Lib.hid (P0.out.on h1)
  have DN := Lib.hid (regB_done (x := R.1.wide) (y := R.1.tall) (c := R.2) P1.out.g hs P1.out.z (by omega))
  obtain ⟨z0, z1, z2, z3, z4, z5⟩ := three_cells P1.out.z
  obtain ⟨q0, q1, q2, _⟩ := three_cells (put3 (x' := .int .i64 R.1.wide) (y' := .int .i64 R.1.tall) (z' := .slice ar R.1.cells.length cr) P1.out.z)
  have Q0 := Lib.hid q0
  have Q1 := Lib.hid q1
  have Q2 := Lib.hid q2
  clear q0 q1 q2 hs hv h1
  go_wp2
  exact bodyPost_ret (by simp [results, Try.results16, go_sem, Q0.out, Q1.out, Q2.out]) rfl DN.out

set_option maxHeartbeats 400000 in
theorem RegionJoin_any (va vb : Value) (a b : Reg) (w : World) (ha : RegV w va a) (hb : RegV w vb b) :
    Calls Try.prog 30 #[va, vb] w (RetRB (combR (fun p q => p || q) a b) w) := by
  obtain ⟨aa, ca, rfl, hsa, hla, hma⟩ := ha.opened
  obtain ⟨ab, cb, rfl, hsb, hlb, hmb⟩ := hb.opened
  have Ha := Lib.hid ha
  have Hb := Lib.hid hb
  clear ha hb hsa hsb
  obtain ⟨R, hR⟩ : ∃ R, R = combR (fun p q => p || q) a b := ⟨_, rfl⟩
  rw [← hR]
  have HR := Lib.hid hR
  clear hR
  obtain ⟨W, hW⟩ : ∃ W, W = ((w.alloc (.cells #[.int .i64 a.wide, .int .i64 a.tall, .slice aa a.cells.length ca] 25)).alloc (.cells #[.int .i64 b.wide, .int .i64 b.tall, .slice ab b.cells.length cb] 25)).alloc (.cells #[.int .i64 0, .int .i64 0, .slice none 0 0] 25) := ⟨_, rfl⟩
  have P0 := Lib.hid (Pair.start w 25 a b aa ab ca cb)
  rw [← hW] at P0
  go_enter Try.func30, Try.ntmps30
  go_wp2_with (fail)
  rw [← hW]
  clear hW
  refine (combine_any 73 _ RegionJoin_enter RegionJoin_cell _ _ a b _ (Ha.out.below P0.out.g) (Hb.out.below P0.out.g)).mono ?_
  rw [← HR.out]
  rintro e w1 ⟨v1, rfl, hv, h1⟩
  obtain ⟨ar, cr, rfl, hs, _, _⟩ := hv.opened
  have P1 := Lib.hid (P0.out.on h1)
  have DN := Lib.hid (regB_done (x := R.1.wide) (y := R.1.tall) (c := R.2) P1.out.g hs P1.out.z (by omega))
  obtain ⟨z0, z1, z2, z3, z4, z5⟩ := three_cells P1.out.z
  obtain ⟨q0, q1, q2, _⟩ := three_cells (put3 (x' := .int .i64 R.1.wide) (y' := .int .i64 R.1.tall) (z' := .slice ar R.1.cells.length cr) P1.out.z)
  have Q0 := Lib.hid q0
  have Q1 := Lib.hid q1
  have Q2 := Lib.hid q2
  clear q0 q1 q2 hs hv h1
  go_wp2
  exact bodyPost_ret (by simp [results, Try.results30, go_sem, Q0.out, Q1.out, Q2.out]) rfl DN.out

end Go.Proofs.Ytedccoimdkehgaa
