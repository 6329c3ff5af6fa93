/- Walks: reading a region, the program's. -/
import Derived.Test.YtklifibiadiinaaDoorVWrd
set_option linter.unusedVariables false
namespace Go.Proofs.YtklifibiadiinaaDoor
open Go.RowKit Domi

set_option maxRecDepth 100000 in
set_option maxHeartbeats 1000000 in
theorem ReadRegion_any (s : ByteArray) (w : World) (hs : s.size ≤ 1000) (m : Int) (hm : w.cell? ⟨0, 0, none⟩ = some (.int .i64 m)) (hw0 : 0 < w.heap.size) :
    Calls Tryd.prog 21 #[.string s] w (RetRB (readR s.data.toList) w) := by
  have S0 := Lib.hid ((Sep.start w none).box #[.int .i64 0, .int .i64 0, .slice none 0 0] 25)
  obtain ⟨w1, hw1⟩ : ∃ w1, w1 = w.alloc (.cells #[.int .i64 0, .int .i64 0, .slice none 0 0] 25) := ⟨_, rfl⟩
  have HC := Lib.hid (read44_n okR s w1 hs m (by rw [hw1, (below_alloc w _).cell hw0]; exact hm) (by rw [hw1]; simp) (fun c x _ => signOk_any c x))
  rw [← hw1] at S0
  clear hm hw0
  go_enter Tryd.func21, Tryd.ntmps21
  go_wp2_with (fail)
  rw [← hw1]
  clear hw1
  refine HC.out.mono ?_
  rintro e w2 ⟨x, y, a, n, c, la, ln, lc, b, rfl, hb, hyes, hno⟩
  have HY := Lib.hid hyes
  have HN := Lib.hid hno
  clear hyes hno HC
  rcases readR_cases s.data.toList with ⟨h1, h2, h3⟩ | ⟨h1, h3⟩
  · obtain ⟨e1, ⟨ex, ey⟩, ho, _⟩ := HY.out h1
    rw [h2] at e1
    subst e1
    have S1 := Lib.hid (((S0.out.below hb).add S0.out ho).box #[.int .i64 x, .int .i64 y, .slice a n c] 25)
    have HE := Lib.hid (And.intro ex ey)
    have H3 := Lib.hid h3
    clear h1 h2 h3 HY HN S0 hb ho ex ey
    go_upto_region 2 with (fail)
    obtain ⟨w3, hw3⟩ : ∃ w3, w3 = w2.alloc (.cells #[.int .i64 x, .int .i64 y, .slice a n c] 25) := ⟨_, rfl⟩
    rw [← hw3] at S1 ⊢
    obtain ⟨X, hX⟩ : ∃ X, w2.heap.size = X := ⟨_, rfl⟩
    rw [hX] at S1 ⊢
    clear hw3 hX
    obtain ⟨y0, y1, y2, _⟩ := three_cells (S1.out.blk 2 rfl)
    obtain ⟨z0, z1, z2, z3, z4, z5⟩ := three_cells (S1.out.blk 0 rfl)
    have P := Lib.hid (S1.out.put3 0 rfl (.int .i64 x) (.int .i64 y) (.slice a n c))
    obtain ⟨p0, p1, p2, _⟩ := three_cells (P.out.blk 0 rfl)
    have Q0 := Lib.hid p0
    have Q1 := Lib.hid p1
    have Q2 := Lib.hid p2
    clear p0 p1 p2
    have hz0 := S1.out.lt 0 rfl rfl
    have hz1 := S1.out.lt 2 rfl rfl
    go_wp2_with (fail)
    rw [H3.out]
    exact bodyPost_ret (by simp [results, Tryd.results21, go_sem, Q0.out, Q1.out, Q2.out]) rfl ⟨.agg #[.int .i64 x, .int .i64 y, .slice a n c], rfl, ⟨_, by rw [HE.out.1, HE.out.2], (P.out.own 1 rfl).sl⟩, P.out.bel⟩
  · have hb0 : b = false := by
      cases hg : goodU okR s.data.toList
      · exact HN.out hg
      · obtain ⟨e1, _⟩ := HY.out hg
        rcases h1 with h | h
        · rw [hg] at h; cases h
        · rw [e1, h]
    subst hb0
    have S1 := Lib.hid ((S0.out.below hb).box #[.int .i64 x, .int .i64 y, .slice a n c] 25)
    have H3 := Lib.hid h3
    clear h1 h3 HY HN S0 hb
    go_upto_region 2 with (fail)
    obtain ⟨w3, hw3⟩ : ∃ w3, w3 = w2.alloc (.cells #[.int .i64 x, .int .i64 y, .slice a n c] 25) := ⟨_, rfl⟩
    rw [← hw3] at S1 ⊢
    obtain ⟨X, hX⟩ : ∃ X, w2.heap.size = X := ⟨_, rfl⟩
    rw [hX] at S1 ⊢
    clear hw3 hX
    obtain ⟨z0, z1, z2, z3, z4, z5⟩ := three_cells (S1.out.blk 0 rfl)
    have P := Lib.hid (S1.out.put3 0 rfl (.int .i64 0) (.int .i64 0) (.slice none 0 0))
    obtain ⟨p0, p1, p2, _⟩ := three_cells (P.out.blk 0 rfl)
    have Q0 := Lib.hid p0
    have Q1 := Lib.hid p1
    have Q2 := Lib.hid p2
    clear p0 p1 p2
    go_wp2_with (fail)
    rw [H3.out]
    exact bodyPost_ret (by simp [results, Tryd.results21, go_sem, Q0.out, Q1.out, Q2.out]) rfl ⟨.agg #[.int .i64 0, .int .i64 0, .slice none 0 0], rfl, zero_regV _, P.out.bel⟩
end Go.Proofs.YtklifibiadiinaaDoor
