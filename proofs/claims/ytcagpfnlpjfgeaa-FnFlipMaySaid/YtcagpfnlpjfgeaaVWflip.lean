/- Walks: flips of the program. -/
import Derived.Test.YtcagpfnlpjfgeaaVWlaid
import Derived.Test.YtcagpfnlpjfgeaaVWj
import Derived.Test.YtcagpfnlpjfgeaaVClone
import Derived.Test.YtcagpfnlpjfgeaaVLaw
import Derived.Test.YtcagpfnlpjfgeaaZa
import Derived.Test.YtcagpfnlpjfgeaaZe
import Derived.Laws.EntriesVeiled
set_option linter.unusedVariables false
namespace Go.Proofs.Ytcagpfnlpjfgeaa
open Go.RowKit Domi

theorem corners_bd {r : Reg} (h : r.valid = true) : 4 ≤ corners r ∧ corners r ≤ 49 := by
  obtain ⟨v1, v2, _, _⟩ := Reg.valid_iff.1 h
  have e : corners r = r.wide * r.tall + r.wide + r.tall + 1 := by unfold corners; rw [Int.add_mul, Int.mul_add]; omega
  have := area_in v1 v2
  omega
set_option maxHeartbeats 400000 in
theorem corners_any (v : Value) (r : Reg) (w : World) (h : RegV w v r) (hv : r.valid = true) : Calls Try.prog 124 #[v] w (Ret (.int .i64 (corners r)) w) := by
  obtain ⟨v1, v2, _, _⟩ := Reg.valid_iff.1 hv
  have hb := corners_bd hv
  unfold corners at hb
  obtain ⟨a, cap, rfl, hs, hlc, hcm⟩ := h.opened
  clear h hs
  go_enter Try.func124, Try.ntmps124
  go_wp2
  go_ret
  exact ⟨ret_int rfl, by go_grown⟩

/-- The cells around a corner, as a value. -/
def arV (r : Reg) (c : Int) : Value := if arOk r c then .agg #[.int .i64 (arB r c), .int .i64 (arB r c + 1), .int .i64 (arB r c + r.wide), .int .i64 (arB r c + r.wide + 1)] else .agg #[.int .i64 0, .int .i64 0, .int .i64 0, .int .i64 0]
theorem arV_no {r : Reg} {c : Int} (h : arOk r c = false) : arV r c = .agg #[.int .i64 0, .int .i64 0, .int .i64 0, .int .i64 0] := by unfold arV; rw [h]; rfl
theorem arV_yes {r : Reg} {c : Int} (h : arOk r c = true) : arV r c = .agg #[.int .i64 (arB r c), .int .i64 (arB r c + 1), .int .i64 (arB r c + r.wide), .int .i64 (arB r c + r.wide + 1)] := by unfold arV; rw [h]; rfl
theorem arOk_neg {r : Reg} {c : Int} (h : ¬ 0 ≤ c) : arOk r c = false := by unfold arOk; rw [decide_eq_false h]; rfl
theorem arOk_x {r : Reg} {c : Int} (h : inB (c % (r.wide + 1)) 1 (r.wide - 1) = false) : arOk r c = false := by unfold arOk; rw [h, Bool.false_and, Bool.and_false]
theorem arOk_y {r : Reg} {c : Int} (h : inB (c / (r.wide + 1)) 1 (r.tall - 1) = false) : arOk r c = false := by unfold arOk; rw [h, Bool.and_false, Bool.and_false]
theorem arOk_all {r : Reg} {c : Int} (h : 0 ≤ c) (hx : inB (c % (r.wide + 1)) 1 (r.wide - 1) = true) (hy : inB (c / (r.wide + 1)) 1 (r.tall - 1) = true) : arOk r c = true := by unfold arOk; rw [decide_eq_true h, hx, hy]; rfl
theorem arB_bd {r : Reg} {c : Int} (hv : r.valid = true) (hx : inB (c % (r.wide + 1)) 1 (r.wide - 1) = true) (hy : inB (c / (r.wide + 1)) 1 (r.tall - 1) = true) : (0 ≤ (c / (r.wide + 1) - 1) * r.wide ∧ (c / (r.wide + 1) - 1) * r.wide ≤ 36) ∧ 0 ≤ arB r c ∧ arB r c ≤ 36 := by
  obtain ⟨v1, v2, _, _⟩ := Reg.valid_iff.1 hv
  have h1 := inB_iff.1 hx
  have h2 := inB_iff.1 hy
  have := area_in v1 v2
  have q0 := xy_lt (w := r.wide) (t := r.tall) (x := 0) (y := c / (r.wide + 1) - 1) (by omega) (by omega) (by omega) (by omega)
  have q1 := xy_lt (w := r.wide) (t := r.tall) (x := c % (r.wide + 1) - 1) (y := c / (r.wide + 1) - 1) (by omega) (by omega) (by omega) (by omega)
  unfold arB
  omega
set_option maxRecDepth 100000 in
set_option maxHeartbeats 2000000 in
theorem around_any (v : Value) (r : Reg) (c : Int) (w : World) (h : RegV w v r) (hv : r.valid = true) (hc : -9223372036854775808 ≤ c ∧ c ≤ 9223372036854775807) :
    Calls Try.prog 123 #[v, .int .i64 c] w (Ret (.tuple #[arV r c, .bool (arOk r c)]) w) := by
  obtain ⟨v1, v2, _, _⟩ := Reg.valid_iff.1 hv
  obtain ⟨a, cap, rfl, hs, hlc, hcm⟩ := h.opened
  clear h hs
  by_cases h0 : 0 ≤ c
  · have m1 := Int.emod_nonneg c (b := r.wide + 1) (by omega)
    have m2 := Int.emod_lt_of_pos c (b := r.wide + 1) (by omega)
    have m3 := Int.ediv_nonneg (a := c) (b := r.wide + 1) (by omega) (by omega)
    have m4 := Int.ediv_le_self (a := c) (r.wide + 1) (by omega)
    have h0' : ¬ c < 0 := by omega
    cases hx : inB (c % (r.wide + 1)) 1 (r.wide - 1)
    · rw [arOk_x hx, arV_no (arOk_x hx)]
      go_enter Try.func123, Try.ntmps123
      go_wp2
      go_quiet (fail)
      go_wp2_with (go_at_call 105; refine (in_any _ _ _ _).mono ?_; rintro e w' ⟨rfl, rfl⟩)
      refine bodyPost_ret (by simp [results, Try.results123, go_sem]) rfl ⟨rfl, ?_⟩
      go_grown
      refine bel_dn (B := w.heap.size) (a := w) ?_ _
      go_grown
    · cases hy : inB (c / (r.wide + 1)) 1 (r.tall - 1)
      · rw [arOk_y hy, arV_no (arOk_y hy)]
        go_enter Try.func123, Try.ntmps123
        go_wp2
        go_quiet (fail)
        go_wp2_with (go_at_call 105; refine (in_any _ _ _ _).mono ?_; rintro e w' ⟨rfl, rfl⟩)
        refine bodyPost_ret (by simp [results, Try.results123, go_sem]) rfl ⟨rfl, ?_⟩
        go_grown
        refine bel_dn (B := w.heap.size) (a := w) ?_ _
        go_grown
      · obtain ⟨p1, p2⟩ := arB_bd hv hx hy
        rw [arOk_all h0 hx hy, arV_yes (arOk_all h0 hx hy)]
        unfold arB at p2 ⊢
        go_enter Try.func123, Try.ntmps123
        go_wp2
        go_quiet (fail)
        go_wp2_with (go_at_call 105; refine (in_any _ _ _ _).mono ?_; rintro e w' ⟨rfl, rfl⟩)
        refine bodyPost_ret (by simp [results, Try.results123, go_sem]) rfl ⟨rfl, ?_⟩
        go_grown
        refine bel_dn (B := w.heap.size) (a := w) ?_ _
        go_grown
  · rw [arOk_neg h0, arV_no (arOk_neg h0)]
    have h0' : c < 0 := by omega
    go_enter Try.func123, Try.ntmps123
    go_wp2
    go_quiet (fail)
    go_wp2
    refine bodyPost_ret (by simp [results, Try.results123, go_sem]) rfl ⟨rfl, ?_⟩
    go_grown
    refine bel_dn (B := w.heap.size) (a := w) ?_ _
    go_grown
theorem arV_sq {r : Reg} {c : Int} {a w : Nat} (h : arOk r c = true) (q : Sq r c a w) : arV r c = .agg #[.int .i64 (a : Nat), .int .i64 (a + 1 : Nat), .int .i64 (a + w : Nat), .int .i64 (a + w + 1 : Nat)] := by
  rw [arV_yes h, q.ba, q.bw]; rfl
theorem flatC_no {r : Reg} {L : List Int} {c : Int} (h : arOk r c = false) : flatC r L c = false := by unfold flatC; rw [h, Bool.false_and]
theorem uprC_no {r : Reg} {L : List Int} {c : Int} (h : arOk r c = false) : uprC r L c = false := by unfold uprC; rw [h, Bool.false_and]
theorem Il.at_ {w w' : World} {u : Value} {L : List Int} (h : Il w u L) (hb : Below w.heap.size w w') {k : Nat} (hk : k < L.length) :
    ∃ b off cap, u = .slice (some ⟨b, off, none⟩) L.length cap ∧ b < w.heap.size ∧ w'.cell? ⟨b, off + k, none⟩ = some (.int .i64 (L.getD k 0)) := by
  obtain ⟨b, off, cap, rfl, hb1, hc, _⟩ := Il.pos h (by omega)
  exact ⟨b, off, cap, rfl, hb1, hc w' hb k hk⟩
set_option maxRecDepth 100000 in
set_option maxHeartbeats 2000000 in
theorem flippable_any (v u : Value) (r : Reg) (L : List Int) (c : Int) (w : World) (h : RegV w v r) (hu : Il w u L) (hv : r.valid = true) (hl : L.length = r.cells.length) (hc : -9223372036854775808 ≤ c ∧ c ≤ 9223372036854775807)
    (f g : Bool) (hf : flatC r L c = f) (hg : uprC r L c = g) : Calls Try.prog 92 #[v, u, .int .i64 c] w (Ret (.tuple #[.bool f, .bool g]) w) := by
  obtain ⟨v1, v2, v3, _⟩ := Reg.valid_iff.1 hv
  have hA := area_in v1 v2
  have hl1 : 0 < L.length := by omega
  obtain ⟨a, cap, rfl, hs, hlc, hcm⟩ := h.opened
  obtain ⟨ub, uo, uc, rfl, hub, hucell, hul, hum⟩ := Il.pos hu hl1
  have R0 := Lib.hid (RB.new hs)
  have B0 := Lib.hid (below_alloc w (.cells #[.int .i64 r.wide, .int .i64 r.tall, .slice a r.cells.length cap] 25))
  have HUC := Lib.hid hucell
  have HL := Lib.hid hl
  clear h hs hu hucell hl v3
  go_enter Try.func92, Try.ntmps92
  go_wp2_with (fail)
  refine (around_any _ r c _ R0.out.v hv hc).mono ?_
  rintro e w1 ⟨rfl, hb⟩
  have B1 := Lib.hid (B0.out.trans (hb.mono B0.out.size))
  clear hb
  cases har : arOk r c
  · rw [flatC_no har] at hf
    rw [uprC_no har] at hg
    subst hf hg
    rw [arV_no har]
    clear har
    go_wp2
    go_ret2
    exact ⟨rfl, B1.out.trans (by go_grown; exact B1.out.size)⟩
  · obtain ⟨k, wd, q⟩ := sq_of hv har
    rw [flatC_eq q har] at hf
    rw [uprC_eq q har] at hg
    rw [arV_sq har q]
    have hlt := q.lt
    have hL := HL.out
    obtain ⟨k1, hk1⟩ : ∃ x, k + 1 = x := ⟨_, rfl⟩
    obtain ⟨k2, hk2⟩ : ∃ x, k + wd = x := ⟨_, rfl⟩
    obtain ⟨k3, hk3⟩ : ∃ x, k2 + 1 = x := ⟨_, rfl⟩
    rw [hk1] at hg ⊢
    rw [hk2] at hf
    rw [hk2, hk3]
    have l0 : k < L.length := by omega
    have l1 : k1 < L.length := by have := q.w2; omega
    have l2 : k2 < L.length := by omega
    have i0 : (k : Int) < (L.length : Int) := by omega
    have i1 : (k1 : Int) < (L.length : Int) := by omega
    have i2 : (k2 : Int) < (L.length : Int) := by omega
    have c0 := HUC.out w1 B1.out k l0
    have c1 := HUC.out w1 B1.out k1 l1
    have c2 := HUC.out w1 B1.out k2 l2
    have hub1 : ub < w1.heap.size := Nat.lt_of_lt_of_le hub B1.out.size
    clear q har hk1 hk2 hk3 hlt hL l0 l1 l2
    generalize L.getD k 0 = y0 at *
    generalize L.getD k1 0 = y1 at *
    generalize L.getD k2 0 = y2 at *
    by_cases e1 : y0 = 1
    · subst e1
      have F : Hid (f = (y2 == 1)) := Lib.hid (by rw [← hf]; rfl)
      have G : Hid (g = false) := Lib.hid (by rw [← hg]; rfl)
      clear hf hg
      go_wp2
      go_quiet (fail)
      go_wp2
      go_ret2
      exact ⟨by rw [F.out, G.out]; rfl, B1.out.trans (bel_dn (by go_grown; exact B1.out.size) _)⟩
    · by_cases e2 : y0 = 2
      · subst e2
        have F : Hid (f = false) := Lib.hid (by rw [← hf]; rfl)
        have G : Hid (g = (y1 == 2)) := Lib.hid (by rw [← hg]; rfl)
        clear hf hg
        go_wp2
        go_quiet (fail)
        go_wp2
        go_ret2
        exact ⟨by rw [F.out, G.out]; rfl, B1.out.trans (bel_dn (by go_grown; exact B1.out.size) _)⟩
      · have F : Hid (f = false) := Lib.hid (by rw [← hf, decide_eq_false e1, Bool.false_and])
        have G : Hid (g = false) := Lib.hid (by rw [← hg, decide_eq_false e2, Bool.false_and])
        have e1' : (y0 == 1) = false := by simpa using e1
        have e2' : (y0 == 2) = false := by simpa using e2
        clear hf hg e1 e2
        go_wp2
        go_quiet (fail)
        go_wp2
        go_ret2
        exact ⟨by rw [F.out, G.out]; rfl, B1.out.trans (bel_dn (by go_grown; exact B1.out.size) _)⟩

set_option maxHeartbeats 400000 in
theorem FlipMay_any (v u : Value) (r : Reg) (L : List Int) (c : Int) (w : World) (h : RegV w v r) (hu : Il w u L) (hc : -9223372036854775808 ≤ c ∧ c ≤ 9223372036854775807)
    (b : Bool) (hb : flipMay r L c = b) : Calls Try.prog 45 #[v, u, .int .i64 c] w (Ret (.bool b) w) := by
  obtain ⟨a, cap, rfl, hs, hlc, hcm⟩ := h.opened
  have R0 := Lib.hid (RB.new hs)
  have B0 := Lib.hid (below_alloc w (.cells #[.int .i64 r.wide, .int .i64 r.tall, .slice a r.cells.length cap] 25))
  have HU := Lib.hid hu
  have HB := Lib.hid hb
  clear h hs hu hb
  go_enter Try.func45, Try.ntmps45
  go_wp2_with (fail)
  cases hk : laidOk r L
  · refine (LaidOk_is _ _ r L _ R0.out.v (HU.out.below B0.out) false hk).mono ?_
    rintro e w1 ⟨rfl, hb⟩
    have B1 := Lib.hid (B0.out.trans (hb.mono B0.out.size))
    have E : Hid (b = false) := Lib.hid (by rw [← HB.out]; unfold flipMay; rw [hk]; rfl)
    clear hb
    go_wp2
    go_ret
    exact ⟨ret_bool E.out.symm, B1.out⟩
  · refine (LaidOk_is _ _ r L _ R0.out.v (HU.out.below B0.out) true hk).mono ?_
    rintro e w1 ⟨rfl, hb⟩
    have R1 := Lib.hid (R0.out.on hb)
    have B1 := Lib.hid (B0.out.trans (hb.mono B0.out.size))
    obtain ⟨hv, hlen, _⟩ := laidOk_iff.1 hk
    have HN := Lib.hid hlen
    clear hb R0 hlen
    obtain ⟨x0, x1, x2⟩ := R1.out.c3
    obtain ⟨f, hf⟩ : ∃ f, flatC r L c = f := ⟨_, rfl⟩
    obtain ⟨g, hg⟩ : ∃ g, uprC r L c = g := ⟨_, rfl⟩
    have E : Hid (b = (f || g)) := Lib.hid (by rw [← HB.out]; unfold flipMay canFl; rw [hk, hf, hg]; rfl)
    have HF := Lib.hid hf
    have HG := Lib.hid hg
    clear hf hg hk
    go_wp2_with (fail)
    refine (flippable_any _ _ r L c _ R1.out.v (HU.out.below B1.out) hv HN.out hc f g HF.out HG.out).mono ?_
    rintro e w2 ⟨rfl, hb⟩
    have B2 := Lib.hid (B1.out.trans (hb.mono B1.out.size))
    clear hb R1 x0 x1 x2
    cases f
    · go_wp2
      go_ret
      exact ⟨ret_bool (show b = g from E.out).symm, B2.out⟩
    · go_wp2
      go_ret
      exact ⟨ret_bool (show b = true from E.out).symm, B2.out⟩
end Go.Proofs.Ytcagpfnlpjfgeaa
