/- Walks: the parts of the program's HeightsOk. -/
import Derived.Test.YtdggcfpkbmdllaaVWside
import Derived.Test.YtdggcfpkbmdllaaZe
import Derived.Test.YtdggcfpkbmdllaaVWmv
set_option linter.unusedVariables false
namespace Go.Proofs.Ytdggcfpkbmdllaa
open Go.RowKit Domi

def sdAgg (s : Sd) : Value := .agg #[.int .i64 s.fr, .int .i64 s.tt, .int .i64 s.lx, .int .i64 s.ly, .int .i64 s.rx, .int .i64 s.ry]
theorem tm2 {n : Int} : (n.tmod 2 == 0) = decide (n % 2 = 0) := by
  by_cases h : n % 2 = 0
  · have h2 : n.tmod 2 = 0 := Int.tmod_eq_zero_of_dvd (Int.dvd_of_emod_eq_zero h)
    rw [h2]; simp [h]
  · have h2 : n.tmod 2 ≠ 0 := fun e => h (Int.emod_eq_zero_of_dvd (Int.dvd_of_tmod_eq_zero e))
    simp [h, h2]
theorem side_dark (s : Sd) (hs : SdSm s) (d : Bool) (hd : s.dk = d) (w : World) : Calls Try.prog 101 #[sdAgg s] w (Ret (.bool d) w) := by
  obtain ⟨a, b, c, e, f, g⟩ := s
  obtain ⟨h1, h2, h3, h4, h5, h6⟩ := hs
  simp only at h1 h2 h3 h4 h5 h6
  have hd := Lib.hid hd
  unfold sdAgg
  simp only
  go_enter Try.func101, Try.ntmps101
  go_wp2_with (fail)
  go_ret
  refine ⟨?_, by go_grown⟩
  rw [← hd.out]
  simp [Sd.dk, tm2]
theorem side_rise (s : Sd) (hs : SdSm s) (d : Bool) (hd : s.dk = d) (w : World) : Calls Try.prog 76 #[sdAgg s] w (Ret (.int .i64 (riseI d)) w) := by
  have C := Lib.hid (side_dark s hs d hd)
  clear hs hd
  unfold sdAgg at C ⊢
  cases d
  all_goals go_enter Try.func76, Try.ntmps76
  all_goals go_wp2_with (fail)
  all_goals refine (C.out _).mono ?_
  all_goals rintro e w2 ⟨rfl, hb⟩
  all_goals go_wp2_with (fail)
  all_goals go_ret
  all_goals exact ⟨rfl, (below_alloc w _).trans (hb.mono (by simp))⟩
theorem region_corners (v : Value) (r : Reg) (w0 t : Nat) (F : Fld r w0 t) (w : World) (h : RegV w v r) : Calls Try.prog 74 #[v] w (Ret (.int .i64 (r.cor : Int)) w) := by
  obtain ⟨a, cap, rfl, hs, hlc, hcm⟩ := h.opened
  have hc := cor_is F
  have hw6 := F.w6
  have ht6 := F.t6
  have hm : (r.wide + 1) * (r.tall + 1) = (r.cor : Int) := by rw [hc, F.hw, F.ht]; push_cast; rfl
  have hk : (w0 + 1) * (t + 1) ≤ 7 * 7 := Nat.mul_le_mul (by omega) (by omega)
  have hwb : 0 ≤ r.wide ∧ r.wide ≤ 6 := by have := F.hw; omega
  have htb : 0 ≤ r.tall ∧ r.tall ≤ 6 := by have := F.ht; omega
  have hb : (r.cor : Int) ≤ 49 := by omega
  clear hs h hk hc
  go_enter Try.func74, Try.ntmps74
  go_wp2_with (fail)
  go_ret
  exact ⟨rfl, by go_grown⟩
/-- The variable at block X holds the side s. -/
structure SB (W : World) (X : Nat) (s : Sd) : Prop where
  box : W.heap[X]? = some (.cells #[.int .i64 s.fr, .int .i64 s.tt, .int .i64 s.lx, .int .i64 s.ly, .int .i64 s.rx, .int .i64 s.ry] 75 (0, 0))
theorem SB.on {W W' : World} {X : Nat} {s : Sd} (h : SB W X s) (hb : Below W.heap.size W W') : SB W' X s := ⟨by rw [hb.block _ (lt_of_heap h.box)]; exact h.box⟩
theorem SB.lt {W : World} {X : Nat} {s : Sd} (h : SB W X s) : X < W.heap.size := lt_of_heap h.box
theorem SB.c6 {W : World} {X : Nat} {s : Sd} (h : SB W X s) : W.cell? ⟨X, 0, none⟩ = some (.int .i64 s.fr) ∧ W.cell? ⟨X, 1, none⟩ = some (.int .i64 s.tt) ∧ W.cell? ⟨X, 2, none⟩ = some (.int .i64 s.lx) ∧ W.cell? ⟨X, 3, none⟩ = some (.int .i64 s.ly) ∧ W.cell? ⟨X, 4, none⟩ = some (.int .i64 s.rx) ∧ W.cell? ⟨X, 5, none⟩ = some (.int .i64 s.ry) :=
  ⟨cell_of_row W X 0 _ _ _ h.box, cell_of_row W X 1 _ _ _ h.box, cell_of_row W X 2 _ _ _ h.box, cell_of_row W X 3 _ _ _ h.box, cell_of_row W X 4 _ _ _ h.box, cell_of_row W X 5 _ _ _ h.box⟩
set_option maxHeartbeats 400000 in
theorem region_inner (v : Value) (r : Reg) (w : World) (h : RegV w v r) (hv : r.valid = true) (s : Sd) (hs : SdSm s) (b : Bool) (hb0 : s.inn r = b) : Calls Try.prog 77 #[v, sdAgg s] w (Ret (.bool b) w) := by
  obtain ⟨a, cap, rfl, hbl, hlc, hcm⟩ := h.opened
  obtain ⟨h1, h2, h3, h4, h5, h6⟩ := hs
  obtain ⟨b1, e1⟩ : ∃ b1, r.at_ s.lx s.ly = b1 := ⟨_, rfl⟩
  obtain ⟨b2, e2⟩ : ∃ b2, r.at_ s.rx s.ry = b2 := ⟨_, rfl⟩
  have C1 := Lib.hid (fun (v : Value) (w : World) (h : RegV w v r) => at9_is v r s.lx s.ly w h hv (by omega) (by omega) b1 e1)
  have C2 := Lib.hid (fun (v : Value) (w : World) (h : RegV w v r) => at9_is v r s.rx s.ry w h hv (by omega) (by omega) b2 e2)
  obtain ⟨W1, hW1⟩ : ∃ W1, W1 = w.alloc (.cells #[.int .i64 r.wide, .int .i64 r.tall, .slice a r.cells.length cap] 28) := ⟨_, rfl⟩
  have R0 := RB.new hbl
  have hz : W1.heap.size = w.heap.size + 1 := by rw [hW1]; simp
  have B1 := below_alloc w (.cells #[.int .i64 r.wide, .int .i64 r.tall, .slice a r.cells.length cap] 28)
  rw [← hW1] at R0 B1
  obtain ⟨W, hW⟩ : ∃ W, W = W1.alloc (.cells #[.int .i64 s.fr, .int .i64 s.tt, .int .i64 s.lx, .int .i64 s.ly, .int .i64 s.rx, .int .i64 s.ry] 75) := ⟨_, rfl⟩
  have S0 : SB W W1.heap.size s := ⟨by rw [hW]; exact heap_alloc_new _ _⟩
  have B2 := below_alloc W1 (.cells #[.int .i64 s.fr, .int .i64 s.tt, .int .i64 s.lx, .int .i64 s.ly, .int .i64 s.rx, .int .i64 s.ry] 75)
  rw [← hW] at B2
  have R := Lib.hid (R0.on B2)
  rw [hz] at S0
  have S := Lib.hid S0
  have BW := Lib.hid (B1.trans (B2.mono B1.size))
  unfold Sd.inn at hb0
  rw [e1, e2] at hb0
  subst hb0
  clear h hbl e1 e2 B1 B2 R0 S0 hz
  unfold sdAgg
  cases b1
  · go_enter Try.func77, Try.ntmps77
    go_wp2_with (fail)
    rw [← hW1, ← hW]
    clear hW hW1
    refine (C1.out _ _ R.out.v).mono ?_
    rintro e w2 ⟨rfl, hb⟩
    go_wp2_with (fail)
    go_ret
    exact ⟨rfl, BW.out.trans (hb.mono BW.out.size)⟩
  · go_enter Try.func77, Try.ntmps77
    go_wp2_with (fail)
    rw [← hW1, ← hW]
    clear hW hW1
    refine (C1.out _ _ R.out.v).mono ?_
    rintro e w2 ⟨rfl, hb⟩
    have R1 := Lib.hid (R.out.on hb)
    have S1 := Lib.hid (S.out.on hb)
    have BW := Lib.hid (BW.out.trans (hb.mono BW.out.size))
    clear hb
    obtain ⟨x0, x1, x2⟩ := R1.out.c3
    obtain ⟨y0, y1, y2, y3, y4, y5⟩ := S1.out.c6
    go_wp2_with (fail)
    refine (C2.out _ _ R1.out.v).mono ?_
    rintro e w3 ⟨rfl, hb⟩
    go_wp2_with (fail)
    go_ret
    exact ⟨rfl, BW.out.trans (hb.mono BW.out.size)⟩
set_option maxHeartbeats 400000 in
theorem Index_bit (u : Value) (l : List Bool) (w : World) (h : Bl w u l) :
    Calls Try.prog 78 #[u, .bool true] w fun e w' => ∃ n, e = .returned (.int .i64 n) ∧ IxB l n ∧ w = w' := by
  obtain ⟨a, cap, rfl, h1, h2, h3⟩ := h.opened
  clear h
  go_enter Try.func78, Try.ntmps78
  go_wp2
  go_loop [8] (fun i => ∃ k : Nat, k ≤ l.length ∧ i = .int .i64 k ∧ ∀ j, j < k → l.getD j false = false) (fun i => l.length - (intOf i).toNat)
  case atStart => exact ⟨0, Nat.zero_le _, rfl, fun _ h => by omega⟩
  case round =>
    obtain ⟨k, hk, rfl, hno⟩ := hrel
    have HN := Lib.hid hno
    clear hno
    by_cases hlt : k < l.length
    · rcases h3 with rfl | ⟨b, off, rfl, hb, hc⟩
      · simp at hlt
      · have hck := hc k hlt
        obtain ⟨x, hx⟩ : ∃ x, l.getD k false = x := ⟨_, rfl⟩
        rw [hx] at hck
        have HX := Lib.hid hx
        clear hc hx
        cases x
        · have HN2 := Lib.hid (fun j (hj : j < k + 1) => show l.getD j false = false by
            by_cases ej : j = k
            · subst ej; exact HX.out
            · exact HN.out j (by omega))
          go_wp2
          go_round
          case rel => exact ⟨k + 1, by omega, by go_num, HN2.out⟩
          case measure => simp [intOf]; omega
        · have HI : Hid (IxB l (k : Int)) := Lib.hid (.inl ⟨k, rfl, hlt, HX.out, HN.out⟩)
          go_wp2
          go_ret
          exact ⟨_, rfl, HI.out, rfl⟩
    · have e : k = l.length := by omega
      subst e
      go_wp2
      go_ret
      exact ⟨_, rfl, .inr ⟨rfl, HN.out⟩, rfl⟩
end Go.Proofs.Ytdggcfpkbmdllaa
