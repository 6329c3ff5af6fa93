/- Walks: slices.Index, slices.Contains at []int; ways, LaidMany, FlatMany, full, TilingOk, LaidBare of the program. -/
import Derived.Test.YtbjenmfoblniaaaVWone
set_option linter.unusedVariables false
namespace Go.Proofs.Ytbjenmfoblniaaa
open Go.RowKit Domi

/-- The first place of a value, or -1. -/
theorem idx_least {l : List Int} {v : Int} (h : ∃ k, k < l.length ∧ l.getD k 0 = v) : ∃ m, (m < l.length ∧ l.getD m 0 = v) ∧ ∀ j, (j < l.length ∧ l.getD j 0 = v) → m ≤ j := by
  obtain ⟨k, hk⟩ := h
  exact Domi.exists_least (fun j => j < l.length ∧ l.getD j 0 = v) k hk
noncomputable def idxI (l : List Int) (v : Int) : Int := open Classical in if h : ∃ k, k < l.length ∧ l.getD k 0 = v then (Classical.choose (idx_least h) : Nat) else -1
theorem idxI_is {l : List Int} {v : Int} {k : Nat} (hk : k < l.length) (h : l.getD k 0 = v) (hn : ∀ j, j < k → l.getD j 0 ≠ v) : idxI l v = k := by
  have he : ∃ k, k < l.length ∧ l.getD k 0 = v := ⟨k, hk, h⟩
  unfold idxI
  rw [dif_pos he]
  obtain ⟨⟨h1, h2⟩, h3⟩ := Classical.choose_spec (idx_least he)
  have h4 := h3 k ⟨hk, h⟩
  rcases Nat.lt_or_ge (Classical.choose (idx_least he)) k with hl | hl
  · exact absurd h2 (hn _ hl)
  · exact congrArg _ (Nat.le_antisymm h4 hl)
theorem idxI_none {l : List Int} {v : Int} (hn : ∀ j, j < l.length → l.getD j 0 ≠ v) : idxI l v = -1 := by
  unfold idxI
  rw [dif_neg (fun ⟨k, hk, h⟩ => hn k hk h)]
theorem idxI_some {l : List Int} {v : Int} {k : Nat} (hk : k < l.length) (h : l.getD k 0 = v) : 0 ≤ idxI l v := by
  unfold idxI
  rw [dif_pos ⟨k, hk, h⟩]; omega
theorem idxI_le (l : List Int) (v : Int) : -1 ≤ idxI l v ∧ idxI l v < l.length ∨ l.length = 0 ∧ idxI l v = -1 := by
  by_cases he : ∃ k, k < l.length ∧ l.getD k 0 = v
  · left
    unfold idxI
    rw [dif_pos he]
    have := (Classical.choose_spec (idx_least he)).1.1
    omega
  · rw [idxI_none fun j hj e => he ⟨j, hj, e⟩]; omega
def hasI (l : List Int) (v : Int) : Bool := l.any fun x => decide (x = v)
theorem hasI_idx (l : List Int) (v : Int) : decide (0 ≤ idxI l v) = hasI l v := by
  cases h : hasI l v
  · rw [idxI_none fun j hj e => ?_]; rfl
    have : hasI l v = true := List.any_eq_true.2 ⟨l.getD j 0, by rw [← Domi.get_at l 0 j hj]; exact List.getElem_mem _, by simpa using e⟩
    rw [h] at this; cases this
  · obtain ⟨x, hx, e⟩ := List.any_eq_true.1 h
    obtain ⟨k, hk, rfl⟩ := List.mem_iff_getElem.1 hx
    rw [Domi.get_at l 0 k hk] at e
    exact decide_eq_true (idxI_some hk (by simpa using e))

theorem has_low : hasI [1, 2] = isLow := by
  funext x; unfold hasI isLow
  simp only [List.any_cons, List.any_nil, Bool.or_false]
  rw [show decide (1 = x) = decide (x = 1) by simp [eq_comm], show decide (2 = x) = decide (x = 2) by simp [eq_comm]]
theorem has_east : hasI [1] = isEast := by
  funext x; unfold hasI isEast
  simp only [List.any_cons, List.any_nil, Bool.or_false]
  rw [show decide (1 = x) = decide (x = 1) by simp [eq_comm]]
theorem laidMany_no {r : Reg} {L : List Int} (h : laidOk r L = false) : laidMany r L = -1 := by unfold laidMany; rw [h]; rfl
theorem flatMany_no {r : Reg} {L : List Int} (h : laidOk r L = false) : flatMany r L = -1 := by unfold flatMany; rw [h]; rfl
theorem laidMany_yes {r : Reg} {L : List Int} (h : laidOk r L = true) : laidMany r L = wayN isLow L := by unfold laidMany; rw [if_pos h]
theorem flatMany_yes {r : Reg} {L : List Int} (h : laidOk r L = true) : flatMany r L = wayN isEast L := by unfold flatMany; rw [if_pos h]
theorem lit_il {w : World} (xs : List Int) (hx : xs.length ≤ 1000) : Il (w.alloc (.cells (xs.map (Value.int .i64)).toArray 3)) (.slice (some ⟨w.heap.size, 0, none⟩) xs.length xs.length) xs := by
  have := ((Sep.start w none).lit 3 (xs.map (Value.int .i64)).toArray xs.length (by simp) (by omega)).own 0 rfl
  have := this.sl
  simpa [Il] using this

theorem fullB_iff {r : Reg} {L : List Int} : fullB r L = true ↔ ∀ k, k < r.cells.length → r.f k = true → L.getD k 0 ≠ 0 := by
  unfold fullB
  rw [List.all_eq_true]
  constructor
  · intro h k hk hf e
    have := h k (by simpa using hk)
    rw [hf, e] at this; simp at this
  · intro h k hk
    cases hf : r.f k
    · rfl
    · have := h k (by simpa using hk) hf
      simpa using this
theorem fullB_no {r : Reg} {L : List Int} {k : Nat} (hk : k < r.cells.length) (hf : r.f k = true) (h : L.getD k 0 = 0) : fullB r L = false := by
  cases e : fullB r L
  · rfl
  · exact absurd h (fullB_iff.1 e k hk hf)
set_option maxHeartbeats 1000000 in
theorem full_any (v u : Value) (r : Reg) (L : List Int) (w : World) (h : RegV w v r) (hu : Il w u L) (hlen : L.length = r.cells.length) : Calls Try.prog 100 #[v, u] w (Ret (.bool (fullB r L)) w) := by
  obtain ⟨s, rfl, hs⟩ := h
  have B0 := Lib.hid (below_alloc w (.cells #[.int .i64 r.wide, .int .i64 r.tall, s] 29))
  obtain ⟨a, cap, rfl, h1, h2, h3⟩ := (hs.below B0.out).opened
  obtain ⟨ua, uc, rfl, u1, u2, u3⟩ := (hu.below B0.out).opened
  have HN := Lib.hid hlen
  clear hs hu hlen
  go_enter Try.func100, Try.ntmps100
  go_wp2_with (fail)
  obtain ⟨W, hW⟩ : ∃ W, W = w.alloc (.cells #[.int .i64 r.wide, .int .i64 r.tall, .slice a r.cells.length cap] 29) := ⟨_, rfl⟩
  rw [← hW] at B0 h3 u3 ⊢
  clear hW
  go_loop [10] (fun i => ∃ k : Nat, k ≤ r.cells.length ∧ i = .int .i64 k ∧ ∀ j, j < k → r.f j = true → L.getD j 0 ≠ 0) (fun i => r.cells.length - (intOf i).toNat)
  case atStart => exact ⟨0, Nat.zero_le _, rfl, fun _ h => by omega⟩
  case round =>
    obtain ⟨k, hk, rfl, hno⟩ := hrel
    have HD := Lib.hid hno
    clear hno
    by_cases hlt : k < r.cells.length
    · have hltL : k < L.length := by have := HN.out; omega
      rcases h3 with e | ⟨b, off, rfl, hb, hc⟩
      · rw [e] at hlt; simp at hlt
      rcases u3 with e | ⟨ub, uo, rfl, hub, huc⟩
      · rw [e] at hltL; simp at hltL
      have hck := hc k hlt
      have huk := huc k hltL
      obtain ⟨x, hx⟩ : ∃ x, L.getD k 0 = x := ⟨_, rfl⟩
      rw [hx] at huk
      have HX := Lib.hid hx
      clear hx hc huc
      cases hf : r.cells.getD k false
      · rw [hf] at hck
        have HD2 := Lib.hid (fun j (hj : j < k + 1) (hfj : r.f j = true) => show L.getD j 0 ≠ 0 by
          by_cases e : j = k
          · subst e; unfold Reg.f at hfj; rw [hf] at hfj; cases hfj
          · exact HD.out j (by omega) hfj)
        clear hf
        go_wp2
        go_round
        case rel => exact ⟨k + 1, by omega, by go_num, HD2.out⟩
        case measure => simp [intOf]; omega
      · rw [hf] at hck
        have HF := Lib.hid (show r.f k = true from hf)
        clear hf
        by_cases hx0 : x = 0
        · subst hx0
          have HNO := Lib.hid (fullB_no hlt HF.out HX.out)
          go_wp2
          go_ret
          exact ⟨ret_bool HNO.out.symm, B0.out⟩
        · have hxe : (x == 0) = false := by simpa using hx0
          have HD2 := Lib.hid (fun j (hj : j < k + 1) (hfj : r.f j = true) => show L.getD j 0 ≠ 0 by
            by_cases e : j = k
            · subst e; rw [HX.out]; exact hx0
            · exact HD.out j (by omega) hfj)
          go_wp2
          go_round
          case rel => exact ⟨k + 1, by omega, by go_num, HD2.out⟩
          case measure => simp [intOf]; omega
    · have e : k = r.cells.length := by omega
      subst e
      have HY := Lib.hid (fullB_iff.2 HD.out)
      clear h3 u3
      go_wp2
      go_ret
      exact ⟨ret_bool HY.out.symm, B0.out⟩
set_option maxHeartbeats 400000 in
theorem TilingOk_any (v u : Value) (r : Reg) (L : List Int) (w : World) (h : RegV w v r) (hu : Il w u L) : Calls Try.prog 56 #[v, u] w (Ret (.bool (tilingOk r L)) w) := by
  obtain ⟨a, cap, rfl, hs, hlc, hcm⟩ := h.opened
  have R0 := Lib.hid (RB.new hs)
  have B0 := Lib.hid (below_alloc w (.cells #[.int .i64 r.wide, .int .i64 r.tall, .slice a r.cells.length cap] 29))
  have HU := Lib.hid hu
  clear h hs hu
  go_enter Try.func56, Try.ntmps56
  go_wp2_with (fail)
  cases hk : laidOk r L
  · refine (LaidOk_is _ _ r L _ R0.out.v (HU.out.below B0.out) false hk).mono ?_
    rintro e w1 ⟨rfl, hb⟩
    have HB := Lib.hid (B0.out.trans (hb.mono B0.out.size))
    clear hb
    go_wp2
    go_ret
    exact ⟨ret_bool (by unfold tilingOk; rw [hk]; rfl), HB.out⟩
  · refine (LaidOk_is _ _ r L _ R0.out.v (HU.out.below B0.out) true hk).mono ?_
    rintro e w1 ⟨rfl, hb⟩
    have R1 := Lib.hid (R0.out.on hb)
    have HB := Lib.hid (B0.out.trans (hb.mono B0.out.size))
    have HK := Lib.hid hk
    obtain ⟨x0, x1, x2⟩ := R1.out.c3
    clear hb hk
    go_wp2_with (fail)
    refine (full_any _ u r L _ R1.out.v (HU.out.below HB.out) (laidOk_iff.1 HK.out).2.1).mono ?_
    rintro e w2 ⟨rfl, hb⟩
    have HB2 := Lib.hid (HB.out.trans (hb.mono HB.out.size))
    clear hb
    go_wp2
    go_ret
    exact ⟨ret_bool (by unfold tilingOk; rw [HK.out]; rfl), HB2.out⟩
end Go.Proofs.Ytbjenmfoblniaaa
