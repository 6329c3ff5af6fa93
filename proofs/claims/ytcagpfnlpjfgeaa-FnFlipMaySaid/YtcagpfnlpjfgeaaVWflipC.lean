/- Walks: FlipOne, flips, FlipsOf, Frozen of the program. -/
import Derived.Test.YtcagpfnlpjfgeaaVWflipB
import Derived.Test.YtcagpfnlpjfgeaaVWmany
import Derived.Test.YtcagpfnlpjfgeaaVWex
import Derived.Test.YtcagpfnlpjfgeaaZb
set_option linter.unusedVariables false
namespace Go.Proofs.Ytcagpfnlpjfgeaa
open Go.RowKit Domi

theorem TilingOk_is (v u : Value) (r : Reg) (L : List Int) (w : World) (h : RegV w v r) (hu : Il w u L) (b : Bool) (hb : tilingOk r L = b) : Calls Try.prog 16 #[v, u] w (Ret (.bool b) w) := by rw [← hb]; exact TilingOk_any v u r L w h hu
set_option maxHeartbeats 400000 in
theorem FlipOne_any (v u : Value) (r : Reg) (L : List Int) (c : Int) (w : World) (h : RegV w v r) (hu : Il w u L) (hc : -9223372036854775808 ≤ c ∧ c ≤ 9223372036854775807) :
    Calls Try.prog 55 #[v, u, .int .i64 c] w (RetWB (flipOne r L c) w) := by
  obtain ⟨a, cap, rfl, hs, hlc, hcm⟩ := h.opened
  have R0 := Lib.hid (RB.new hs)
  have B0 := Lib.hid (below_alloc w (.cells #[.int .i64 r.wide, .int .i64 r.tall, .slice a r.cells.length cap] 25))
  have HU := Lib.hid hu
  clear h hs hu
  go_enter Try.func55, Try.ntmps55
  go_wp2_with (fail)
  cases hk : laidOk r L
  · refine (LaidOk_is _ _ r L _ R0.out.v (HU.out.below B0.out) false hk).mono ?_
    rintro e w1 ⟨rfl, hb⟩
    have B1 := Lib.hid (B0.out.trans (hb.mono B0.out.size))
    have E : Hid (flipOne r L c = ([], false)) := Lib.hid (by unfold flipOne; rw [hk]; rfl)
    clear hb
    go_wp2
    go_ret2
    exact retWB_mk E.out (.inl ⟨rfl, rfl⟩) B1.out
  · refine (LaidOk_is _ _ r L _ R0.out.v (HU.out.below B0.out) true hk).mono ?_
    rintro e w1 ⟨rfl, hb⟩
    have R1 := Lib.hid (R0.out.on hb)
    have B1 := Lib.hid (B0.out.trans (hb.mono B0.out.size))
    have E : Hid (flipOne r L c = (flipL r L c, canFl r L c)) := Lib.hid (by unfold flipOne; rw [hk]; rfl)
    obtain ⟨hv, hlen, _⟩ := laidOk_iff.1 hk
    have HN := Lib.hid hlen
    clear hb R0 hlen
    obtain ⟨x0, x1, x2⟩ := R1.out.c3
    go_wp2_with (fail)
    refine (flip_any _ _ r L c _ R1.out.v (HU.out.below B1.out) hv HN.out hc).mono ?_
    rintro e w2 ⟨v2, rfl, ho, hb⟩
    have B2 := Lib.hid (B1.out.trans (hb.mono B1.out.size))
    have HO := Lib.hid (ho.mono B1.out.size)
    clear hb ho R1 x0 x1 x2
    go_wp2
    go_ret2
    exact retWB_mk E.out HO.out B2.out

theorem anyCorner_any (c : Int) (w : World) : Calls Try.prog 94 #[.int .i64 c] w (Ret (.bool true) w) := by
  go_enter Try.func94, Try.ntmps94
  go_wp2
  go_ret
  exact ⟨rfl, Below.refl _ _⟩
set_option maxHeartbeats 400000 in
theorem Clip_ints (a : Option Addr) (n c : Nat) (hn : n ≤ c) (hc : c ≤ 9223372036854775807) (w : World) (ha : a = none ∧ c = 0 ∨ ∃ g, a = some ⟨g, 0, none⟩) :
    Calls Try.prog 75 #[.slice a n c] w fun e w' => e = .returned (.slice a n n) ∧ w = w' := by
  rcases ha with ⟨rfl, rfl⟩ | ⟨g, rfl⟩
  · obtain rfl : n = 0 := by omega
    go_enter Try.func75, Try.ntmps75
    go_wp2
    go_ret
    exact ⟨rfl, rfl⟩
  · go_enter Try.func75, Try.ntmps75
    go_wp2
    go_ret
    exact ⟨rfl, rfl⟩

/-- The corners below k that can be flipped. -/
def flipsK (r : Reg) (L : List Int) (k : Nat) : List Int := ((List.range k).filter (fun k => canFl r L (k : Nat))).map Int.ofNat
theorem flipsK_yes {r : Reg} {L : List Int} {k : Nat} (h : canFl r L (k : Nat) = true) : flipsK r L (k + 1) = flipsK r L k ++ [(k : Int)] := by
  unfold flipsK; rw [List.range_succ, List.filter_append, List.map_append]; simp [h]
theorem flipsK_no {r : Reg} {L : List Int} {k : Nat} (h : canFl r L (k : Nat) = false) : flipsK r L (k + 1) = flipsK r L k := by
  unfold flipsK; rw [List.range_succ, List.filter_append, List.map_append]; simp [h]
theorem flipsK_len (r : Reg) (L : List Int) (k : Nat) : (flipsK r L k).length ≤ k := by
  unfold flipsK; rw [List.length_map]; exact Nat.le_trans (List.length_filter_le _ _) (by simp)
def FkS (w : World) (r : Reg) (s v : Value) (L : List Int) (k : Nat) : List It := [.box w.heap.size #[.int .i64 r.wide, .int .i64 r.tall, s] 25, .row 3 v ((flipsK r L k).map (Value.int .i64))]
theorem fkS_app {w wr w5 : World} {r : Reg} {s : Value} {a : Option Addr} {n c : Nat} {L : List Int} {k g c2 : Nat} (h : Sep w none wr (FkS w r s (.slice a n c) L k)) (hc : canFl r L (k : Nat) = true)
    (A : App wr 0 3 (.slice a n c) ((flipsK r L k).map (Value.int .i64)) (.int .i64 k) g c2 w5) (hn : n = (flipsK r L k).length) : Sep w none w5 (FkS w r s (.slice (some ⟨g, 0, none⟩) (n + 1) c2) L (k + 1)) := by
  have := h.app 1 rfl A
  rw [List.length_map, ← hn] at this
  unfold FkS
  rw [flipsK_yes hc, List.map_append]
  exact this
set_option maxRecDepth 100000 in
set_option maxHeartbeats 4000000 in
theorem flips_any (v u : Value) (r : Reg) (L : List Int) (w : World) (h : RegV w v r) (hu : Il w u L) (hv : r.valid = true) (hlen : L.length = r.cells.length) :
    Calls Try.prog 93 #[v, u, .func (.func 94) #[] #[]] w (RetW (flipsL r L) w) := by
  have hbd := corners_bd hv
  obtain ⟨n, hn⟩ := Int.eq_ofNat_of_zero_le (show 0 ≤ corners r by omega)
  have hn49 : n ≤ 49 := by omega
  have HE : Hid (flipsL r L = flipsK r L n) := Lib.hid (by unfold flipsL flipsK; rw [hn]; rfl)
  obtain ⟨ra, rc, rfl, hs, hlc, hcm⟩ := h.opened
  have S0 := Lib.hid (((Sep.start w none).box #[.int .i64 r.wide, .int .i64 r.tall, .slice ra r.cells.length rc] 25).nil 3)
  have HS := Lib.hid hs
  have HU := Lib.hid hu
  have RV : Hid (∀ w', Below w.heap.size w w' → RegV w' (.agg #[.int .i64 r.wide, .int .i64 r.tall, .slice ra r.cells.length rc]) r) := Lib.hid fun w' hb => ⟨_, rfl, HS.out.below hb⟩
  have HN := Lib.hid hlen
  have HC := Lib.hid hn
  clear h hs hu hlen hbd hn
  go_enter Try.func93, Try.ntmps93
  go_wp2_with (fail)
  refine (corners_any _ r _ (RV.out _ S0.out.bel) hv).mono ?_
  rintro e w1 ⟨rfl, hb⟩
  rw [HC.out]
  have S1 : Hid (Sep w none w1 (FkS w r (.slice ra r.cells.length rc) (.slice none 0 0) L 0)) := Lib.hid (S0.out.below hb)
  clear hb S0
  go_wp2_with (fail)
  go_loopw [7, 13] (fun o i wr => ∃ (k m : Nat) (a : Option Addr) (c : Nat), k ≤ n ∧ i = .int .i64 k ∧ o = .slice a m c ∧ m = (flipsK r L k).length ∧ Sep w none wr (FkS w r (.slice ra r.cells.length rc) (.slice a m c) L k)) (fun _ i _ => n - (intOf i).toNat)
  case atStart => exact ⟨0, 0, none, 0, Nat.zero_le _, rfl, rfl, rfl, S1.out⟩
  case round =>
    clear S1
    obtain ⟨k, m, a, c, hk, rfl, rfl, hm, S⟩ := hrel
    have HD := Lib.hid S
    have HM := Lib.hid hm
    have hmk : m ≤ 49 := by rw [hm]; exact Nat.le_trans (flipsK_len r L k) (by omega)
    clear S hm
    by_cases hlt : k < n
    · obtain ⟨f, hf⟩ : ∃ f, flatC r L (k : Nat) = f := ⟨_, rfl⟩
      obtain ⟨g, hg⟩ : ∃ g, uprC r L (k : Nat) = g := ⟨_, rfl⟩
      have HCF : Hid (canFl r L (k : Nat) = (f || g)) := Lib.hid (by unfold canFl; rw [hf, hg])
      have HF := Lib.hid hf
      have HG := Lib.hid hg
      clear hf hg
      have hlt' : (k : Int) < (n : Int) := by omega
      obtain ⟨x0, x1, x2⟩ := HD.out.c3 0 rfl
      go_wp2_with (fail)
      refine (flippable_any _ _ r L k _ (RV.out _ HD.out.bel) (HU.out.below HD.out.bel) hv HN.out (by omega) f g HF.out HG.out).mono ?_
      rintro e w2 ⟨rfl, hb⟩
      have S2 := Lib.hid (HD.out.below hb)
      clear hb HD x0 x1 x2 HF HG
      cases f
      · cases g
        · have N : Hid (flipsK r L (k + 1) = flipsK r L k) := Lib.hid (flipsK_no HCF.out)
          clear HCF
          go_wp2
          go_roundw
          case rel => exact ⟨k + 1, m, a, c, by omega, by go_num, rfl, by rw [N.out]; exact HM.out, by have := S2.out; unfold FkS at this ⊢; rw [N.out]; exact this⟩
          case measure => simp [intOf]; omega
        · have HT : Hid (canFl r L (k : Nat) = true) := Lib.hid HCF.out
          clear HCF
          go_wp2_with (fail)
          refine (anyCorner_any _ _).mono ?_
          rintro e w3 ⟨rfl, hb⟩
          have S3 := Lib.hid (S2.out.below hb)
          clear hb S2
          go_wp2_with (at_builtin; refine list_app elem_ints 0 (.slice a m c) ((flipsK r L k).map (Value.int .i64)) ?_ w3.heap.size (.int .i64 k) (.tmp 32) (.tmp 34) rfl rfl rfl rfl (heap_alloc_new _ _) rfl ?_ (Nat.zero_le _) ?_; exact Own.alloc (S3.out.own 1 rfl) _; (rw [List.length_map, ← HM.out]; omega); intro g2 c2 w5 A5; (have S5 := Lib.hid (fkS_app (S3.out.alloc _) HT.out A5 HM.out)); clear A5 S3; rw [List.length_map, ← HM.out])
          go_roundw
          case rel => exact ⟨k + 1, m + 1, some ⟨g2, 0, none⟩, c2, by omega, by go_num, rfl, by rw [flipsK_yes HT.out, List.length_append, ← HM.out]; rfl, S5.out⟩
          case measure => simp [intOf]; omega
      · have HT : Hid (canFl r L (k : Nat) = true) := Lib.hid HCF.out
        clear HCF
        go_wp2_with (fail)
        refine (anyCorner_any _ _).mono ?_
        rintro e w3 ⟨rfl, hb⟩
        have S3 := Lib.hid (S2.out.below hb)
        clear hb S2
        go_wp2_with (at_builtin; refine list_app elem_ints 0 (.slice a m c) ((flipsK r L k).map (Value.int .i64)) ?_ w3.heap.size (.int .i64 k) (.tmp 32) (.tmp 34) rfl rfl rfl rfl (heap_alloc_new _ _) rfl ?_ (Nat.zero_le _) ?_; exact Own.alloc (S3.out.own 1 rfl) _; (rw [List.length_map, ← HM.out]; omega); intro g2 c2 w5 A5; (have S5 := Lib.hid (fkS_app (S3.out.alloc _) HT.out A5 HM.out)); clear A5 S3; rw [List.length_map, ← HM.out])
        go_roundw
        case rel => exact ⟨k + 1, m + 1, some ⟨g2, 0, none⟩, c2, by omega, by go_num, rfl, by rw [flipsK_yes HT.out, List.length_append, ← HM.out]; rfl, S5.out⟩
        case measure => simp [intOf]; omega
    · have e : k = n := by omega
      subst e
      have HO := Lib.hid (HD.out.high 1 rfl)
      have HW := Lib.hid (show Ow wr w.heap.size 3 (.slice a m m) ((flipsK r L k).map (Value.int .i64)) from by
        rcases Ow.of_owns HO.out with ⟨e, h0⟩ | ⟨g, cap, cur, e, hB, hg, h1, h2, h3⟩
        · simp only [Value.slice.injEq] at e
          obtain ⟨rfl, rfl, rfl⟩ := e
          exact .inl ⟨rfl, h0⟩
        · simp only [Value.slice.injEq] at e
          obtain ⟨rfl, e2, rfl⟩ := e
          exact .inr ⟨g, _, cur, by rw [← e2], hB, hg, by rw [← e2]; exact Nat.le_refl _, by omega, h3⟩)
      have hca : (a = none ∧ c = 0 ∨ ∃ g, a = some ⟨g, 0, none⟩) ∧ m ≤ c ∧ c ≤ 9223372036854775807 := by
        rcases Ow.of_owns HO.out with ⟨e, h0⟩ | ⟨g, cap, cur, e, hB, hg, h1, h2, h3⟩
        · simp only [Value.slice.injEq] at e
          obtain ⟨rfl, rfl, rfl⟩ := e
          exact ⟨.inl ⟨rfl, rfl⟩, by omega, by omega⟩
        · simp only [Value.slice.injEq] at e
          obtain ⟨rfl, e2, rfl⟩ := e
          exact ⟨.inr ⟨g, rfl⟩, by omega, h2⟩
      go_wp2_with (fail)
      refine (Clip_ints a m c hca.2.1 hca.2.2 _ hca.1).mono ?_
      rintro e w5 ⟨rfl, rfl⟩
      clear hca
      go_wp2
      go_ret
      exact ⟨_, rfl, by rw [HE.out]; exact HW.out, HD.out.bel⟩

theorem flipsL_len {r : Reg} (hv : r.valid = true) (L : List Int) : (flipsL r L).length ≤ 49 := by
  have hbd := corners_bd hv
  unfold flipsL
  rw [List.length_map]
  refine Nat.le_trans (List.length_filter_le _ _) ?_
  rw [List.length_range]; omega
set_option maxHeartbeats 400000 in
theorem FlipsOf_any (v u : Value) (r : Reg) (L : List Int) (w : World) (h : RegV w v r) (hu : Il w u L) : Calls Try.prog 50 #[v, u] w (RetW (flipsOf r L) w) := by
  obtain ⟨a, cap, rfl, hs, hlc, hcm⟩ := h.opened
  have R0 := Lib.hid (RB.new hs)
  have B0 := Lib.hid (below_alloc w (.cells #[.int .i64 r.wide, .int .i64 r.tall, .slice a r.cells.length cap] 25))
  have HU := Lib.hid hu
  clear h hs hu
  go_enter Try.func50, Try.ntmps50
  go_wp2_with (fail)
  cases hk : laidOk r L
  · refine (LaidOk_is _ _ r L _ R0.out.v (HU.out.below B0.out) false hk).mono ?_
    rintro e w1 ⟨rfl, hb⟩
    have B1 := Lib.hid (B0.out.trans (hb.mono B0.out.size))
    have E : Hid (flipsOf r L = []) := Lib.hid (by unfold flipsOf; rw [hk]; rfl)
    clear hb
    go_wp2
    go_ret
    exact ⟨_, rfl, by rw [E.out]; exact .inl ⟨rfl, rfl⟩, B1.out⟩
  · refine (LaidOk_is _ _ r L _ R0.out.v (HU.out.below B0.out) true hk).mono ?_
    rintro e w1 ⟨rfl, hb⟩
    have R1 := Lib.hid (R0.out.on hb)
    have B1 := Lib.hid (B0.out.trans (hb.mono B0.out.size))
    have E : Hid (flipsOf r L = flipsL r L) := Lib.hid (by unfold flipsOf; rw [hk]; rfl)
    obtain ⟨hv, hlen, _⟩ := laidOk_iff.1 hk
    have HN := Lib.hid hlen
    clear hb R0 hlen
    obtain ⟨x0, x1, x2⟩ := R1.out.c3
    go_wp2_with (fail)
    refine (flips_any _ _ r L _ R1.out.v (HU.out.below B1.out) hv HN.out).mono ?_
    rintro e w2 ⟨v2, rfl, ho, hb⟩
    have B2 := Lib.hid (B1.out.trans (hb.mono B1.out.size))
    have HO := Lib.hid (ho.mono B1.out.size)
    clear hb ho R1 x0 x1 x2
    go_wp2
    go_ret
    exact ⟨_, rfl, by rw [E.out]; exact HO.out, B2.out⟩

/-- Can a tiling be flipped nowhere? -/
def frozenB (r : Reg) (L : List Int) : Bool := tilingOk r L && decide ((flipsL r L).length = 0)
set_option maxHeartbeats 1000000 in
theorem Frozen_any (v u : Value) (r : Reg) (L : List Int) (w : World) (h : RegV w v r) (hu : Il w u L) (b : Bool) (hb0 : frozenB r L = b) : Calls Try.prog 48 #[v, u] w (Ret (.bool b) w) := by
  obtain ⟨a, cap, rfl, hs, hlc, hcm⟩ := h.opened
  have R0 := Lib.hid (RB.new hs)
  have B0 := Lib.hid (below_alloc w (.cells #[.int .i64 r.wide, .int .i64 r.tall, .slice a r.cells.length cap] 25))
  have HU := Lib.hid hu
  have HB := Lib.hid hb0
  clear h hs hu hb0
  go_enter Try.func48, Try.ntmps48
  go_wp2_with (fail)
  cases hk : tilingOk r L
  · refine (TilingOk_is _ _ r L _ R0.out.v (HU.out.below B0.out) false hk).mono ?_
    rintro e w1 ⟨rfl, hb⟩
    have B1 := Lib.hid (B0.out.trans (hb.mono B0.out.size))
    have E : Hid (b = false) := Lib.hid (by rw [← HB.out]; unfold frozenB; rw [hk]; rfl)
    clear hb
    go_wp2
    go_ret
    exact ⟨ret_bool E.out.symm, B1.out⟩
  · refine (TilingOk_is _ _ r L _ R0.out.v (HU.out.below B0.out) true hk).mono ?_
    rintro e w1 ⟨rfl, hb⟩
    have R1 := Lib.hid (R0.out.on hb)
    have B1 := Lib.hid (B0.out.trans (hb.mono B0.out.size))
    have E : Hid (b = decide ((flipsL r L).length = 0)) := Lib.hid (by rw [← HB.out]; unfold frozenB; rw [hk]; rfl)
    obtain ⟨hv, hlen, _⟩ := laidOk_iff.1 (tilingOk_iff.1 hk).1
    have HN := Lib.hid hlen
    clear hb R0 hlen
    obtain ⟨x0, x1, x2⟩ := R1.out.c3
    go_wp2_with (fail)
    refine (flips_any _ _ r L _ R1.out.v (HU.out.below B1.out) hv HN.out).mono ?_
    rintro e w2 ⟨v2, rfl, ho, hb⟩
    have B2 := Lib.hid (B1.out.trans (hb.mono B1.out.size))
    obtain ⟨a2, c2, rfl⟩ := ho.formM
    clear hb ho R1 x0 x1 x2
    generalize (flipsL r L).length = m at *
    by_cases hm : m = 0
    · subst hm
      go_wp2
      go_ret
      exact ⟨ret_bool E.out.symm, B2.out⟩
    · have G : Hid (b = false) := Lib.hid (by rw [E.out]; exact decide_eq_false hm)
      have hm' : ((m : Int) == 0) = false := by simpa using hm
      go_wp2
      go_ret
      exact ⟨ret_bool G.out.symm, B2.out⟩
end Go.Proofs.Ytcagpfnlpjfgeaa
