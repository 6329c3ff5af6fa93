/- Walks: free, lay, lift, LayOne, LiftOne of the program. -/
import Derived.Test.YtbjenmfoblniaaaVWone
import Derived.Test.YtbjenmfoblniaaaVWset
import Derived.Test.YtbjenmfoblniaaaZa
set_option linter.unusedVariables false
namespace Go.Proofs.Ytbjenmfoblniaaa
open Go.RowKit Domi

theorem has_is (v : Value) (r : Reg) (c : Int) (w : World) (h : RegV w v r) (b : Bool) (hb : inB c 0 (r.cells.length - 1) = b) :
    Calls Try.prog 81 #[v, .int .i64 c] w (Ret (.bool b) w) := by rw [← hb]; exact has_any v r c w h
set_option maxHeartbeats 2000000 in
theorem free_any (v u : Value) (r : Reg) (L : List Int) (c way : Int) (w : World) (h : RegV w v r) (hu : Il w u L) (hv : r.valid = true) (hlen : L.length = r.cells.length) :
    Calls Try.prog 75 #[v, u, .int .i64 c, .int .i64 way] w (Ret (.bool (free r L c way)) w) := by
  obtain ⟨v1, v2, v3, _⟩ := Reg.valid_iff.1 hv
  have hA := area_in v1 v2
  have hl1 : 0 < L.length := by omega
  obtain ⟨rb, ro, cap, rfl, hs, hrb, hrcell, hlc, hcm, _, hl36, hrea, _, _⟩ := h.valid_opened hv
  obtain ⟨ub, uo, uc, rfl, hub, hucell, hul, hum⟩ := Il.pos hu hl1
  have R0 := Lib.hid (RB.new hs)
  have B0 := Lib.hid (below_alloc w (.cells #[.int .i64 r.wide, .int .i64 r.tall, .slice (some ⟨rb, ro, none⟩) r.cells.length cap] 29))
  have HN := Lib.hid hlen
  have HRC := Lib.hid hrcell
  have HUC := Lib.hid hucell
  have HEA := Lib.hid hrea
  have HF := Lib.hid (free_iff (r := r) (L := L) (c := c) (way := way))
  have HNO : Hid ((¬ ((0 ≤ c ∧ c < r.cells.length) ∧ 0 ≤ stepI r c way ∧ r.f c.toNat = true ∧ r.f (stepI r c way).toNat = true ∧ L.getD c.toNat 0 = 0 ∧ L.getD (stepI r c way).toNat 0 = 0)) → free r L c way = false) := Lib.hid fun h => by
    cases e : free r L c way
    · rfl
    · exact absurd (HF.out.1 e) h
  clear h hs hu hrcell hucell hlen hrea v3
  go_enter Try.func75, Try.ntmps75
  go_wp2_with (fail)
  cases hc : inB c 0 (r.cells.length - 1)
  · refine (has_is _ r c _ R0.out.v false hc).mono ?_
    rintro e w1 ⟨rfl, hb⟩
    have HB := Lib.hid (B0.out.trans (hb.mono B0.out.size))
    have HR := Lib.hid (HNO.out fun h => by rw [inB_iff.2 (by omega)] at hc; cases hc)
    clear hb
    go_wp2
    go_ret
    exact ⟨ret_bool HR.out.symm, HB.out⟩
  refine (has_is _ r c _ R0.out.v true hc).mono ?_
  rintro e w1 ⟨rfl, hb⟩
  have R1 := Lib.hid (R0.out.on hb)
  have B1 := Lib.hid (B0.out.trans (hb.mono B0.out.size))
  have hcc := inB_iff.1 hc
  clear hb hc
  obtain ⟨k, rfl⟩ := Int.eq_ofNat_of_zero_le hcc.1
  obtain ⟨s, hs⟩ : ∃ s, stepI r k way = s := ⟨_, rfl⟩
  have HST := Lib.hid hs
  have hin : s = -1 ∨ (0 ≤ s ∧ s < r.wide * r.tall) := by rw [← hs]; exact stepI_in (by omega) (by omega) (by have := HEA.out; omega)
  have HKC := Lib.hid (show (k : Int) < r.wide * r.tall by have := HEA.out; omega)
  clear hs
  obtain ⟨x0, x1, x2⟩ := R1.out.c3
  go_wp2_with (fail)
  refine (step_is _ r _ _ s _ R1.out.v hv (by omega) HKC.out HST.out).mono ?_
  rintro e w2 ⟨rfl, hb⟩
  have R2 := Lib.hid (R1.out.on hb)
  have B2 := Lib.hid (B1.out.trans (hb.mono B1.out.size))
  clear hb x0 x1 x2
  obtain ⟨x0, x1, x2⟩ := R2.out.c3
  have sX := R2.out.lt
  have hrb2 : rb < w2.heap.size := Nat.lt_of_lt_of_le hrb B2.out.size
  have hub2 : ub < w2.heap.size := Nat.lt_of_lt_of_le hub B2.out.size
  by_cases hs0 : 0 ≤ s
  · obtain ⟨j, rfl⟩ := Int.eq_ofNat_of_zero_le hs0
    have hkl : k < r.cells.length := by omega
    have hjl : j < r.cells.length := by have := HEA.out; omega
    have hkL : k < L.length := by have := HN.out; omega
    have hjL : j < L.length := by have := HN.out; omega
    have hrk := HRC.out w2 B2.out k hkl
    have hrj := HRC.out w2 B2.out j hjl
    have huk := HUC.out w2 B2.out k hkL
    have huj := HUC.out w2 B2.out j hjL
    cases hf : r.cells.getD k false
    · rw [hf] at hrk
      have HR := Lib.hid (HNO.out fun h => by have := h.2.2.1; unfold Reg.f at this; rw [Int.toNat_natCast, hf] at this; cases this)
      clear hf
      go_wp2
      go_ret
      exact ⟨ret_bool HR.out.symm, B2.out⟩
    rw [hf] at hrk
    have HFk := Lib.hid (show r.f k = true from hf)
    clear hf
    cases hg : r.cells.getD j false
    · rw [hg] at hrj
      have HR := Lib.hid (HNO.out fun h => by have := h.2.2.2.1; unfold Reg.f at this; rw [HST.out, Int.toNat_natCast, hg] at this; cases this)
      clear hg
      go_wp2
      go_ret
      exact ⟨ret_bool HR.out.symm, B2.out⟩
    rw [hg] at hrj
    have HFj := Lib.hid (show r.f j = true from hg)
    clear hg
    obtain ⟨x, hx⟩ : ∃ x, L.getD k 0 = x := ⟨_, rfl⟩
    obtain ⟨y, hy⟩ : ∃ y, L.getD j 0 = y := ⟨_, rfl⟩
    rw [hx] at huk
    rw [hy] at huj
    have HX := Lib.hid hx
    have HY := Lib.hid hy
    clear hx hy
    by_cases hx0 : x = 0
    · by_cases hy0 : y = 0
      · subst hx0
        subst hy0
        have HR := Lib.hid (HF.out.2 ⟨by omega, by rw [HST.out]; omega, by rw [Int.toNat_natCast]; exact HFk.out, by rw [HST.out, Int.toNat_natCast]; exact HFj.out, by rw [Int.toNat_natCast]; exact HX.out, by rw [HST.out, Int.toNat_natCast]; exact HY.out⟩)
        go_wp2
        go_ret
        exact ⟨ret_bool HR.out.symm, B2.out⟩
      · have hye : (y == 0) = false := by simpa using hy0
        have HR := Lib.hid (HNO.out fun h => by have := h.2.2.2.2.2; rw [HST.out, Int.toNat_natCast, HY.out] at this; exact hy0 this)
        subst hx0
        go_wp2
        go_ret
        exact ⟨by first | exact ret_bool HR.out.symm | exact ret_bool (hye.trans HR.out.symm), B2.out⟩
    · have hxe : (x == 0) = false := by simpa using hx0
      have HR := Lib.hid (HNO.out fun h => by have := h.2.2.2.2.1; rw [Int.toNat_natCast, HX.out] at this; exact hx0 this)
      go_wp2
      go_ret
      exact ⟨ret_bool HR.out.symm, B2.out⟩
  · have hsn : ¬ 0 ≤ s := hs0
    have hdn : decide (0 ≤ s) = false := by simpa using hs0
    have HR := Lib.hid (HNO.out fun h => by have := h.2.1; rw [HST.out] at this; exact hs0 this)
    go_wp2
    go_ret
    exact ⟨ret_bool HR.out.symm, B2.out⟩

theorem free_is (v u : Value) (r : Reg) (L : List Int) (c way : Int) (w : World) (h : RegV w v r) (hu : Il w u L) (hv : r.valid = true) (hlen : L.length = r.cells.length) (b : Bool) (hb : free r L c way = b) :
    Calls Try.prog 75 #[v, u, .int .i64 c, .int .i64 way] w (Ret (.bool b) w) := by rw [← hb]; exact free_any v u r L c way w h hu hv hlen

set_option maxRecDepth 100000 in
set_option maxHeartbeats 2000000 in
theorem lay_own (v u : Value) (r : Reg) (L : List Int) (c : Nat) (way : Int) (w : World) (h : RegV w v r) (hu : Il w u L) (hk : laidOk r L = true) (hf : free r L c way = true) :
    Calls Try.prog 77 #[v, u, .int .i64 c, .int .i64 way] w fun e w' => ∃ v, e = .returned v ∧ Ow w' w.heap.size 3 v ((layL r L c way).map (Value.int .i64)) ∧ Below w.heap.size w w' := by
  obtain ⟨hv, hlen, _⟩ := laidOk_iff.1 hk
  obtain ⟨v1, v2, v3, _⟩ := Reg.valid_iff.1 hv
  have hA := area_in v1 v2
  have hl1 : 0 < L.length := by omega
  have hl36 : L.length ≤ 36 := by omega
  obtain ⟨a, cap, rfl, hs, hlc, hcm⟩ := h.opened
  have S0 := Lib.hid ((Sep.start w none).box #[.int .i64 r.wide, .int .i64 r.tall, .slice a r.cells.length cap] 29)
  have HS := Lib.hid hs
  have HU := Lib.hid hu
  have RV : Hid (∀ w', Below w.heap.size w w' → RegV w' (.agg #[.int .i64 r.wide, .int .i64 r.tall, .slice a r.cells.length cap]) r) := Lib.hid fun w' hb => ⟨_, rfl, HS.out.below hb⟩
  obtain ⟨ub, uo, uc, rfl, hub, hucell, hul, hum⟩ := Il.pos hu hl1
  have HUC := Lib.hid hucell
  have HN := Lib.hid hlen
  have HA3 := Lib.hid v3
  obtain ⟨t, F⟩ := free_at hk hf
  have HFQ := Lib.hid (layL_is F)
  have hck : c < L.length := F.hc
  have htk : t < L.length := F.ht
  have HST := Lib.hid F.hst
  have hway := F.hway
  have HKC := Lib.hid (show (c : Int) < r.wide * r.tall by omega)
  clear h hs hu hucell hlen v3 F hf
  go_enter Try.func77, Try.ntmps77
  go_wp2_with (fail)
  refine (clone_int _ L _ (HU.out.below S0.out.bel) hl1 (by omega)).mono ?_
  rintro e w1 ⟨v1', rfl, hcl, hb⟩
  obtain ⟨g, cur, rfl, hg1, hg2, ht, _⟩ := hcl
  rw [List.length_map] at ht
  rw [List.length_map]
  have S1 := Lib.hid (S0.out.cloned hb hg1 hg2)
  have T1 := Lib.hid ht
  clear hb hg1 hg2 ht S0
  obtain ⟨x0, x1, x2⟩ := S1.out.c3 0 rfl
  go_wp2_with (fail)
  refine (step_is _ r _ _ t _ (RV.out _ S1.out.bel) hv (by omega) HKC.out HST.out).mono ?_
  rintro e w2 ⟨rfl, hb⟩
  have S2 := Lib.hid (S1.out.below hb)
  clear hb S1 x0 x1 x2
  go_wp2_with (fail)
  refine (back_any way _ hway).mono ?_
  rintro e w3 ⟨rfl, hb⟩
  have S3 := Lib.hid (S2.out.below hb)
  clear hb S2
  obtain ⟨z, z1, z2, _⟩ := box_cell (S3.out.blk 1 rfl) T1.out (k := c) (by rw [List.length_map]; exact hck)
  have S4 := Lib.hid (S3.out.put 1 rfl c (.int .i64 way))
  have T2 := Lib.hid (take_put (k := c) (v := .int .i64 way) T1.out)
  rw [← List.map_set] at T2
  obtain ⟨y, y1, y2, _⟩ := box_cell (S4.out.blk 1 rfl) T2.out (k := t) (by rw [List.length_map, List.length_set]; exact htk)
  have S5 := Lib.hid (S4.out.put 1 rfl t (.int .i64 (backI way)))
  have T3 := Lib.hid (take_put (k := t) (v := .int .i64 (backI way)) T2.out)
  rw [← List.map_set, ← HFQ.out] at T3
  have sg := S3.out.lt 1 rfl rfl
  clear T1 T2 S3 S4
  go_wp2
  go_ret
  have hll : ((layL r L c way).map (Value.int .i64)).length = L.length := by rw [List.length_map, layL_len]
  exact ⟨.slice (some ⟨g, 0, none⟩) L.length L.length, rfl, .inr ⟨g, L.length, _, by rw [hll], S5.out.ge 1 rfl rfl, S5.out.blk 1 rfl, by omega, by omega, by rw [hll]; exact T3.out⟩, S5.out.bel⟩
theorem lay_any (v u : Value) (r : Reg) (L : List Int) (c : Nat) (way : Int) (w : World) (h : RegV w v r) (hu : Il w u L) (hk : laidOk r L = true) (hf : free r L c way = true) :
    Calls Try.prog 77 #[v, u, .int .i64 c, .int .i64 way] w (RetI (layL r L c way) w) :=
  (lay_own v u r L c way w h hu hk hf).mono fun e w' ⟨v', he, ho, hb⟩ => ⟨v', he, ho.sl, hb⟩

end Go.Proofs.Ytbjenmfoblniaaa
