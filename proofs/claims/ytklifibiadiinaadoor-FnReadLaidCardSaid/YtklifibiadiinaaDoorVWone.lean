/- Walks: LaidBare, LayOne, LiftOne of the reference. -/
import Derived.Test.YtklifibiadiinaaDoorVWlaid
import Derived.Test.YtklifibiadiinaaDoorZa
set_option linter.unusedVariables false
namespace Go.Proofs.YtklifibiadiinaaDoor
open Go.RowKit Domi

/-- A list of the call's own, and a list with a mark. -/
def RetL (L : List Int) (w : World) (e : Ending) (w' : World) : Prop := ∃ v, e = .returned v ∧ Own w' w.heap.size 3 v (L.map (Value.int .i64)) ∧ Below w.heap.size w w'
def RetLB (q : List Int × Bool) (w : World) (e : Ending) (w' : World) : Prop := ∃ v, e = .returned (.tuple #[v, .bool q.2]) ∧ Own w' w.heap.size 3 v (q.1.map (Value.int .i64)) ∧ Below w.heap.size w w'
theorem int_cells (L : List Int) : ∀ x ∈ L.map (Value.int .i64), x.oneCell' = true := by simp; intros; rfl
theorem own_empty {w W : World} (h : Below w.heap.size w W) : Own (W.alloc (.cells #[] 3)) w.heap.size 3 (.slice (some ⟨W.heap.size, 0, none⟩) 0 0) (([] : List Int).map (Value.int .i64)) :=
  ((Sep.start W none).empty 3).high 0 rfl |>.mono h.size
theorem own_num {w : World} {B : Nat} {e : TypeId} {g n c : Nat} {L : List Int} (h : Own w B e (.slice (some ⟨g, 0, none⟩) n c) (L.map (Value.int .i64))) {j : Nat} (hj : j < L.length) :
    w.cell? ⟨g, j, none⟩ = some (.int .i64 (L.getD j 0)) ∧ w.frozen? ⟨g, j, none⟩ = false ∧ g < w.heap.size := by
  have hn : n = L.length := by obtain ⟨_, _, _, hn, _⟩ := h.block; simpa using hn
  obtain ⟨h1, h2, h3⟩ := h.cell j (by omega)
  refine ⟨?_, h2, h3⟩
  rw [h1, List.getElem?_map, List.getElem?_eq_getElem hj, ← Domi.get_at L 0 j hj]; rfl
theorem own_il {w : World} {B : Nat} {v : Value} {L : List Int} (h : Own w B 3 v (L.map (Value.int .i64))) : Il w v L := h.sl
theorem below_two {w W : World} (h : Below w.heap.size w W) (o : Obj) : Below w.heap.size w (W.alloc o) := h.alloc h.size o
theorem boolp_one {P : Prop} (q : List Int × Bool) (x : List Int) (b : Bool) (h : q = (x, b)) {w w' : World} {v : Value} (ho : Own w' w.heap.size 3 v (x.map (Value.int .i64))) (hb : Below w.heap.size w w') : RetLB q w (.returned (.tuple #[v, .bool b])) w' := by
  subst h; exact ⟨v, rfl, ho, hb⟩

set_option maxHeartbeats 400000 in
theorem sLaidBare_any (v : Value) (r : Reg) (w : World) (h : RegV w v r) : Calls Tryd.prog 47 #[v] w (RetL (bareL r) w) := by
  obtain ⟨a, cap, rfl, hs, hlc, hcm⟩ := h.opened
  have R0 := Lib.hid (RB.new hs)
  have B0 := Lib.hid (below_alloc w (.cells #[.int .i64 r.wide, .int .i64 r.tall, .slice a r.cells.length cap] 25))
  clear h hs
  cases hv : r.valid
  · rw [bareL_no hv]
    go_enter Tryd.func47, Tryd.ntmps47
    go_wp2_with (fail)
    refine (sRegionValid_is _ r _ R0.out.v false hv).mono ?_
    rintro e w1 ⟨rfl, hb⟩
    have HB := Lib.hid (B0.out.trans (hb.mono B0.out.size))
    clear hb
    go_wp2
    go_ret
    exact ⟨_, rfl, own_empty HB.out, below_two HB.out _⟩
  · have hl36 : r.cells.length ≤ 36 := by
      obtain ⟨b1, b2, b3, b4⟩ := Reg.valid_iff.1 hv
      have := area_in b1 b2
      omega
    rw [bareL_yes hv]
    go_enter Tryd.func47, Tryd.ntmps47
    go_wp2_with (fail)
    refine (sRegionValid_is _ r _ R0.out.v true hv).mono ?_
    rintro e w1 ⟨rfl, hb⟩
    have R1 := Lib.hid (R0.out.on hb)
    have HB := Lib.hid (B0.out.trans (hb.mono B0.out.size))
    obtain ⟨x0, x1, x2⟩ := R1.out.c3
    clear hb
    go_wp2_with (at_make; refine list_make elem_ints (.int .i64 0) zero_int rfl r.cells.length (.tmp 9) (.tmp 9) rfl rfl (r.cells.length : Int) ?_ ?_ rfl ?_ ?_ ?_; rfl; rfl; omega; omega; intro cs hcs)
    go_ret
    refine ⟨_, rfl, ?_, below_two HB.out _⟩
    have := ((Sep.start w1 none).made (e := 3) hcs (by omega)).high 0 rfl
    rw [List.map_replicate]
    exact this.mono HB.out.size

set_option maxRecDepth 100000 in
set_option maxHeartbeats 4000000 in
theorem sLayOne_any (v u : Value) (r : Reg) (L : List Int) (c way : Int) (w : World) (h : RegV w v r) (hu : Il w u L) :
    Calls Tryd.prog 48 #[v, u, .int .i64 c, .int .i64 way] w (RetLB (layOne r L c way) w) := by
  obtain ⟨a, cap, rfl, hs, hlc, hcm⟩ := h.opened
  have S0 := Lib.hid ((Sep.start w none).box #[.int .i64 r.wide, .int .i64 r.tall, .slice a r.cells.length cap] 25)
  have HS := Lib.hid hs
  have HU := Lib.hid hu
  obtain ⟨ua, uc, rfl, hul, hum, _⟩ := hu.opened
  have RV : Hid (∀ w', Below w.heap.size w w' → RegV w' (.agg #[.int .i64 r.wide, .int .i64 r.tall, .slice a r.cells.length cap]) r) := Lib.hid fun w' hb => ⟨_, rfl, HS.out.below hb⟩
  clear h hs hu
  cases hk : laidOk r L
  · skip
    go_enter Tryd.func48, Tryd.ntmps48
    go_wp2_with (fail)
    refine (sLaidOk_is _ _ r L _ (RV.out _ S0.out.bel) (HU.out.below S0.out.bel) false hk).mono ?_
    rintro e w1 ⟨rfl, hb⟩
    have S1 := Lib.hid (S0.out.below hb)
    clear hb
    go_wp2
    go_ret2
    exact boolp_one (P := True) _ _ _ (layOne_no hk) (own_empty S1.out.bel) (below_two S1.out.bel _)
  · skip
    have hl36 : r.cells.length ≤ 36 := by
      obtain ⟨b1, b2, b3, b4⟩ := Reg.valid_iff.1 (laidOk_iff.1 hk).1
      have := area_in b1 b2
      omega
    have hv := (laidOk_iff.1 hk).1
    have hlen := (laidOk_iff.1 hk).2.1
    have hL1 : 0 < L.length := by
      obtain ⟨b1, b2, b3, b4⟩ := Reg.valid_iff.1 hv
      have := area_in b1 b2
      omega
    have hL36 : L.length ≤ 36 := by omega
    have HK := Lib.hid hk
    obtain ⟨rb, ro, rcap, hre, -, hrb, hrcell, -, -, -, -, hrea, hrw, hrt⟩ := (RV.out w (Below.refl _ _)).valid_opened hv
    obtain ⟨rfl, rfl⟩ : a = some ⟨rb, ro, none⟩ ∧ cap = rcap := by simpa using hre
    obtain ⟨ub, uo, uc', hue, hub, hucell, -, -⟩ := Il.pos HU.out hL1
    obtain ⟨rfl, rfl⟩ : ua = some ⟨ub, uo, none⟩ ∧ uc = uc' := by simpa using hue
    have HRC := Lib.hid hrcell
    have HUC := Lib.hid hucell
    have HEA := Lib.hid hrea
    have HN := Lib.hid hlen
    clear hre hue hrcell hucell hrea hlen
    clear hk
    go_enter Tryd.func48, Tryd.ntmps48
    go_wp2_with (fail)
    refine (sLaidOk_is _ _ r L _ (RV.out _ S0.out.bel) (HU.out.below S0.out.bel) true HK.out).mono ?_
    rintro e w1 ⟨rfl, hb⟩
    have S1 := Lib.hid (S0.out.below hb)
    clear hb
    have H1c := Lib.hid (int_cells L)
    have S2 : Hid (Sep w none (w1.alloc (.cells #[] 3)) [.box w.heap.size #[.int .i64 r.wide, .int .i64 r.tall, .slice (some ⟨rb, ro, none⟩) r.cells.length cap] 25, .row 3 (.slice (some ⟨w1.heap.size, 0, none⟩) 0 0) []]) := Lib.hid (S1.out.empty 3)
    clear S0 S1
    go_wp2_with (at_builtin; refine list_copy elem_ints _ (S2.out.own 1 rfl) _ (L.map (Value.int .i64)) (HU.out.below S2.out.bel) L.length (by rw [List.length_map]) hL1 (.tmp 17) (.tmp 18) rfl rfl rfl rfl H1c.out (by omega) ?_; intro g c2 w5 A5; (have S5 := Lib.hid (S2.out.copied 1 rfl A5)); (have L5 := Lib.hid (And.intro A5.le A5.max)); clear A5; obtain ⟨x0, x1, x2⟩ := S5.out.c3 0 rfl)
    clear S2
    refine (StepTo_any _ r c way _ (RV.out _ S5.out.bel)).mono ?_
    rintro e w6 ⟨rfl, hb⟩
    have S6 := Lib.hid (S5.out.below hb)
    clear hb S5 x0 x1 x2
    have hrb6 : rb < w6.heap.size := Nat.lt_of_lt_of_le hrb S6.out.bel.size
    have hub6 : ub < w6.heap.size := Nat.lt_of_lt_of_le hub S6.out.bel.size
    obtain ⟨x0, x1, x2⟩ := S6.out.c3 0 rfl
    have sX := S6.out.lt 0 rfl rfl
    obtain ⟨s, hs⟩ : ∃ s, stepTo r c way = s := ⟨_, rfl⟩
    rw [hs]
    have HST := Lib.hid hs
    clear hs
    by_cases hs0 : 0 ≤ s
    · have hsn : ¬ s < 0 := by omega
      have hc : inB c 0 (r.cells.length - 1) = true := by
        cases e : inB c 0 (r.cells.length - 1)
        · have := HST.out; rw [stepTo_no (.inr (.inl e))] at this; omega
        · rfl
      have hw : inB way 1 4 = true := by
        cases e : inB way 1 4
        · have := HST.out; rw [stepTo_no (.inr (.inr e))] at this; omega
        · rfl
      have HSI := Lib.hid (show stepI r c way = s by have := HST.out; rw [stepTo_yes hv hc hw] at this; exact this)
      have hcc := inB_iff.1 hc
      have hww := inB_iff.1 hw
      clear hc hw
      obtain ⟨k, rfl⟩ := Int.eq_ofNat_of_zero_le hcc.1
      obtain ⟨j, rfl⟩ := Int.eq_ofNat_of_zero_le hs0
      have hkl : k < r.cells.length := by omega
      have hjl : j < r.cells.length := by
        have := stepI_in (r := r) (c := (k : Int)) (way := way) (by omega) (by omega) (by have := HEA.out; omega)
        rw [HSI.out] at this
        have := HEA.out
        omega
      have hkL : k < L.length := by have := HN.out; omega
      have hjL : j < L.length := by have := HN.out; omega
      have HF := Lib.hid (free_iff (r := r) (L := L) (c := (k : Int)) (way := way))
      have hrk := HRC.out w6 S6.out.bel k hkl
      have hrj := HRC.out w6 S6.out.bel j hjl
      have huk := HUC.out w6 S6.out.bel k hkL
      have huj := HUC.out w6 S6.out.bel j hjL
      cases hf : r.cells.getD k false
      · rw [hf] at hrk
        have HNO := Lib.hid (show free r L k way = false by
          cases e : free r L k way
          · rfl
          · have := (HF.out.1 e).2.2.1; unfold Reg.f at this; rw [Int.toNat_natCast, hf] at this; cases this)
        clear hf
        go_wp2
        go_ret2
        exact boolp_one (P := True) _ _ _ (layOne_same HK.out HNO.out) (S6.out.high 1 rfl) S6.out.bel
      rw [hf] at hrk
      have HFk := Lib.hid (show r.f k = true from hf)
      clear hf
      cases hg : r.cells.getD j false
      · rw [hg] at hrj
        have HNO := Lib.hid (show free r L k way = false by
          cases e : free r L k way
          · rfl
          · have := (HF.out.1 e).2.2.2.1; unfold Reg.f at this; rw [HSI.out, Int.toNat_natCast, hg] at this; cases this)
        clear hg
        go_wp2
        go_ret2
        exact boolp_one (P := True) _ _ _ (layOne_same HK.out HNO.out) (S6.out.high 1 rfl) S6.out.bel
      rw [hg] at hrj
      have HFj := Lib.hid (show r.f j = true from hg)
      clear hg
      obtain ⟨x, hx⟩ : ∃ x, L.getD k 0 = x := ⟨_, rfl⟩
      obtain ⟨y, hy⟩ : ∃ y, L.getD j 0 = y := ⟨_, rfl⟩
      rw [hx] at huk
      rw [hy] at huj
      have HX := Lib.hid hx
      have HY := Lib.hid hy
      clear hx hy
      by_cases hx0 : x = 0
      · by_cases hy0 : y = 0
        · subst hx0
          subst hy0
          have HYES := Lib.hid (HF.out.2 ⟨by omega, by rw [HSI.out]; omega, by rw [Int.toNat_natCast]; exact HFk.out, by rw [HSI.out, Int.toNat_natCast]; exact HFj.out, by rw [Int.toNat_natCast]; exact HX.out, by rw [HSI.out, Int.toNat_natCast]; exact HY.out⟩)
          obtain ⟨z0, z1, z2⟩ := own_num (S6.out.own 1 rfl) (j := k) hkL
          have S7 := Lib.hid (S6.out.set 1 rfl k (.int .i64 way))
          go_wp2_with (fail)
          clear z0 z1 z2 x0 x1 x2
          refine (l2Back_any way _ hww).mono ?_
          rintro e w8 ⟨rfl, hb⟩
          have S8 := Lib.hid (S7.out.below hb)
          clear hb S7 S6
          rw [show List.set (List.map (Value.int IntKind.i64) L) k (Value.int IntKind.i64 way) = List.map (Value.int IntKind.i64) (L.set k way) by rw [List.map_set]] at S8
          obtain ⟨z0, z1, z2⟩ := own_num (S8.out.own 1 rfl) (j := j) (by rw [List.length_set]; exact hjL)
          have S9 := Lib.hid (S8.out.set 1 rfl j (.int .i64 (backI way)))
          have HQ := Lib.hid (show List.set (List.map (Value.int IntKind.i64) (L.set k way)) j (Value.int IntKind.i64 (backI way)) = List.map (Value.int IntKind.i64) (layL r L k way) by unfold layL; rw [HSI.out, ← List.map_set, Int.toNat_natCast, Int.toNat_natCast])
          go_wp2
          go_ret2
          have ho := S9.out.high 1 rfl
          rw [HQ.out] at ho
          exact boolp_one (P := True) _ _ _ (layOne_yes HK.out HYES.out) ho S9.out.bel
        · have hye : (y != 0) = true := by simpa using hy0
          have HNO := Lib.hid (show free r L k way = false by
            cases e : free r L k way
            · rfl
            · have := (HF.out.1 e).2.2.2.2.2; rw [HSI.out, Int.toNat_natCast, HY.out] at this; exact absurd this hy0)
          go_wp2
          go_ret2
          exact boolp_one (P := True) _ _ _ (layOne_same HK.out HNO.out) (S6.out.high 1 rfl) S6.out.bel
      · have hxe : (x != 0) = true := by simpa using hx0
        have HNO := Lib.hid (show free r L k way = false by
          cases e : free r L k way
          · rfl
          · have := (HF.out.1 e).2.2.2.2.1; rw [Int.toNat_natCast, HX.out] at this; exact absurd this hx0)
        go_wp2
        go_ret2
        exact boolp_one (P := True) _ _ _ (layOne_same HK.out HNO.out) (S6.out.high 1 rfl) S6.out.bel
    · have hsn : s < 0 := by omega
      have HNO := Lib.hid (show free r L c way = false by
        cases e : free r L c way
        · rfl
        · have h1 := free_iff.1 e
          have hw := stepI_way h1.2.1
          have := HST.out
          rw [stepTo_yes hv (inB_iff.2 (by omega)) (inB_iff.2 hw)] at this
          omega)
      go_wp2
      go_ret2
      exact boolp_one (P := True) _ _ _ (layOne_same HK.out HNO.out) (S6.out.high 1 rfl) S6.out.bel

set_option maxRecDepth 100000 in
set_option maxHeartbeats 4000000 in
theorem sLiftOne_any (v u : Value) (r : Reg) (L : List Int) (c : Int) (w : World) (h : RegV w v r) (hu : Il w u L) :
    Calls Tryd.prog 50 #[v, u, .int .i64 c] w (RetLB (liftOne r L c) w) := by
  obtain ⟨a, cap, rfl, hs, hlc, hcm⟩ := h.opened
  have S0 := Lib.hid ((Sep.start w none).box #[.int .i64 r.wide, .int .i64 r.tall, .slice a r.cells.length cap] 25)
  have HS := Lib.hid hs
  have HU := Lib.hid hu
  obtain ⟨ua, uc, rfl, hul, hum, _⟩ := hu.opened
  have RV : Hid (∀ w', Below w.heap.size w w' → RegV w' (.agg #[.int .i64 r.wide, .int .i64 r.tall, .slice a r.cells.length cap]) r) := Lib.hid fun w' hb => ⟨_, rfl, HS.out.below hb⟩
  clear h hs hu
  cases hk : laidOk r L
  · skip
    go_enter Tryd.func50, Tryd.ntmps50
    go_wp2_with (fail)
    refine (sLaidOk_is _ _ r L _ (RV.out _ S0.out.bel) (HU.out.below S0.out.bel) false hk).mono ?_
    rintro e w1 ⟨rfl, hb⟩
    have S1 := Lib.hid (S0.out.below hb)
    clear hb
    go_wp2
    go_ret2
    exact boolp_one (P := True) _ _ _ (liftOne_no hk) (own_empty S1.out.bel) (below_two S1.out.bel _)
  · skip
    have hl36 : r.cells.length ≤ 36 := by
      obtain ⟨b1, b2, b3, b4⟩ := Reg.valid_iff.1 (laidOk_iff.1 hk).1
      have := area_in b1 b2
      omega
    have hv := (laidOk_iff.1 hk).1
    have hlen := (laidOk_iff.1 hk).2.1
    have hL1 : 0 < L.length := by
      obtain ⟨b1, b2, b3, b4⟩ := Reg.valid_iff.1 hv
      have := area_in b1 b2
      omega
    have hL36 : L.length ≤ 36 := by omega
    have HK := Lib.hid hk
    obtain ⟨rb, ro, rcap, hre, -, hrb, hrcell, -, -, -, -, hrea, hrw, hrt⟩ := (RV.out w (Below.refl _ _)).valid_opened hv
    obtain ⟨rfl, rfl⟩ : a = some ⟨rb, ro, none⟩ ∧ cap = rcap := by simpa using hre
    obtain ⟨ub, uo, uc', hue, hub, hucell, -, -⟩ := Il.pos HU.out hL1
    obtain ⟨rfl, rfl⟩ : ua = some ⟨ub, uo, none⟩ ∧ uc = uc' := by simpa using hue
    have HRC := Lib.hid hrcell
    have HUC := Lib.hid hucell
    have HEA := Lib.hid hrea
    have HN := Lib.hid hlen
    clear hre hue hrcell hucell hrea hlen
    have wl : IntKind.i64.wrap ((L.length : Int) - 1) = (L.length : Int) - 1 := IntWalk.i64_in _ (by omega)
    clear hk
    go_enter Tryd.func50, Tryd.ntmps50
    go_wp2_with (fail)
    refine (sLaidOk_is _ _ r L _ (RV.out _ S0.out.bel) (HU.out.below S0.out.bel) true HK.out).mono ?_
    rintro e w1 ⟨rfl, hb⟩
    have S1 := Lib.hid (S0.out.below hb)
    clear hb
    have H1c := Lib.hid (int_cells L)
    have S2 : Hid (Sep w none (w1.alloc (.cells #[] 3)) [.box w.heap.size #[.int .i64 r.wide, .int .i64 r.tall, .slice (some ⟨rb, ro, none⟩) r.cells.length cap] 25, .row 3 (.slice (some ⟨w1.heap.size, 0, none⟩) 0 0) []]) := Lib.hid (S1.out.empty 3)
    clear S0 S1
    go_wp2_with (at_builtin; refine list_copy elem_ints _ (S2.out.own 1 rfl) _ (L.map (Value.int .i64)) (HU.out.below S2.out.bel) L.length (by rw [List.length_map]) hL1 (.tmp 14) (.tmp 15) rfl rfl rfl rfl H1c.out (by omega) ?_; intro g c2 w5 A5; (have S5 := Lib.hid (S2.out.copied 1 rfl A5)); (have L5 := Lib.hid (And.intro A5.le A5.max)); clear A5; obtain ⟨x0, x1, x2⟩ := S5.out.c3 0 rfl)
    clear S2
    cases hc : inB c 0 ((L.length : Int) - 1)
    · have HNO := Lib.hid (show liftOk L c = false by unfold liftOk; rw [hc]; rfl)
      refine (l1In_is _ _ _ _ false hc).mono ?_
      rintro e w6 ⟨rfl, rfl⟩
      go_wp2
      go_ret2
      exact boolp_one (P := True) _ _ _ (liftOne_same HK.out HNO.out) (S5.out.high 1 rfl) S5.out.bel
    refine (l1In_is _ _ _ _ true hc).mono ?_
    rintro e w6 ⟨rfl, rfl⟩
    have hcc := inB_iff.1 hc
    clear hc
    obtain ⟨k, rfl⟩ := Int.eq_ofNat_of_zero_le hcc.1
    have hkL : k < L.length := by omega
    have hkl : k < r.cells.length := by have := HN.out; omega
    have huk := HUC.out w5 S5.out.bel k hkL
    have hub5 : ub < w5.heap.size := Nat.lt_of_lt_of_le hub S5.out.bel.size
    obtain ⟨x, hx⟩ : ∃ x, L.getD k 0 = x := ⟨_, rfl⟩
    rw [hx] at huk
    have HX := Lib.hid hx
    clear hx
    by_cases hx0 : x = 0
    · subst hx0
      have HNO := Lib.hid (show liftOk L k = false by
        cases e : liftOk L k
        · rfl
        · exact absurd HX.out (by have := (liftOk_iff.1 e).2; rwa [Int.toNat_natCast] at this))
      go_wp2
      go_ret2
      exact boolp_one (P := True) _ _ _ (liftOne_same HK.out HNO.out) (S5.out.high 1 rfl) S5.out.bel
    have HYES := Lib.hid (show liftOk L k = true from liftOk_iff.2 ⟨by omega, by rw [Int.toNat_natCast, HX.out]; exact hx0⟩)
    have hxe : (x == 0) = false := by simpa using hx0
    have hat := laidOk_at HK.out hkL (by rw [HX.out]; exact hx0)
    obtain ⟨t1, t2, t3, t4, t5⟩ := hat
    rw [HX.out] at t1 t3 t4 t5
    obtain ⟨s, hs⟩ : ∃ s, stepI r k x = s := ⟨_, rfl⟩
    rw [hs] at t3
    have HST := Lib.hid hs
    clear hs t2 t4 t5
    obtain ⟨j, rfl⟩ := Int.eq_ofNat_of_zero_le t3.1
    have hjL : j < L.length := by omega
    have hjl : j < r.cells.length := by have := HN.out; omega
    have HKA := Lib.hid (show (k : Int) < r.wide * r.tall by have := HEA.out; omega)
    have hRV : Hid (∀ T : Later w5, RegV T.x (.agg #[.int .i64 r.wide, .int .i64 r.tall, .slice (some ⟨rb, ro, none⟩) r.cells.length cap]) r) := Lib.hid fun T => RV.out _ (S5.out.later T).bel
    have hLc : ∀ (T : Later w5) (b o : Nat), b < w5.heap.size → T.x.cell? ⟨b, o, none⟩ = w5.cell? ⟨b, o, none⟩ := Later.cell
    have sX := S5.out.lt 0 rfl rfl
    go_wp2_with (fail)
    refine wp_region_later 9 (by kernel_rfl) (by kernel_rfl) ?_
    simp only [List.take_succ_cons, List.take_zero, List.drop_succ_cons, List.drop_zero]
    repeat (go_big_quiet_step (fail))
    go_big_quiet_step (with_reducible exact calls_later _ (l2Step_is _ r _ _ _ _ (hRV.out _) hv (by omega) HKA.out t1 HST.out))
    repeat (go_big_quiet_step (fail))
    refine wpQuiet_nil ?_
    intro T
    obtain ⟨wq, hwq⟩ : ∃ y, y = T.x := ⟨_, rfl⟩
    have S6 := S5.out.later T
    rw [← hwq] at S6 ⊢
    have S6 := Lib.hid S6
    clear hwq hLc hRV x0 x1 x2 sX huk
    clear T S5
    obtain ⟨z0, z1, z2⟩ := own_num (S6.out.own 1 rfl) (j := j) hjL
    have S7 := Lib.hid (S6.out.set 1 rfl j (.int .i64 0))
    rw [show List.set (List.map (Value.int IntKind.i64) L) j (Value.int IntKind.i64 0) = List.map (Value.int IntKind.i64) (L.set j 0) by rw [List.map_set]] at S7
    obtain ⟨y0, y1, y2⟩ := own_num (S7.out.own 1 rfl) (j := k) (by rw [List.length_set]; exact hkL)
    have S8 := Lib.hid (S7.out.set 1 rfl k (.int .i64 0))
    have HQ := Lib.hid (show List.set (List.map (Value.int IntKind.i64) (L.set j 0)) k (Value.int IntKind.i64 0) = List.map (Value.int IntKind.i64) (liftL r L k) by unfold liftL; rw [Int.toNat_natCast, HX.out, HST.out, ← List.map_set, Int.toNat_natCast])
    go_wp2
    go_ret2
    have ho := S8.out.high 1 rfl
    rw [HQ.out] at ho
    exact boolp_one (P := True) _ _ _ (liftOne_yes HK.out HYES.out) ho S8.out.bel

end Go.Proofs.YtklifibiadiinaaDoor
