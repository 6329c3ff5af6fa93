/- Walks: free, lay, lift, LayOne, LiftOne of the program. -/
import Derived.Test.YtnmoaecihmjnnaaVWone
import Derived.Test.YtnmoaecihmjnnaaVWset
import Derived.Test.YtnmoaecihmjnnaaZa
set_option linter.unusedVariables false
namespace Go.Proofs.Ytnmoaecihmjnnaa
open Go.RowKit Domi

theorem has_is (v : Value) (r : Reg) (c : Int) (w : World) (h : RegV w v r) (b : Bool) (hb : inB c 0 (r.cells.length - 1) = b) :
    Calls Try.prog 69 #[v, .int .i64 c] w (Ret (.bool b) w) := by rw [← hb]; exact has_any v r c w h
set_option maxHeartbeats 2000000 in
theorem free_any (v u : Value) (r : Reg) (L : List Int) (c way : Int) (w : World) (h : RegV w v r) (hu : Il w u L) (hv : r.valid = true) (hlen : L.length = r.cells.length) :
    Calls Try.prog 83 #[v, u, .int .i64 c, .int .i64 way] w (Ret (.bool (free r L c way)) w) := by
  obtain ⟨v1, v2, v3, _⟩ := Reg.valid_iff.1 hv
  have hA := area_in v1 v2
  have hl1 : 0 < L.length := by omega
  obtain ⟨rb, ro, cap, rfl, hs, hrb, hrcell, hlc, hcm, _, hl36, hrea, _, _⟩ := h.valid_opened hv
  obtain ⟨ub, uo, uc, rfl, hub, hucell, hul, hum⟩ := Il.pos hu hl1
  have R0 := Lib.hid (RB.new hs)
  have B0 := Lib.hid (below_alloc w (.cells #[.int .i64 r.wide, .int .i64 r.tall, .slice (some ⟨rb, ro, none⟩) r.cells.length cap] 25))
  have HN := Lib.hid hlen
  have HRC := Lib.hid hrcell
  have HUC := Lib.hid hucell
  have HEA := Lib.hid hrea
  have HF := Lib.hid (free_iff (r := r) (L := L) (c := c) (way := way))
  have HNO : Hid ((¬ ((0 ≤ c ∧ c < r.cells.length) ∧ 0 ≤ stepI r c way ∧ r.f c.toNat = true ∧ r.f (stepI r c way).toNat = true ∧ L.getD c.toNat 0 = 0 ∧ L.getD (stepI r c way).toNat 0 = 0)) → free r L c way = false) := Lib.hid fun h => by
    cases e : free r L c way
    · rfl
    · exact absurd (HF.out.1 e) h
  clear h hs hu hrcell hucell hlen hrea v3
  go_enter Try.func83, Try.ntmps83
  go_wp2_with (fail)
  cases hc : inB c 0 (r.cells.length - 1)
  · refine (has_is _ r c _ R0.out.v false hc).mono ?_
    rintro e w1 ⟨rfl, hb⟩
    have HB := Lib.hid (B0.out.trans (hb.mono B0.out.size))
    have HR := Lib.hid (HNO.out fun h => by rw [inB_iff.2 (by omega)] at hc; cases hc)
    clear hb
    go_wp2
    go_ret
    exact ⟨ret_bool HR.out.symm, HB.out⟩
  refine (has_is _ r c _ R0.out.v true hc).mono ?_
  rintro e w1 ⟨rfl, hb⟩
  have R1 := Lib.hid (R0.out.on hb)
  have B1 := Lib.hid (B0.out.trans (hb.mono B0.out.size))
  have hcc := inB_iff.1 hc
  clear hb hc
  obtain ⟨k, rfl⟩ := Int.eq_ofNat_of_zero_le hcc.1
  obtain ⟨s, hs⟩ : ∃ s, stepI r k way = s := ⟨_, rfl⟩
  have HST := Lib.hid hs
  have hin : s = -1 ∨ (0 ≤ s ∧ s < r.wide * r.tall) := by rw [← hs]; exact stepI_in (by omega) (by omega) (by have := HEA.out; omega)
  have HKC := Lib.hid (show (k : Int) < r.wide * r.tall by have := HEA.out; omega)
  clear hs
  obtain ⟨x0, x1, x2⟩ := R1.out.c3
  go_wp2_with (fail)
  refine (step_is _ r _ _ s _ R1.out.v hv (by omega) HKC.out HST.out).mono ?_
  rintro e w2 ⟨rfl, hb⟩
  have R2 := Lib.hid (R1.out.on hb)
  have B2 := Lib.hid (B1.out.trans (hb.mono B1.out.size))
  clear hb x0 x1 x2
  obtain ⟨x0, x1, x2⟩ := R2.out.c3
  have sX := R2.out.lt
  have hrb2 : rb < w2.heap.size := Nat.lt_of_lt_of_le hrb B2.out.size
  have hub2 : ub < w2.heap.size := Nat.lt_of_lt_of_le hub B2.out.size
  by_cases hs0 : 0 ≤ s
  · obtain ⟨j, rfl⟩ := Int.eq_ofNat_of_zero_le hs0
    have hkl : k < r.cells.length := by omega
    have hjl : j < r.cells.length := by have := HEA.out; omega
    have hkL : k < L.length := by have := HN.out; omega
    have hjL : j < L.length := by have := HN.out; omega
    have hrk := HRC.out w2 B2.out k hkl
    have hrj := HRC.out w2 B2.out j hjl
    have huk := HUC.out w2 B2.out k hkL
    have huj := HUC.out w2 B2.out j hjL
    cases hf : r.cells.getD k false
    · rw [hf] at hrk
      have HR := Lib.hid (HNO.out fun h => by have := h.2.2.1; unfold Reg.f at this; rw [Int.toNat_natCast, hf] at this; cases this)
      clear hf
      go_wp2
      go_ret
      exact ⟨ret_bool HR.out.symm, B2.out⟩
    rw [hf] at hrk
    have HFk := Lib.hid (show r.f k = true from hf)
    clear hf
    cases hg : r.cells.getD j false
    · rw [hg] at hrj
      have HR := Lib.hid (HNO.out fun h => by have := h.2.2.2.1; unfold Reg.f at this; rw [HST.out, Int.toNat_natCast, hg] at this; cases this)
      clear hg
      go_wp2
      go_ret
      exact ⟨ret_bool HR.out.symm, B2.out⟩
    rw [hg] at hrj
    have HFj := Lib.hid (show r.f j = true from hg)
    clear hg
    obtain ⟨x, hx⟩ : ∃ x, L.getD k 0 = x := ⟨_, rfl⟩
    obtain ⟨y, hy⟩ : ∃ y, L.getD j 0 = y := ⟨_, rfl⟩
    rw [hx] at huk
    rw [hy] at huj
    have HX := Lib.hid hx
    have HY := Lib.hid hy
    clear hx hy
    by_cases hx0 : x = 0
    · by_cases hy0 : y = 0
      · subst hx0
        subst hy0
        have HR := Lib.hid (HF.out.2 ⟨by omega, by rw [HST.out]; omega, by rw [Int.toNat_natCast]; exact HFk.out, by rw [HST.out, Int.toNat_natCast]; exact HFj.out, by rw [Int.toNat_natCast]; exact HX.out, by rw [HST.out, Int.toNat_natCast]; exact HY.out⟩)
        go_wp2
        go_ret
        exact ⟨ret_bool HR.out.symm, B2.out⟩
      · have hye : (y == 0) = false := by simpa using hy0
        have HR := Lib.hid (HNO.out fun h => by have := h.2.2.2.2.2; rw [HST.out, Int.toNat_natCast, HY.out] at this; exact hy0 this)
        subst hx0
        go_wp2
        go_ret
        exact ⟨by first | exact ret_bool HR.out.symm | exact ret_bool (hye.trans HR.out.symm), B2.out⟩
    · have hxe : (x == 0) = false := by simpa using hx0
      have HR := Lib.hid (HNO.out fun h => by have := h.2.2.2.2.1; rw [Int.toNat_natCast, HX.out] at this; exact hx0 this)
      go_wp2
      go_ret
      exact ⟨ret_bool HR.out.symm, B2.out⟩
  · have hsn : ¬ 0 ≤ s := hs0
    have hdn : decide (0 ≤ s) = false := by simpa using hs0
    have HR := Lib.hid (HNO.out fun h => by have := h.2.1; rw [HST.out] at this; exact hs0 this)
    go_wp2
    go_ret
    exact ⟨ret_bool HR.out.symm, B2.out⟩

theorem free_is (v u : Value) (r : Reg) (L : List Int) (c way : Int) (w : World) (h : RegV w v r) (hu : Il w u L) (hv : r.valid = true) (hlen : L.length = r.cells.length) (b : Bool) (hb : free r L c way = b) :
    Calls Try.prog 83 #[v, u, .int .i64 c, .int .i64 way] w (Ret (.bool b) w) := by rw [← hb]; exact free_any v u r L c way w h hu hv hlen

set_option maxRecDepth 100000 in
set_option maxHeartbeats 2000000 in
theorem lay_own (v u : Value) (r : Reg) (L : List Int) (c : Nat) (way : Int) (w : World) (h : RegV w v r) (hu : Il w u L) (hk : laidOk r L = true) (hf : free r L c way = true) :
    Calls Try.prog 84 #[v, u, .int .i64 c, .int .i64 way] w fun e w' => ∃ v, e = .returned v ∧ Ow w' w.heap.size 3 v ((layL r L c way).map (Value.int .i64)) ∧ Below w.heap.size w w' := by
  obtain ⟨hv, hlen, _⟩ := laidOk_iff.1 hk
  obtain ⟨v1, v2, v3, _⟩ := Reg.valid_iff.1 hv
  have hA := area_in v1 v2
  have hl1 : 0 < L.length := by omega
  have hl36 : L.length ≤ 36 := by omega
  obtain ⟨a, cap, rfl, hs, hlc, hcm⟩ := h.opened
  have S0 := Lib.hid ((Sep.start w none).box #[.int .i64 r.wide, .int .i64 r.tall, .slice a r.cells.length cap] 25)
  have HS := Lib.hid hs
  have HU := Lib.hid hu
  have RV : Hid (∀ w', Below w.heap.size w w' → RegV w' (.agg #[.int .i64 r.wide, .int .i64 r.tall, .slice a r.cells.length cap]) r) := Lib.hid fun w' hb => ⟨_, rfl, HS.out.below hb⟩
  obtain ⟨ub, uo, uc, rfl, hub, hucell, hul, hum⟩ := Il.pos hu hl1
  have HUC := Lib.hid hucell
  have HN := Lib.hid hlen
  have HA3 := Lib.hid v3
  obtain ⟨t, F⟩ := free_at hk hf
  have HFQ := Lib.hid (layL_is F)
  have hck : c < L.length := F.hc
  have htk : t < L.length := F.ht
  have HST := Lib.hid F.hst
  have hway := F.hway
  have HKC := Lib.hid (show (c : Int) < r.wide * r.tall by omega)
  clear h hs hu hucell hlen v3 F hf
  go_enter Try.func84, Try.ntmps84
  go_wp2_with (fail)
  refine (clone_int _ L _ (HU.out.below S0.out.bel) hl1 (by omega)).mono ?_
  rintro e w1 ⟨v1', rfl, hcl, hb⟩
  obtain ⟨g, cur, rfl, hg1, hg2, ht, _⟩ := hcl
  rw [List.length_map] at ht
  rw [List.length_map]
  have S1 := Lib.hid (S0.out.cloned hb hg1 hg2)
  have T1 := Lib.hid ht
  clear hb hg1 hg2 ht S0
  obtain ⟨x0, x1, x2⟩ := S1.out.c3 0 rfl
  go_wp2_with (fail)
  refine (step_is _ r _ _ t _ (RV.out _ S1.out.bel) hv (by omega) HKC.out HST.out).mono ?_
  rintro e w2 ⟨rfl, hb⟩
  have S2 := Lib.hid (S1.out.below hb)
  clear hb S1 x0 x1 x2
  go_wp2_with (fail)
  refine (back_any way _ hway).mono ?_
  rintro e w3 ⟨rfl, hb⟩
  have S3 := Lib.hid (S2.out.below hb)
  clear hb S2
  obtain ⟨z, z1, z2, _⟩ := box_cell (S3.out.blk 1 rfl) T1.out (k := c) (by rw [List.length_map]; exact hck)
  have S4 := Lib.hid (S3.out.put 1 rfl c (.int .i64 way))
  have T2 := Lib.hid (take_put (k := c) (v := .int .i64 way) T1.out)
  rw [← List.map_set] at T2
  obtain ⟨y, y1, y2, _⟩ := box_cell (S4.out.blk 1 rfl) T2.out (k := t) (by rw [List.length_map, List.length_set]; exact htk)
  have S5 := Lib.hid (S4.out.put 1 rfl t (.int .i64 (backI way)))
  have T3 := Lib.hid (take_put (k := t) (v := .int .i64 (backI way)) T2.out)
  rw [← List.map_set, ← HFQ.out] at T3
  have sg := S3.out.lt 1 rfl rfl
  clear T1 T2 S3 S4
  go_wp2
  go_ret
  have hll : ((layL r L c way).map (Value.int .i64)).length = L.length := by rw [List.length_map, layL_len]
  exact ⟨.slice (some ⟨g, 0, none⟩) L.length L.length, rfl, .inr ⟨g, L.length, _, by rw [hll], S5.out.ge 1 rfl rfl, S5.out.blk 1 rfl, by omega, by omega, by rw [hll]; exact T3.out⟩, S5.out.bel⟩
theorem lay_any (v u : Value) (r : Reg) (L : List Int) (c : Nat) (way : Int) (w : World) (h : RegV w v r) (hu : Il w u L) (hk : laidOk r L = true) (hf : free r L c way = true) :
    Calls Try.prog 84 #[v, u, .int .i64 c, .int .i64 way] w (RetI (layL r L c way) w) :=
  (lay_own v u r L c way w h hu hk hf).mono fun e w' ⟨v', he, ho, hb⟩ => ⟨v', he, ho.sl, hb⟩

/-- The list in the midst of the two stores. -/
def LiftM (L : List Int) (c t : Nat) (D : Nat → Bool) : List Int := if D 13 then (if D 11 then L.set t 0 else L).set c 0 else (if D 11 then L.set t 0 else L)
def LiftG (w : World) (r : Reg) (s : Value) (g : Nat) (L : List Int) (c t : Nat) (D : Nat → Bool) (x : World) : Prop :=
  ∃ cur, Sep w none x [.box w.heap.size #[.int .i64 r.wide, .int .i64 r.tall, s] 25, .box g cur 3] ∧ cur.toList.take L.length = (LiftM L c t D).map (Value.int .i64)
def LiftV (r : Reg) (s u : Value) (g n ub uo c t : Nat) (x : Int) : Nat → Value
  | 0 => .slice (some ⟨g, 0, none⟩) n n
  | 1 => .agg #[.int .i64 r.wide, .int .i64 r.tall, s]
  | 2 => .int .i64 c
  | 3 => u
  | 4 => .int .i64 c
  | 5 => .pointer (some ⟨ub, uo + c, none⟩)
  | 6 => .int .i64 x
  | 7 => .int .i64 t
  | 8 => .slice (some ⟨g, 0, none⟩) n n
  | 9 => .int .i64 c
  | 10 => .pointer (some ⟨g, t, none⟩)
  | 12 => .pointer (some ⟨g, c, none⟩)
  | _ => undef
theorem liftM_same {L : List Int} {c t i : Nat} {D : Nat → Bool} (hi : i ≠ 11 ∧ i ≠ 13) : LiftM L c t (fun j => D j || j == i) = LiftM L c t D := by
  unfold LiftM
  have e1 : (11 == i) = false := by simp; omega
  have e2 : (13 == i) = false := by simp; omega
  simp only [e1, e2, Bool.or_false]
theorem liftM_len {L : List Int} {c t : Nat} {D : Nat → Bool} : (LiftM L c t D).length = L.length := by
  unfold LiftM; split <;> split <;> simp
theorem liftM_t {L : List Int} {c t : Nat} {D : Nat → Bool} (hD : D 11 = false) (hne : c ≠ t) : LiftM L c t (fun j => D j || j == 11) = (LiftM L c t D).set t 0 := by
  unfold LiftM
  simp only [hD, Bool.false_or, beq_self_eq_true, if_true, Bool.false_eq_true, if_false, show (13 == 11) = false from rfl, Bool.or_false]
  cases D 13
  · rfl
  · simp only [if_true]; exact List.set_comm _ _ (fun e => hne e.symm)
theorem liftM_c {L : List Int} {c t : Nat} {D : Nat → Bool} (hD : D 13 = false) : LiftM L c t (fun j => D j || j == 13) = (LiftM L c t D).set c 0 := by
  unfold LiftM
  simp only [hD, Bool.false_or, beq_self_eq_true, if_true, Bool.false_eq_true, if_false, show (11 == 13) = false from rfl, Bool.or_false]
theorem LiftG.to {w : World} {r : Reg} {s : Value} {g : Nat} {L : List Int} {c t i : Nat} {D : Nat → Bool} {x : World} (h : LiftG w r s g L c t D x) (hi : i ≠ 11 ∧ i ≠ 13) : LiftG w r s g L c t (fun j => D j || j == i) x := by
  obtain ⟨cur, hS, hT⟩ := h
  exact ⟨cur, hS, by rw [liftM_same hi]; exact hT⟩
set_option maxRecDepth 100000 in
set_option maxHeartbeats 2000000 in
theorem lift_any (v u : Value) (r : Reg) (L : List Int) (c : Nat) (w : World) (h : RegV w v r) (hu : Il w u L) (hk : laidOk r L = true) (hc : c < L.length) (h0 : L.getD c 0 ≠ 0) :
    Calls Try.prog 71 #[v, u, .int .i64 c] w (RetI (liftL r L c) w) := by
  obtain ⟨hv, hlen, _⟩ := laidOk_iff.1 hk
  obtain ⟨v1, v2, v3, _⟩ := Reg.valid_iff.1 hv
  have hA := area_in v1 v2
  have hl1 : 0 < L.length := by omega
  have hl36 : L.length ≤ 36 := by omega
  obtain ⟨a, cap, rfl, hs, hlc, hcm⟩ := h.opened
  have S0 := Lib.hid ((Sep.start w none).box #[.int .i64 r.wide, .int .i64 r.tall, .slice a r.cells.length cap] 25)
  have HS := Lib.hid hs
  have HU := Lib.hid hu
  have RV : Hid (∀ w', Below w.heap.size w w' → RegV w' (.agg #[.int .i64 r.wide, .int .i64 r.tall, .slice a r.cells.length cap]) r) := Lib.hid fun w' hb => ⟨_, rfl, HS.out.below hb⟩
  obtain ⟨ub, uo, uc, rfl, hub, hucell, hul, hum⟩ := Il.pos hu hl1
  have HUC := Lib.hid hucell
  have HN := Lib.hid hlen
  have HA3 := Lib.hid v3
  obtain ⟨t, F⟩ := lies_at hk hc h0
  have HFQ := Lib.hid (liftL_is F)
  have htk : t < L.length := F.ht
  have hne : c ≠ t := F.hne
  have HST := Lib.hid F.hst
  have HKC := Lib.hid (show (c : Int) < r.wide * r.tall by omega)
  obtain ⟨x, hx⟩ : ∃ x, L.getD c 0 = x := ⟨_, rfl⟩
  rw [hx] at HST
  have HX := Lib.hid hx
  clear h hs hu hucell hlen v3 F h0 hx
  go_enter Try.func71, Try.ntmps71
  go_wp2_with (fail)
  refine (clone_int _ L _ (HU.out.below S0.out.bel) hl1 (by omega)).mono ?_
  rintro e w1 ⟨v1', rfl, hcl, hb⟩
  obtain ⟨g, cur, rfl, hg1, hg2, ht, _⟩ := hcl
  rw [List.length_map] at ht
  rw [List.length_map]
  have S1 := Lib.hid (S0.out.cloned hb hg1 hg2)
  have T1 := Lib.hid ht
  clear hb hg1 hg2 ht S0
  have RT := RV
  obtain ⟨cc, hcc⟩ : ∃ k : Nat, k = c := ⟨c, rfl⟩
  go_wp2_with (fail)
  refine wp_region_by (fun i v _ => v = LiftV r (.slice a r.cells.length cap) (.slice (some ⟨ub, uo, none⟩) L.length uc) g L.length ub uo c t x i) (LiftG w r (.slice a r.cells.length cap) g L c t) (fun _ _ => True) (by kernel_rfl) (by kernel_rfl) ?_ ?_ ?_ ?_ ?_
  · exact fun i v x y h _ => h
  · exact ⟨cur, S1.out.drew, T1.out⟩
  · intro i o D b y ho hg hf hD hall
    have hi : i = 0 ∨ i = 1 ∨ i = 2 ∨ i = 3 ∨ i = 4 ∨ i = 5 ∨ i = 6 ∨ i = 7 ∨ i = 8 ∨ i = 9 ∨ i = 10 ∨ i = 11 ∨ i = 12 ∨ i = 13 := by
      have := (List.getElem?_eq_some_iff.1 ho).1
      simp at this
      omega
    obtain ⟨cy, hS, hT⟩ := id hg
    have SY := Lib.hid hS
    have TY := Lib.hid hT
    clear hS hT
    rcases hi with rfl | rfl | rfl | rfl | rfl | rfl | rfl | rfl | rfl | rfl | rfl | rfl | rfl | rfl
    · cases Option.some.inj ho
      have e0 := hf.was 7 _ (by kernel_rfl) rfl
      refine wpOp_at rfl rfl ?_
      simp [Oper.wp, go_sem, e0]
      exact ⟨_, rfl, rfl, hg.to (by decide)⟩
    · cases Option.some.inj ho
      have e0 := hf.was 3 _ (by kernel_rfl) rfl
      obtain ⟨z0, z1, z2⟩ := SY.out.c3 0 rfl
      refine wpOp_at rfl rfl ?_
      simp [Oper.wp, go_sem, e0, z0, z1, z2]
      exact ⟨_, rfl, rfl, hg.to (by decide)⟩
    · cases Option.some.inj ho
      have e0 := hf.was 2 _ (by kernel_rfl) rfl
      refine wpOp_at rfl rfl ?_
      simp [Oper.wp, go_sem, e0]
      exact ⟨_, rfl, rfl, hg.to (by decide)⟩
    · cases Option.some.inj ho
      have e0 := hf.was 1 _ (by kernel_rfl) rfl
      refine wpOp_at rfl rfl ?_
      simp [Oper.wp, go_sem, e0]
      exact ⟨_, rfl, rfl, hg.to (by decide)⟩
    · cases Option.some.inj ho
      have e0 := hf.was 2 _ (by kernel_rfl) rfl
      refine wpOp_at rfl rfl ?_
      simp [Oper.wp, go_sem, e0]
      exact ⟨_, rfl, rfl, hg.to (by decide)⟩
    · cases Option.some.inj ho
      have e0 : _ = _ := hf.has 3 13 rfl (hall ⟨3, .data⟩ (by simp) rfl)
      have e1 : _ = _ := hf.has 4 14 rfl (hall ⟨4, .data⟩ (by simp) rfl)
      simp only [LiftV] at e0 e1
      refine wpOp_at rfl rfl ?_
      simp [Oper.wp, go_sem, e0, e1, hc]
      exact ⟨_, rfl, rfl, hg.to (by decide)⟩
    · cases Option.some.inj ho
      have e0 : _ = _ := hf.has 5 15 rfl (hall ⟨5, .data⟩ (by simp) rfl)
      simp only [LiftV] at e0
      have huk := HUC.out y SY.out.bel c hc
      rw [HX.out] at huk
      refine wpOp_at rfl rfl ?_
      simp [Oper.wp, go_sem, e0, huk]
      exact ⟨_, rfl, rfl, hg.to (by decide)⟩
    · cases Option.some.inj ho
      have e0 : _ = _ := hf.has 1 11 rfl (hall ⟨1, .data⟩ (by simp) rfl)
      have e1 : _ = _ := hf.has 2 12 rfl (hall ⟨2, .data⟩ (by simp) rfl)
      have e2 : _ = _ := hf.has 6 16 rfl (hall ⟨6, .data⟩ (by simp) rfl)
      simp only [LiftV] at e0 e1 e2
      refine wpOp_at rfl rfl ?_
      simp [Oper.wp, go_sem, e0, e1, e2]
      refine (step_is _ r _ _ t _ (RT.out _ SY.out.bel) hv (by omega) HKC.out HST.out).mono ?_
      rintro e y' ⟨rfl, hb⟩
      exact ⟨_, rfl, rfl, ⟨cy, SY.out.below hb, by rw [liftM_same (by decide)]; exact TY.out⟩⟩
    · cases Option.some.inj ho
      have e0 := hf.was 7 _ (by kernel_rfl) rfl
      refine wpOp_at rfl rfl ?_
      simp [Oper.wp, go_sem, e0]
      exact ⟨_, rfl, rfl, hg.to (by decide)⟩
    · cases Option.some.inj ho
      have e0 := hf.was 2 _ (by kernel_rfl) rfl
      refine wpOp_at rfl rfl ?_
      simp [Oper.wp, go_sem, e0]
      exact ⟨_, rfl, rfl, hg.to (by decide)⟩
    · cases Option.some.inj ho
      have e0 : _ = _ := hf.has 0 10 rfl (hall ⟨0, .data⟩ (by simp) rfl)
      have e1 : _ = _ := hf.has 7 17 rfl (hall ⟨7, .data⟩ (by simp) rfl)
      simp only [LiftV] at e0 e1
      refine wpOp_at rfl rfl ?_
      simp [Oper.wp, go_sem, e0, e1, htk]
      exact ⟨_, rfl, rfl, hg.to (by decide)⟩
    · cases Option.some.inj ho
      have e0 : _ = _ := hf.has 10 20 rfl (hall ⟨10, .data⟩ (by simp) rfl)
      simp only [LiftV] at e0
      obtain ⟨z, z1, z2, _⟩ := box_cell (SY.out.blk 1 rfl) TY.out (k := t) (by rw [List.length_map, liftM_len]; exact htk)
      have S4 := SY.out.put 1 rfl t (.int .i64 0)
      have T2 := take_put (k := t) (v := .int .i64 0) TY.out
      rw [← List.map_set] at T2
      refine wpOp_at rfl rfl ?_
      simp [Oper.wp, go_sem, e0, z1, z2]
      exact ⟨_, S4, by rw [liftM_t hD hne]; exact T2⟩
    · cases Option.some.inj ho
      have e0 : _ = _ := hf.has 8 18 rfl (hall ⟨8, .data⟩ (by simp) rfl)
      have e1 : _ = _ := hf.has 9 19 rfl (hall ⟨9, .data⟩ (by simp) rfl)
      simp only [LiftV] at e0 e1
      refine wpOp_at rfl rfl ?_
      simp [Oper.wp, go_sem, e0, e1, hc]
      exact ⟨_, rfl, rfl, hg.to (by decide)⟩
    · cases Option.some.inj ho
      have e0 : _ = _ := hf.has 12 21 rfl (hall ⟨12, .data⟩ (by simp) rfl)
      simp only [LiftV] at e0
      obtain ⟨z, z1, z2, _⟩ := box_cell (SY.out.blk 1 rfl) TY.out (k := c) (by rw [List.length_map, liftM_len]; exact hc)
      have S4 := SY.out.put 1 rfl c (.int .i64 0)
      have T2 := take_put (k := c) (v := .int .i64 0) TY.out
      rw [← List.map_set] at T2
      refine wpOp_at rfl rfl ?_
      simp [Oper.wp, go_sem, e0, z1, z2]
      exact ⟨_, S4, by rw [liftM_c hD]; exact T2⟩
  · intro v y hg hfacts
    obtain ⟨cy, hS, hT⟩ := hg
    have SY := Lib.hid hS
    have TY := Lib.hid (show cy.toList.take L.length = ((L.set t 0).set c 0).map (Value.int .i64) from hT)
    rw [← HFQ.out] at TY
    clear hS hT hfacts T1 S1
    simp only [List.filterMap_cons, List.filterMap_nil, puts]
    go_wp2
    go_ret
    exact ⟨_, rfl, box_sl (SY.out.blk 1 rfl) TY.out (by rw [List.length_map, liftL_len]) (Nat.le_refl _) (by omega), SY.out.bel⟩
  · rintro D D' x hD ⟨cy, hS, hT⟩
    exact ⟨cy, hS, by unfold LiftM at *; rw [← hD 11 (by simp), ← hD 13 (by simp)]; exact hT⟩

theorem layOne_post {q x : List Int × Bool} (h : q = x) {w w' : World} {v : Value} (hv : Il w' v x.1) (hb : Below w.heap.size w w') : RetIB q w (.returned (.tuple #[v, .bool x.2])) w' := by subst h; exact ⟨v, rfl, hv, hb⟩
set_option maxHeartbeats 2000000 in
theorem LayOne_any (v u : Value) (r : Reg) (L : List Int) (c way : Int) (w : World) (h : RegV w v r) (hu : Il w u L) :
    Calls Try.prog 37 #[v, u, .int .i64 c, .int .i64 way] w (RetIB (layOne r L c way) w) := by
  obtain ⟨a, cap, rfl, hs, hlc, hcm⟩ := h.opened
  have R0 := Lib.hid (RB.new hs)
  have B0 := Lib.hid (below_alloc w (.cells #[.int .i64 r.wide, .int .i64 r.tall, .slice a r.cells.length cap] 25))
  have HU := Lib.hid hu
  obtain ⟨ua, uc, rfl, hul, hum, _⟩ := hu.opened
  clear h hs hu
  cases hk : laidOk r L
  · go_enter Try.func37, Try.ntmps37
    go_wp2_with (fail)
    refine (LaidOk_is _ _ r L _ R0.out.v (HU.out.below B0.out) false hk).mono ?_
    rintro e w1 ⟨rfl, hb⟩
    have HB := Lib.hid (B0.out.trans (hb.mono B0.out.size))
    clear hb
    go_wp2
    go_ret2
    exact layOne_post (layOne_no hk) (Sl.nil _) HB.out
  · obtain ⟨hv, hlen, _⟩ := laidOk_iff.1 hk
    have hl36 : L.length ≤ 36 := by
      obtain ⟨v1, v2, v3, _⟩ := Reg.valid_iff.1 hv
      have := area_in v1 v2
      omega
    have hl1 : 0 < L.length := by
      obtain ⟨v1, v2, v3, _⟩ := Reg.valid_iff.1 hv
      have := area_in v1 v2
      omega
    have HK := Lib.hid hk
    have HN := Lib.hid hlen
    clear hk hlen
    go_enter Try.func37, Try.ntmps37
    go_wp2_with (fail)
    refine (LaidOk_is _ _ r L _ R0.out.v (HU.out.below B0.out) true HK.out).mono ?_
    rintro e w1 ⟨rfl, hb⟩
    have R1 := Lib.hid (R0.out.on hb)
    have B1 := Lib.hid (B0.out.trans (hb.mono B0.out.size))
    clear hb
    obtain ⟨x0, x1, x2⟩ := R1.out.c3
    go_wp2_with (fail)
    cases hf : free r L c way
    · refine (free_is _ _ r L c way _ R1.out.v (HU.out.below B1.out) hv HN.out false hf).mono ?_
      rintro e w2 ⟨rfl, hb⟩
      have B2 := Lib.hid (B1.out.trans (hb.mono B1.out.size))
      clear hb x0 x1 x2
      go_wp2_with (fail)
      refine (clone_int _ L _ (HU.out.below B2.out) hl1 (by omega)).mono ?_
      rintro e w3 ⟨v3, rfl, hcl, hb⟩
      have B3 := Lib.hid (B2.out.trans (hb.mono B2.out.size))
      have V3 := Lib.hid hcl.sl
      clear hb hcl
      go_wp2
      go_ret2
      exact layOne_post (layOne_same HK.out hf) V3.out B3.out
    · have hc0 := (free_iff.1 hf).1
      obtain ⟨k, rfl⟩ := Int.eq_ofNat_of_zero_le hc0.1
      refine (free_is _ _ r L k way _ R1.out.v (HU.out.below B1.out) hv HN.out true hf).mono ?_
      rintro e w2 ⟨rfl, hb⟩
      have R2 := Lib.hid (R1.out.on hb)
      have B2 := Lib.hid (B1.out.trans (hb.mono B1.out.size))
      clear hb x0 x1 x2
      obtain ⟨x0, x1, x2⟩ := R2.out.c3
      go_wp2_with (fail)
      refine (lay_any _ _ r L k way _ R2.out.v (HU.out.below B2.out) HK.out hf).mono ?_
      rintro e w3 ⟨v3, rfl, hv3, hb⟩
      have B3 := Lib.hid (B2.out.trans (hb.mono B2.out.size))
      have V3 := Lib.hid hv3
      clear hb hv3 x0 x1 x2
      go_wp2
      go_ret2
      exact layOne_post (layOne_yes HK.out hf) V3.out B3.out

theorem liftOne_post {q x : List Int × Bool} (h : q = x) {w w' : World} {v : Value} (hv : Il w' v x.1) (hb : Below w.heap.size w w') : RetIB q w (.returned (.tuple #[v, .bool x.2])) w' := by subst h; exact ⟨v, rfl, hv, hb⟩
set_option maxHeartbeats 2000000 in
theorem LiftOne_any (v u : Value) (r : Reg) (L : List Int) (c : Int) (w : World) (h : RegV w v r) (hu : Il w u L) :
    Calls Try.prog 18 #[v, u, .int .i64 c] w (RetIB (liftOne r L c) w) := by
  obtain ⟨a, cap, rfl, hs, hlc, hcm⟩ := h.opened
  have R0 := Lib.hid (RB.new hs)
  have B0 := Lib.hid (below_alloc w (.cells #[.int .i64 r.wide, .int .i64 r.tall, .slice a r.cells.length cap] 25))
  have HU := Lib.hid hu
  obtain ⟨ua, uc, rfl, hul, hum, _⟩ := hu.opened
  clear h hs hu
  cases hk : laidOk r L
  · go_enter Try.func18, Try.ntmps18
    go_wp2_with (fail)
    refine (LaidOk_is _ _ r L _ R0.out.v (HU.out.below B0.out) false hk).mono ?_
    rintro e w1 ⟨rfl, hb⟩
    have HB := Lib.hid (B0.out.trans (hb.mono B0.out.size))
    clear hb
    go_wp2
    go_ret2
    exact liftOne_post (liftOne_no hk) (Sl.nil _) HB.out
  · obtain ⟨hv, hlen, _⟩ := laidOk_iff.1 hk
    have hl36 : L.length ≤ 36 := by
      obtain ⟨v1, v2, v3, _⟩ := Reg.valid_iff.1 hv
      have := area_in v1 v2
      omega
    have hl1 : 0 < L.length := by
      obtain ⟨v1, v2, v3, _⟩ := Reg.valid_iff.1 hv
      have := area_in v1 v2
      omega
    have HK := Lib.hid hk
    have HN := Lib.hid hlen
    clear hk hlen
    go_enter Try.func18, Try.ntmps18
    go_wp2_with (fail)
    refine (LaidOk_is _ _ r L _ R0.out.v (HU.out.below B0.out) true HK.out).mono ?_
    rintro e w1 ⟨rfl, hb⟩
    have R1 := Lib.hid (R0.out.on hb)
    have B1 := Lib.hid (B0.out.trans (hb.mono B0.out.size))
    clear hb
    obtain ⟨x0, x1, x2⟩ := R1.out.c3
    go_wp2_with (fail)
    have hclen : inB c 0 (r.cells.length - 1) = inB c 0 ((L.length : Int) - 1) := by rw [HN.out]
    cases hc : inB c 0 (r.cells.length - 1)
    · have HNO := Lib.hid (show liftOk L c = false by unfold liftOk; rw [← hclen, hc]; rfl)
      refine (has_is _ r c _ R1.out.v false hc).mono ?_
      rintro e w2 ⟨rfl, hb⟩
      have B2 := Lib.hid (B1.out.trans (hb.mono B1.out.size))
      clear hb x0 x1 x2 hclen
      go_wp2_with (fail)
      refine (clone_int _ L _ (HU.out.below B2.out) hl1 (by omega)).mono ?_
      rintro e w3 ⟨v3, rfl, hcl, hb⟩
      have B3 := Lib.hid (B2.out.trans (hb.mono B2.out.size))
      have V3 := Lib.hid hcl.sl
      clear hb hcl
      go_wp2
      go_ret2
      exact liftOne_post (liftOne_same HK.out HNO.out) V3.out B3.out
    · have hcc := inB_iff.1 hc
      obtain ⟨k, rfl⟩ := Int.eq_ofNat_of_zero_le hcc.1
      have hkL : k < L.length := by have := HN.out; omega
      clear hclen
      refine (has_is _ r k _ R1.out.v true hc).mono ?_
      rintro e w2 ⟨rfl, hb⟩
      have R2 := Lib.hid (R1.out.on hb)
      have B2 := Lib.hid (B1.out.trans (hb.mono B1.out.size))
      clear hb x0 x1 x2
      obtain ⟨x0, x1, x2⟩ := R2.out.c3
      obtain ⟨ub, uo, uc', hue, hub, hucell, -, -⟩ := Il.pos HU.out hl1
      obtain ⟨rfl, rfl⟩ : ua = some ⟨ub, uo, none⟩ ∧ uc = uc' := by simpa using hue
      have huk := hucell w2 B2.out k hkL
      clear hue hucell
      obtain ⟨x, hx⟩ : ∃ x, L.getD k 0 = x := ⟨_, rfl⟩
      rw [hx] at huk
      have HX := Lib.hid hx
      clear hx
      by_cases hx0 : x = 0
      · subst hx0
        have HNO := Lib.hid (show liftOk L k = false by
          cases e : liftOk L k
          · rfl
          · exact absurd HX.out (by have := (liftOk_iff.1 e).2; rwa [Int.toNat_natCast] at this))
        go_wp2_with (fail)
        refine (clone_int _ L _ (HU.out.below B2.out) hl1 (by omega)).mono ?_
        rintro e w3 ⟨v3, rfl, hcl, hb⟩
        have B3 := Lib.hid (B2.out.trans (hb.mono B2.out.size))
        have V3 := Lib.hid hcl.sl
        clear hb hcl x0 x1 x2 huk
        go_wp2
        go_ret2
        exact liftOne_post (liftOne_same HK.out HNO.out) V3.out B3.out
      · have hxe : (x == 0) = false := by simpa using hx0
        have HYES := Lib.hid (show liftOk L k = true from liftOk_iff.2 ⟨by omega, by rw [Int.toNat_natCast, HX.out]; exact hx0⟩)
        go_wp2_with (fail)
        refine (lift_any _ _ r L k _ R2.out.v (HU.out.below B2.out) HK.out hkL (by rw [HX.out]; exact hx0)).mono ?_
        rintro e w3 ⟨v3, rfl, hv3, hb⟩
        have B3 := Lib.hid (B2.out.trans (hb.mono B2.out.size))
        have V3 := Lib.hid hv3
        clear hb hv3 x0 x1 x2 huk
        go_wp2
        go_ret2
        exact liftOne_post (liftOne_yes HK.out HYES.out) V3.out B3.out

end Go.Proofs.Ytnmoaecihmjnnaa
