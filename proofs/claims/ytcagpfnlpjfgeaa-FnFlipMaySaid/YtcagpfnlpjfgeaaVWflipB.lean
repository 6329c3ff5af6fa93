/- Walks: flip, FlipOne, flips, FlipsOf of the program. -/
import Derived.Test.YtcagpfnlpjfgeaaVWflip
import Derived.Test.YtcagpfnlpjfgeaaZa
set_option linter.unusedVariables false
namespace Go.Proofs.Ytcagpfnlpjfgeaa
open Go.RowKit Domi

/-- A list with those of four entries set that are done. -/
def fourD (L : List Int) (k a b d : Nat) (x y z u : Int) (p q s t : Bool) : List Int :=
  (List.range L.length).map fun i => if t && decide (i = d) then u else if s && decide (i = b) then z else if q && decide (i = a) then y else if p && decide (i = k) then x else L.getD i 0
theorem fourD_len (L : List Int) (k a b d : Nat) (x y z u : Int) (p q s t : Bool) : (fourD L k a b d x y z u p q s t).length = L.length := by simp [fourD]
theorem fourD_none (L : List Int) (k a b d : Nat) (x y z u : Int) : fourD L k a b d x y z u false false false false = L := by
  apply List.ext_getElem
  · simp [fourD]
  · intro i h1 h2; simp [fourD, h2]
theorem fourD_set1 {L : List Int} {k a b d : Nat} {x y z u : Int} {q s t : Bool} (p : Bool) (h : k ≠ a ∧ k ≠ b ∧ k ≠ d) : (fourD L k a b d x y z u p q s t).set k x = fourD L k a b d x y z u true q s t := by
  apply List.ext_getElem
  · simp [fourD]
  · intro i h1 h2
    simp only [fourD, List.getElem_set, List.getElem_map, List.getElem_range]
    by_cases e : k = i
    · subst e; simp [h.1, h.2.1, h.2.2]
    · have e' : ¬ i = k := fun e1 => e e1.symm
      simp [e, e']
theorem fourD_set2 {L : List Int} {k a b d : Nat} {x y z u : Int} {p s t : Bool} (q : Bool) (h : a ≠ b ∧ a ≠ d) : (fourD L k a b d x y z u p q s t).set a y = fourD L k a b d x y z u p true s t := by
  apply List.ext_getElem
  · simp [fourD]
  · intro i h1 h2
    simp only [fourD, List.getElem_set, List.getElem_map, List.getElem_range]
    by_cases e : a = i
    · subst e; simp [h.1, h.2]
    · have e' : ¬ i = a := fun e1 => e e1.symm
      simp [e, e']
theorem fourD_set3 {L : List Int} {k a b d : Nat} {x y z u : Int} {p q t : Bool} (s : Bool) (h : b ≠ d) : (fourD L k a b d x y z u p q s t).set b z = fourD L k a b d x y z u p q true t := by
  apply List.ext_getElem
  · simp [fourD]
  · intro i h1 h2
    simp only [fourD, List.getElem_set, List.getElem_map, List.getElem_range]
    by_cases e : b = i
    · subst e; simp [h]
    · have e' : ¬ i = b := fun e1 => e e1.symm
      simp [e, e']
theorem fourD_set4 {L : List Int} {k a b d : Nat} {x y z u : Int} {p q s : Bool} (t : Bool) : (fourD L k a b d x y z u p q s t).set d u = fourD L k a b d x y z u p q s true := by
  apply List.ext_getElem
  · simp [fourD]
  · intro i h1 h2
    simp only [fourD, List.getElem_set, List.getElem_map, List.getElem_range]
    by_cases e : d = i
    · subst e; simp
    · have e' : ¬ i = d := fun e1 => e e1.symm
      simp [e, e']
theorem fourD_all {L : List Int} {k w : Nat} (h2 : 2 ≤ w) (h : k + w + 1 < L.length) (x y z u : Int) : fourD L k (k + 1) (k + w) (k + w + 1) x y z u true true true true = four L k w x y z u := by
  apply List.ext_getElem
  · rw [fourD_len, four_len]
  · intro i h1 h3
    have e := four_get h2 h x y z u i
    rw [List.getD_eq_getElem?_getD, List.getElem?_eq_getElem h3, Option.getD_some] at e
    rw [e]
    simp only [fourD, List.getElem_map, List.getElem_range, Bool.true_and, decide_eq_true_eq]
    simp only [eq_comm]

/-- The world in the midst of the four stores. -/
def FlipG (w : World) (r : Reg) (s : Value) (g X : Nat) (L : List Int) (k a b d : Nat) (x y z u : Int) (D : Nat → Bool) (W : World) : Prop :=
  ∃ cur, Sep w none W [.box w.heap.size #[.int .i64 r.wide, .int .i64 r.tall, s] 25, .box g cur 3, .box X #[.int .i64 k, .int .i64 a, .int .i64 b, .int .i64 d] 98] ∧
    cur.toList.take L.length = (fourD L k a b d x y z u (D 13) (D 15) (D 17) (D 19)).map (Value.int .i64)
def FlipV (g X n k a b d : Nat) : Nat → Value
  | 0 => .slice (some ⟨g, 0, none⟩) n n
  | 1 => .pointer (some ⟨X, 0, none⟩)
  | 2 => .int .i64 k
  | 3 => .slice (some ⟨g, 0, none⟩) n n
  | 4 => .pointer (some ⟨X, 1, none⟩)
  | 5 => .int .i64 a
  | 6 => .slice (some ⟨g, 0, none⟩) n n
  | 7 => .pointer (some ⟨X, 2, none⟩)
  | 8 => .int .i64 b
  | 9 => .slice (some ⟨g, 0, none⟩) n n
  | 10 => .pointer (some ⟨X, 3, none⟩)
  | 11 => .int .i64 d
  | 12 => .pointer (some ⟨g, k, none⟩)
  | 14 => .pointer (some ⟨g, a, none⟩)
  | 16 => .pointer (some ⟨g, b, none⟩)
  | 18 => .pointer (some ⟨g, d, none⟩)
  | _ => undef
theorem FlipG.to {w : World} {r : Reg} {s : Value} {g X : Nat} {L : List Int} {k a b d i : Nat} {x y z u : Int} {D : Nat → Bool} {W : World} (h : FlipG w r s g X L k a b d x y z u D W) (hi : i ≠ 13 ∧ i ≠ 15 ∧ i ≠ 17 ∧ i ≠ 19) :
    FlipG w r s g X L k a b d x y z u (fun j => D j || j == i) W := by
  obtain ⟨cur, hS, hT⟩ := h
  have e1 : (13 == i) = false := by simp; omega
  have e2 : (15 == i) = false := by simp; omega
  have e3 : (17 == i) = false := by simp; omega
  have e4 : (19 == i) = false := by simp; omega
  exact ⟨cur, hS, by simpa only [e1, e2, e3, e4, Bool.or_false] using hT⟩
theorem four_cells4 {w : World} {g : Nat} {x y z u : Value} {t : TypeId} (h : w.heap[g]? = some (.cells #[x, y, z, u] t (0, 0))) : w.cell? ⟨g, 0, none⟩ = some x ∧ w.cell? ⟨g, 1, none⟩ = some y ∧ w.cell? ⟨g, 2, none⟩ = some z ∧ w.cell? ⟨g, 3, none⟩ = some u := by
  refine ⟨?_, ?_, ?_, ?_⟩ <;> rw [cell_of_row _ g _ _ t (0, 0) h] <;> rfl
def RetWB (l : List Int × Bool) (w : World) (e : Ending) (w' : World) : Prop := ∃ v, e = .returned (.tuple #[v, .bool l.2]) ∧ Ow w' w.heap.size 3 v (l.1.map (Value.int .i64)) ∧ Below w.heap.size w w'
def RetW (l : List Int) (w : World) (e : Ending) (w' : World) : Prop := ∃ v, e = .returned v ∧ Ow w' w.heap.size 3 v (l.map (Value.int .i64)) ∧ Below w.heap.size w w'
theorem retWB_mk {q x : List Int × Bool} (h : q = x) {w w' : World} {v : Value} (hv : Ow w' w.heap.size 3 v (x.1.map (Value.int .i64))) (hb : Below w.heap.size w w') : RetWB q w (.returned (.tuple #[v, .bool x.2])) w' := by subst h; exact ⟨v, rfl, hv, hb⟩
theorem box_ow {w : World} {B g n : Nat} {cur : Array Value} {e : TypeId} {xs : List Value} (h : w.heap[g]? = some (.cells cur e (0, 0))) (ht : cur.toList.take n = xs) (hn : xs.length = n) (hB : B ≤ g) (hm : n ≤ 1000) : Ow w B e (.slice (some ⟨g, 0, none⟩) n n) xs :=
  .inr ⟨g, n, cur, by rw [hn], hB, h, by omega, by omega, by rw [hn]; exact ht⟩

set_option maxRecDepth 100000 in
set_option maxHeartbeats 4000000 in
theorem flip_any (v u : Value) (r : Reg) (L : List Int) (c : Int) (w : World) (h : RegV w v r) (hu : Il w u L) (hv : r.valid = true) (hlen : L.length = r.cells.length) (hc : -9223372036854775808 ≤ c ∧ c ≤ 9223372036854775807) :
    Calls Try.prog 96 #[v, u, .int .i64 c] w (RetWB (flipL r L c, canFl r L c) w) := by
  obtain ⟨v1, v2, v3, _⟩ := Reg.valid_iff.1 hv
  have hA := area_in v1 v2
  have hl1 : 0 < L.length := by omega
  have hl36 : L.length ≤ 36 := by omega
  obtain ⟨ra, rc, rfl, hs, hlc, hcm⟩ := h.opened
  have S0 := Lib.hid ((Sep.start w none).box #[.int .i64 r.wide, .int .i64 r.tall, .slice ra r.cells.length rc] 25)
  have HS := Lib.hid hs
  have HU := Lib.hid hu
  have RV : Hid (∀ w', Below w.heap.size w w' → RegV w' (.agg #[.int .i64 r.wide, .int .i64 r.tall, .slice ra r.cells.length rc]) r) := Lib.hid fun w' hb => ⟨_, rfl, HS.out.below hb⟩
  have HN := Lib.hid hlen
  obtain ⟨f, hf⟩ : ∃ f, flatC r L c = f := ⟨_, rfl⟩
  obtain ⟨m, hm⟩ : ∃ m, uprC r L c = m := ⟨_, rfl⟩
  obtain ⟨R, hR⟩ : ∃ R, R = (flipL r L c, canFl r L c) := ⟨_, rfl⟩
  rw [← hR]
  have HR := Lib.hid hR
  have HF := Lib.hid hf
  have HM := Lib.hid hm
  clear h hs hu hlen v3 hf hm hR
  go_enter Try.func96, Try.ntmps96
  go_wp2_with (fail)
  refine (clone_int _ L _ (HU.out.below S0.out.bel) hl1 (by omega)).mono ?_
  rintro e w1 ⟨v1', rfl, hcl, hb⟩
  obtain ⟨g, cur, rfl, hg1, hg2, ht, _⟩ := hcl
  rw [List.length_map] at ht
  rw [List.length_map]
  have S1 := Lib.hid (S0.out.cloned hb hg1 hg2)
  have T1 := Lib.hid ht
  clear hb hg1 hg2 ht S0
  obtain ⟨x0, x1, x2⟩ := S1.out.c3 0 rfl
  go_wp2_with (fail)
  refine (flippable_any _ _ r L c _ (RV.out _ S1.out.bel) (HU.out.below S1.out.bel) hv HN.out hc f m HF.out HM.out).mono ?_
  rintro e w2 ⟨rfl, hb⟩
  have S2 := Lib.hid (S1.out.below hb)
  clear hb S1 x0 x1 x2
  obtain ⟨x0, x1, x2⟩ := S2.out.c3 0 rfl
  go_wp2_with (fail)
  refine (around_any _ r c _ (RV.out _ S2.out.bel) hv hc).mono ?_
  rintro e w3 ⟨rfl, hb⟩
  have S3 := Lib.hid (S2.out.below hb)
  clear hb S2 x0 x1 x2
  cases hcan : canFl r L c
  · have e1 : f = false := by rw [← HF.out]; unfold canFl at hcan; rw [Bool.or_eq_false_iff] at hcan; exact hcan.1
    have e2 : m = false := by rw [← HM.out]; unfold canFl at hcan; rw [Bool.or_eq_false_iff] at hcan; exact hcan.2
    subst e1 e2
    have HEND : Hid (R = (L, false)) := Lib.hid (by rw [HR.out, flipL_no hcan, hcan])
    have HA4 : Hid (∃ p q s t : Int, arV r c = .agg #[.int .i64 p, .int .i64 q, .int .i64 s, .int .i64 t]) := Lib.hid (by
      cases har : arOk r c
      · exact ⟨_, _, _, _, arV_no har⟩
      · exact ⟨_, _, _, _, arV_yes har⟩)
    obtain ⟨p, q, s, t, hpq⟩ := HA4.out
    rw [hpq]
    have S4 := Lib.hid (S3.out.box #[.int .i64 p, .int .i64 q, .int .i64 s, .int .i64 t] 98)
    clear hpq HA4 hcan
    go_wp2
    go_ret2
    exact retWB_mk HEND.out (box_ow (S4.out.blk 1 rfl) T1.out (by simp) (S4.out.ge 1 rfl rfl) (by omega)) S4.out.bel
  · have har := canFl_ar hcan
    obtain ⟨k, wd, Q⟩ := sq_of hv har
    rw [arV_sq har Q]
    have hlt := Q.lt
    have hw2 := Q.w2
    have HNL := HN.out
    have hfl : f = true → flipL r L c = four L k wd 2 2 4 4 := fun e => flipL_flat Q (HF.out.trans e)
    have hup : f = false → flipL r L c = four L k wd 1 3 1 3 := fun e => flipL_upr Q (HF.out.trans e) (by
      have : canFl r L c = true := hcan
      unfold canFl at this; rw [HF.out, e, Bool.false_or] at this; exact this)
    have hm1 : f = false → m = true := fun e => by
      have : canFl r L c = true := hcan
      unfold canFl at this; rw [HF.out, e, Bool.false_or] at this; rw [← HM.out]; exact this
    have HEND : Hid (R = (flipL r L c, true)) := Lib.hid (by rw [HR.out, hcan])
    have hall2 := fun x y z u => fourD_all (L := L) (k := k) (w := wd) hw2 (by omega) x y z u
    obtain ⟨a, ha⟩ : ∃ x, k + 1 = x := ⟨_, rfl⟩
    obtain ⟨b, hb⟩ : ∃ x, k + wd = x := ⟨_, rfl⟩
    obtain ⟨d, hd⟩ : ∃ x, b + 1 = x := ⟨_, rfl⟩
    rw [ha, hb, hd] at hall2 ⊢
    have l0 : k < L.length := by omega
    have l1 : a < L.length := by omega
    have l2 : b < L.length := by omega
    have l3 : d < L.length := by omega
    have n1 : k ≠ a := by omega
    have n2 : k ≠ b := by omega
    have n3 : k ≠ d := by omega
    have n4 : a ≠ b := by omega
    have n5 : a ≠ d := by omega
    have n6 : b ≠ d := by omega
    have S4 := Lib.hid (S3.out.box #[.int .i64 (k : Nat), .int .i64 (a : Nat), .int .i64 (b : Nat), .int .i64 (d : Nat)] 98)
    have T4 := T1
    have BX := Lib.hid (S3.out.bel.trans ((below_alloc w3 (.cells #[.int .i64 (k : Nat), .int .i64 (a : Nat), .int .i64 (b : Nat), .int .i64 (d : Nat)] 98)).mono S3.out.bel.size))
    generalize hX : w3.heap.size = X at S4
    have hAL := Lib.hid hall2
    have hFL := Lib.hid hfl
    have hUP := Lib.hid hup
    clear har Q ha hb hd hlt hw2 HNL hcan hall2 hfl hup S3 HR T1
    cases f
    · obtain rfl : m = true := hm1 rfl
      clear hm1
      have HFIN : Hid (∀ cy : Array Value, cy.toList.take L.length = (fourD L k a b d 1 3 1 3 true true true true).map (Value.int .i64) → cy.toList.take L.length = (flipL r L c).map (Value.int .i64)) := Lib.hid fun cy h => by rw [h, hAL.out, hUP.out rfl]
      go_wp2_with (fail)
      try rw [hX]
      obtain ⟨W4, hW4⟩ : ∃ W, W = w3.alloc (.cells #[.int .i64 (k : Nat), .int .i64 (a : Nat), .int .i64 (b : Nat), .int .i64 (d : Nat)] 98) := ⟨_, rfl⟩
      rw [← hW4] at S4 ⊢
      clear hW4 hX hAL hFL hUP BX
      refine wp_region_by (fun i v _ => v = FlipV g X L.length k a b d i) (FlipG w r (.slice ra r.cells.length rc) g X L k a b d 1 3 1 3) (fun _ _ => True) (by kernel_rfl) (by kernel_rfl) ?_ ?_ ?_ ?_ ?_
      · exact fun i v x y h _ => h
      · exact ⟨cur, S4.out.drew, by rw [fourD_none]; exact T4.out⟩
      · intro i o D b' y ho hg hf hD hall
        have hi : i = 0 ∨ i = 1 ∨ i = 2 ∨ i = 3 ∨ i = 4 ∨ i = 5 ∨ i = 6 ∨ i = 7 ∨ i = 8 ∨ i = 9 ∨ i = 10 ∨ i = 11 ∨ i = 12 ∨ i = 13 ∨ i = 14 ∨ i = 15 ∨ i = 16 ∨ i = 17 ∨ i = 18 ∨ i = 19 := by
          have := (List.getElem?_eq_some_iff.1 ho).1
          simp at this
          omega
        obtain ⟨cy, hS, hT⟩ := id hg
        have SY := Lib.hid hS
        have TY := Lib.hid hT
        obtain ⟨q0, q1, q2, q3⟩ := four_cells4 (SY.out.blk 2 rfl)
        clear hS hT
        rcases hi with rfl | rfl | rfl | rfl | rfl | rfl | rfl | rfl | rfl | rfl | rfl | rfl | rfl | rfl | rfl | rfl | rfl | rfl | rfl | rfl
        · cases Option.some.inj ho
          have e0 := hf.was 8 _ (by kernel_rfl) rfl
          refine wpOp_at rfl rfl ?_
          simp [Oper.wp, go_sem, e0]
          exact ⟨_, rfl, rfl, hg.to (by decide)⟩
        · cases Option.some.inj ho
          have e0 := hf.was 11 _ (by kernel_rfl) rfl
          refine wpOp_at rfl rfl ?_
          simp [Oper.wp, go_sem, e0]
          exact ⟨_, rfl, rfl, hg.to (by decide)⟩
        · cases Option.some.inj ho
          have e0 : _ = _ := hf.has 1 49 rfl (hall ⟨1, .data⟩ (by simp) rfl)
          simp only [FlipV] at e0
          refine wpOp_at rfl rfl ?_
          simp [Oper.wp, go_sem, e0, q0]
          exact ⟨_, rfl, rfl, hg.to (by decide)⟩
        · cases Option.some.inj ho
          have e0 := hf.was 8 _ (by kernel_rfl) rfl
          refine wpOp_at rfl rfl ?_
          simp [Oper.wp, go_sem, e0]
          exact ⟨_, rfl, rfl, hg.to (by decide)⟩
        · cases Option.some.inj ho
          have e0 := hf.was 11 _ (by kernel_rfl) rfl
          refine wpOp_at rfl rfl ?_
          simp [Oper.wp, go_sem, e0]
          exact ⟨_, rfl, rfl, hg.to (by decide)⟩
        · cases Option.some.inj ho
          have e0 : _ = _ := hf.has 4 52 rfl (hall ⟨4, .data⟩ (by simp) rfl)
          simp only [FlipV] at e0
          refine wpOp_at rfl rfl ?_
          simp [Oper.wp, go_sem, e0, q1]
          exact ⟨_, rfl, rfl, hg.to (by decide)⟩
        · cases Option.some.inj ho
          have e0 := hf.was 8 _ (by kernel_rfl) rfl
          refine wpOp_at rfl rfl ?_
          simp [Oper.wp, go_sem, e0]
          exact ⟨_, rfl, rfl, hg.to (by decide)⟩
        · cases Option.some.inj ho
          have e0 := hf.was 11 _ (by kernel_rfl) rfl
          refine wpOp_at rfl rfl ?_
          simp [Oper.wp, go_sem, e0]
          exact ⟨_, rfl, rfl, hg.to (by decide)⟩
        · cases Option.some.inj ho
          have e0 : _ = _ := hf.has 7 55 rfl (hall ⟨7, .data⟩ (by simp) rfl)
          simp only [FlipV] at e0
          refine wpOp_at rfl rfl ?_
          simp [Oper.wp, go_sem, e0, q2]
          exact ⟨_, rfl, rfl, hg.to (by decide)⟩
        · cases Option.some.inj ho
          have e0 := hf.was 8 _ (by kernel_rfl) rfl
          refine wpOp_at rfl rfl ?_
          simp [Oper.wp, go_sem, e0]
          exact ⟨_, rfl, rfl, hg.to (by decide)⟩
        · cases Option.some.inj ho
          have e0 := hf.was 11 _ (by kernel_rfl) rfl
          refine wpOp_at rfl rfl ?_
          simp [Oper.wp, go_sem, e0]
          exact ⟨_, rfl, rfl, hg.to (by decide)⟩
        · cases Option.some.inj ho
          have e0 : _ = _ := hf.has 10 58 rfl (hall ⟨10, .data⟩ (by simp) rfl)
          simp only [FlipV] at e0
          refine wpOp_at rfl rfl ?_
          simp [Oper.wp, go_sem, e0, q3]
          exact ⟨_, rfl, rfl, hg.to (by decide)⟩
        · cases Option.some.inj ho
          have e0 : _ = _ := hf.has 0 48 rfl (hall ⟨0, .data⟩ (by simp) rfl)
          have e1 : _ = _ := hf.has 2 50 rfl (hall ⟨2, .data⟩ (by simp) rfl)
          simp only [FlipV] at e0 e1
          refine wpOp_at rfl rfl ?_
          simp [Oper.wp, go_sem, e0, e1, l0]
          exact ⟨_, rfl, rfl, hg.to (by decide)⟩
        · cases Option.some.inj ho
          have e0 : _ = _ := hf.has 12 60 rfl (hall ⟨12, .data⟩ (by simp) rfl)
          simp only [FlipV] at e0
          obtain ⟨q, z1, z2, _⟩ := box_cell (SY.out.blk 1 rfl) TY.out (k := k) (by rw [List.length_map, fourD_len]; exact l0)
          have S5 := SY.out.put 1 rfl k (.int .i64 1)
          have T5 := take_put (k := k) (v := .int .i64 1) TY.out
          rw [← List.map_set, fourD_set1 _ ⟨n1, n2, n3⟩] at T5
          refine wpOp_at rfl rfl ?_
          simp [Oper.wp, go_sem, e0, z1, z2]
          exact ⟨_, S5, by simpa using T5⟩
        · cases Option.some.inj ho
          have e0 : _ = _ := hf.has 3 51 rfl (hall ⟨3, .data⟩ (by simp) rfl)
          have e1 : _ = _ := hf.has 5 53 rfl (hall ⟨5, .data⟩ (by simp) rfl)
          simp only [FlipV] at e0 e1
          refine wpOp_at rfl rfl ?_
          simp [Oper.wp, go_sem, e0, e1, l1]
          exact ⟨_, rfl, rfl, hg.to (by decide)⟩
        · cases Option.some.inj ho
          have e0 : _ = _ := hf.has 14 61 rfl (hall ⟨14, .data⟩ (by simp) rfl)
          simp only [FlipV] at e0
          obtain ⟨q, z1, z2, _⟩ := box_cell (SY.out.blk 1 rfl) TY.out (k := a) (by rw [List.length_map, fourD_len]; exact l1)
          have S5 := SY.out.put 1 rfl a (.int .i64 3)
          have T5 := take_put (k := a) (v := .int .i64 3) TY.out
          rw [← List.map_set, fourD_set2 _ ⟨n4, n5⟩] at T5
          refine wpOp_at rfl rfl ?_
          simp [Oper.wp, go_sem, e0, z1, z2]
          exact ⟨_, S5, by simpa using T5⟩
        · cases Option.some.inj ho
          have e0 : _ = _ := hf.has 6 54 rfl (hall ⟨6, .data⟩ (by simp) rfl)
          have e1 : _ = _ := hf.has 8 56 rfl (hall ⟨8, .data⟩ (by simp) rfl)
          simp only [FlipV] at e0 e1
          refine wpOp_at rfl rfl ?_
          simp [Oper.wp, go_sem, e0, e1, l2]
          exact ⟨_, rfl, rfl, hg.to (by decide)⟩
        · cases Option.some.inj ho
          have e0 : _ = _ := hf.has 16 62 rfl (hall ⟨16, .data⟩ (by simp) rfl)
          simp only [FlipV] at e0
          obtain ⟨q, z1, z2, _⟩ := box_cell (SY.out.blk 1 rfl) TY.out (k := b) (by rw [List.length_map, fourD_len]; exact l2)
          have S5 := SY.out.put 1 rfl b (.int .i64 1)
          have T5 := take_put (k := b) (v := .int .i64 1) TY.out
          rw [← List.map_set, fourD_set3 _ n6] at T5
          refine wpOp_at rfl rfl ?_
          simp [Oper.wp, go_sem, e0, z1, z2]
          exact ⟨_, S5, by simpa using T5⟩
        · cases Option.some.inj ho
          have e0 : _ = _ := hf.has 9 57 rfl (hall ⟨9, .data⟩ (by simp) rfl)
          have e1 : _ = _ := hf.has 11 59 rfl (hall ⟨11, .data⟩ (by simp) rfl)
          simp only [FlipV] at e0 e1
          refine wpOp_at rfl rfl ?_
          simp [Oper.wp, go_sem, e0, e1, l3]
          exact ⟨_, rfl, rfl, hg.to (by decide)⟩
        · cases Option.some.inj ho
          have e0 : _ = _ := hf.has 18 63 rfl (hall ⟨18, .data⟩ (by simp) rfl)
          simp only [FlipV] at e0
          obtain ⟨q, z1, z2, _⟩ := box_cell (SY.out.blk 1 rfl) TY.out (k := d) (by rw [List.length_map, fourD_len]; exact l3)
          have S5 := SY.out.put 1 rfl d (.int .i64 3)
          have T5 := take_put (k := d) (v := .int .i64 3) TY.out
          rw [← List.map_set, fourD_set4 _] at T5
          refine wpOp_at rfl rfl ?_
          simp [Oper.wp, go_sem, e0, z1, z2]
          exact ⟨_, S5, by simpa using T5⟩
      · intro v y hg hfacts
        obtain ⟨cy, hS, hT⟩ := hg
        have SY := Lib.hid hS
        have TY := Lib.hid (show cy.toList.take L.length = (fourD L k a b d 1 3 1 3 true true true true).map (Value.int .i64) from hT)
        have FN := Lib.hid (HFIN.out cy TY.out)
        clear hS hT hfacts T4 S4
        simp only [List.filterMap_cons, List.filterMap_nil, puts]
        go_wp2
        go_ret2
        exact retWB_mk HEND.out (box_ow (SY.out.blk 1 rfl) FN.out (by rw [List.length_map, flipL_len]) (SY.out.ge 1 rfl rfl) (by omega)) SY.out.bel
      · rintro D D' x hD ⟨cy, hS, hT⟩
        exact ⟨cy, hS, by rw [← hD 13 (by simp), ← hD 15 (by simp), ← hD 17 (by simp), ← hD 19 (by simp)]; exact hT⟩
    · clear hm1
      have HFIN : Hid (∀ cy : Array Value, cy.toList.take L.length = (fourD L k a b d 2 2 4 4 true true true true).map (Value.int .i64) → cy.toList.take L.length = (flipL r L c).map (Value.int .i64)) := Lib.hid fun cy h => by rw [h, hAL.out, hFL.out rfl]
      go_wp2_with (fail)
      try rw [hX]
      obtain ⟨W4, hW4⟩ : ∃ W, W = w3.alloc (.cells #[.int .i64 (k : Nat), .int .i64 (a : Nat), .int .i64 (b : Nat), .int .i64 (d : Nat)] 98) := ⟨_, rfl⟩
      rw [← hW4] at S4 ⊢
      clear hW4 hX hAL hFL hUP BX
      refine wp_region_by (fun i v _ => v = FlipV g X L.length k a b d i) (FlipG w r (.slice ra r.cells.length rc) g X L k a b d 2 2 4 4) (fun _ _ => True) (by kernel_rfl) (by kernel_rfl) ?_ ?_ ?_ ?_ ?_
      · exact fun i v x y h _ => h
      · exact ⟨cur, S4.out.drew, by rw [fourD_none]; exact T4.out⟩
      · intro i o D b' y ho hg hf hD hall
        have hi : i = 0 ∨ i = 1 ∨ i = 2 ∨ i = 3 ∨ i = 4 ∨ i = 5 ∨ i = 6 ∨ i = 7 ∨ i = 8 ∨ i = 9 ∨ i = 10 ∨ i = 11 ∨ i = 12 ∨ i = 13 ∨ i = 14 ∨ i = 15 ∨ i = 16 ∨ i = 17 ∨ i = 18 ∨ i = 19 := by
          have := (List.getElem?_eq_some_iff.1 ho).1
          simp at this
          omega
        obtain ⟨cy, hS, hT⟩ := id hg
        have SY := Lib.hid hS
        have TY := Lib.hid hT
        obtain ⟨q0, q1, q2, q3⟩ := four_cells4 (SY.out.blk 2 rfl)
        clear hS hT
        rcases hi with rfl | rfl | rfl | rfl | rfl | rfl | rfl | rfl | rfl | rfl | rfl | rfl | rfl | rfl | rfl | rfl | rfl | rfl | rfl | rfl
        · cases Option.some.inj ho
          have e0 := hf.was 8 _ (by kernel_rfl) rfl
          refine wpOp_at rfl rfl ?_
          simp [Oper.wp, go_sem, e0]
          exact ⟨_, rfl, rfl, hg.to (by decide)⟩
        · cases Option.some.inj ho
          have e0 := hf.was 11 _ (by kernel_rfl) rfl
          refine wpOp_at rfl rfl ?_
          simp [Oper.wp, go_sem, e0]
          exact ⟨_, rfl, rfl, hg.to (by decide)⟩
        · cases Option.some.inj ho
          have e0 : _ = _ := hf.has 1 31 rfl (hall ⟨1, .data⟩ (by simp) rfl)
          simp only [FlipV] at e0
          refine wpOp_at rfl rfl ?_
          simp [Oper.wp, go_sem, e0, q0]
          exact ⟨_, rfl, rfl, hg.to (by decide)⟩
        · cases Option.some.inj ho
          have e0 := hf.was 8 _ (by kernel_rfl) rfl
          refine wpOp_at rfl rfl ?_
          simp [Oper.wp, go_sem, e0]
          exact ⟨_, rfl, rfl, hg.to (by decide)⟩
        · cases Option.some.inj ho
          have e0 := hf.was 11 _ (by kernel_rfl) rfl
          refine wpOp_at rfl rfl ?_
          simp [Oper.wp, go_sem, e0]
          exact ⟨_, rfl, rfl, hg.to (by decide)⟩
        · cases Option.some.inj ho
          have e0 : _ = _ := hf.has 4 34 rfl (hall ⟨4, .data⟩ (by simp) rfl)
          simp only [FlipV] at e0
          refine wpOp_at rfl rfl ?_
          simp [Oper.wp, go_sem, e0, q1]
          exact ⟨_, rfl, rfl, hg.to (by decide)⟩
        · cases Option.some.inj ho
          have e0 := hf.was 8 _ (by kernel_rfl) rfl
          refine wpOp_at rfl rfl ?_
          simp [Oper.wp, go_sem, e0]
          exact ⟨_, rfl, rfl, hg.to (by decide)⟩
        · cases Option.some.inj ho
          have e0 := hf.was 11 _ (by kernel_rfl) rfl
          refine wpOp_at rfl rfl ?_
          simp [Oper.wp, go_sem, e0]
          exact ⟨_, rfl, rfl, hg.to (by decide)⟩
        · cases Option.some.inj ho
          have e0 : _ = _ := hf.has 7 37 rfl (hall ⟨7, .data⟩ (by simp) rfl)
          simp only [FlipV] at e0
          refine wpOp_at rfl rfl ?_
          simp [Oper.wp, go_sem, e0, q2]
          exact ⟨_, rfl, rfl, hg.to (by decide)⟩
        · cases Option.some.inj ho
          have e0 := hf.was 8 _ (by kernel_rfl) rfl
          refine wpOp_at rfl rfl ?_
          simp [Oper.wp, go_sem, e0]
          exact ⟨_, rfl, rfl, hg.to (by decide)⟩
        · cases Option.some.inj ho
          have e0 := hf.was 11 _ (by kernel_rfl) rfl
          refine wpOp_at rfl rfl ?_
          simp [Oper.wp, go_sem, e0]
          exact ⟨_, rfl, rfl, hg.to (by decide)⟩
        · cases Option.some.inj ho
          have e0 : _ = _ := hf.has 10 40 rfl (hall ⟨10, .data⟩ (by simp) rfl)
          simp only [FlipV] at e0
          refine wpOp_at rfl rfl ?_
          simp [Oper.wp, go_sem, e0, q3]
          exact ⟨_, rfl, rfl, hg.to (by decide)⟩
        · cases Option.some.inj ho
          have e0 : _ = _ := hf.has 0 30 rfl (hall ⟨0, .data⟩ (by simp) rfl)
          have e1 : _ = _ := hf.has 2 32 rfl (hall ⟨2, .data⟩ (by simp) rfl)
          simp only [FlipV] at e0 e1
          refine wpOp_at rfl rfl ?_
          simp [Oper.wp, go_sem, e0, e1, l0]
          exact ⟨_, rfl, rfl, hg.to (by decide)⟩
        · cases Option.some.inj ho
          have e0 : _ = _ := hf.has 12 42 rfl (hall ⟨12, .data⟩ (by simp) rfl)
          simp only [FlipV] at e0
          obtain ⟨q, z1, z2, _⟩ := box_cell (SY.out.blk 1 rfl) TY.out (k := k) (by rw [List.length_map, fourD_len]; exact l0)
          have S5 := SY.out.put 1 rfl k (.int .i64 2)
          have T5 := take_put (k := k) (v := .int .i64 2) TY.out
          rw [← List.map_set, fourD_set1 _ ⟨n1, n2, n3⟩] at T5
          refine wpOp_at rfl rfl ?_
          simp [Oper.wp, go_sem, e0, z1, z2]
          exact ⟨_, S5, by simpa using T5⟩
        · cases Option.some.inj ho
          have e0 : _ = _ := hf.has 3 33 rfl (hall ⟨3, .data⟩ (by simp) rfl)
          have e1 : _ = _ := hf.has 5 35 rfl (hall ⟨5, .data⟩ (by simp) rfl)
          simp only [FlipV] at e0 e1
          refine wpOp_at rfl rfl ?_
          simp [Oper.wp, go_sem, e0, e1, l1]
          exact ⟨_, rfl, rfl, hg.to (by decide)⟩
        · cases Option.some.inj ho
          have e0 : _ = _ := hf.has 14 43 rfl (hall ⟨14, .data⟩ (by simp) rfl)
          simp only [FlipV] at e0
          obtain ⟨q, z1, z2, _⟩ := box_cell (SY.out.blk 1 rfl) TY.out (k := a) (by rw [List.length_map, fourD_len]; exact l1)
          have S5 := SY.out.put 1 rfl a (.int .i64 2)
          have T5 := take_put (k := a) (v := .int .i64 2) TY.out
          rw [← List.map_set, fourD_set2 _ ⟨n4, n5⟩] at T5
          refine wpOp_at rfl rfl ?_
          simp [Oper.wp, go_sem, e0, z1, z2]
          exact ⟨_, S5, by simpa using T5⟩
        · cases Option.some.inj ho
          have e0 : _ = _ := hf.has 6 36 rfl (hall ⟨6, .data⟩ (by simp) rfl)
          have e1 : _ = _ := hf.has 8 38 rfl (hall ⟨8, .data⟩ (by simp) rfl)
          simp only [FlipV] at e0 e1
          refine wpOp_at rfl rfl ?_
          simp [Oper.wp, go_sem, e0, e1, l2]
          exact ⟨_, rfl, rfl, hg.to (by decide)⟩
        · cases Option.some.inj ho
          have e0 : _ = _ := hf.has 16 44 rfl (hall ⟨16, .data⟩ (by simp) rfl)
          simp only [FlipV] at e0
          obtain ⟨q, z1, z2, _⟩ := box_cell (SY.out.blk 1 rfl) TY.out (k := b) (by rw [List.length_map, fourD_len]; exact l2)
          have S5 := SY.out.put 1 rfl b (.int .i64 4)
          have T5 := take_put (k := b) (v := .int .i64 4) TY.out
          rw [← List.map_set, fourD_set3 _ n6] at T5
          refine wpOp_at rfl rfl ?_
          simp [Oper.wp, go_sem, e0, z1, z2]
          exact ⟨_, S5, by simpa using T5⟩
        · cases Option.some.inj ho
          have e0 : _ = _ := hf.has 9 39 rfl (hall ⟨9, .data⟩ (by simp) rfl)
          have e1 : _ = _ := hf.has 11 41 rfl (hall ⟨11, .data⟩ (by simp) rfl)
          simp only [FlipV] at e0 e1
          refine wpOp_at rfl rfl ?_
          simp [Oper.wp, go_sem, e0, e1, l3]
          exact ⟨_, rfl, rfl, hg.to (by decide)⟩
        · cases Option.some.inj ho
          have e0 : _ = _ := hf.has 18 45 rfl (hall ⟨18, .data⟩ (by simp) rfl)
          simp only [FlipV] at e0
          obtain ⟨q, z1, z2, _⟩ := box_cell (SY.out.blk 1 rfl) TY.out (k := d) (by rw [List.length_map, fourD_len]; exact l3)
          have S5 := SY.out.put 1 rfl d (.int .i64 4)
          have T5 := take_put (k := d) (v := .int .i64 4) TY.out
          rw [← List.map_set, fourD_set4 _] at T5
          refine wpOp_at rfl rfl ?_
          simp [Oper.wp, go_sem, e0, z1, z2]
          exact ⟨_, S5, by simpa using T5⟩
      · intro v y hg hfacts
        obtain ⟨cy, hS, hT⟩ := hg
        have SY := Lib.hid hS
        have TY := Lib.hid (show cy.toList.take L.length = (fourD L k a b d 2 2 4 4 true true true true).map (Value.int .i64) from hT)
        have FN := Lib.hid (HFIN.out cy TY.out)
        clear hS hT hfacts T4 S4
        simp only [List.filterMap_cons, List.filterMap_nil, puts]
        go_wp2
        go_ret2
        exact retWB_mk HEND.out (box_ow (SY.out.blk 1 rfl) FN.out (by rw [List.length_map, flipL_len]) (SY.out.ge 1 rfl rfl) (by omega)) SY.out.bel
      · rintro D D' x hD ⟨cy, hS, hT⟩
        exact ⟨cy, hS, by rw [← hD 13 (by simp), ← hD 15 (by simp), ← hD 17 (by simp), ← hD 19 (by simp)]; exact hT⟩
end Go.Proofs.Ytcagpfnlpjfgeaa
