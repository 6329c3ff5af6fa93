/- Walks: PartRegion, PartsProduct. -/
import Derived.Test.YtbjenmfoblniaaaVWpm
import Derived.Test.YtbjenmfoblniaaaVWc
import Derived.Test.YtbjenmfoblniaaaZd
set_option linter.unusedVariables false
namespace Go.Proofs.Ytbjenmfoblniaaa
open Go.RowKit Domi

theorem own_truth {w : World} {B : Nat} {e : TypeId} {g n c : Nat} {L : List Bool} (h : Own w B e (.slice (some ⟨g, 0, none⟩) n c) (L.map Value.bool)) {j : Nat} (hj : j < L.length) :
    w.cell? ⟨g, j, none⟩ = some (.bool (L.getD j false)) ∧ w.frozen? ⟨g, j, none⟩ = false ∧ g < w.heap.size := by
  have hn : n = L.length := by obtain ⟨_, _, _, hn, _⟩ := h.block; simpa using hn
  obtain ⟨h1, h2, h3⟩ := h.cell j (by omega)
  refine ⟨?_, h2, h3⟩
  rw [h1]; simp [hj]
/-- Is k a cell of the part p? -/
noncomputable def partB (r : Reg) (p : Int) (k : Nat) : Bool := decide (0 ≤ partN r k) && decide (partN r k = p)
theorem partC_cells (r : Reg) (p : Int) : (r.partC p).cells = (List.range r.cells.length).map (partB r p) := rfl
theorem hasPart_any (r : Reg) (p : Int) : hasPart r p = (List.range r.cells.length).any (partB r p) := rfl
theorem hasPart_cnt (r : Reg) (p : Int) : (hasPart r p = false → cnt (r.partC p).cells = 0) ∧ (hasPart r p = true → (cnt (r.partC p).cells == 0) = false) := by
  constructor
  · intro h
    unfold cnt
    rw [List.filter_eq_nil_iff.2]
    · rfl
    · intro b hb hbt
      rw [partC_cells] at hb
      obtain ⟨k, hk, rfl⟩ := List.mem_map.1 hb
      rw [hasPart_any, List.any_eq_false] at h
      exact h k hk hbt
  · intro h
    rw [hasPart_any, List.any_eq_true] at h
    obtain ⟨k, hk, hb⟩ := h
    unfold cnt
    have : true ∈ (r.partC p).cells.filter id := List.mem_filter.2 ⟨by rw [partC_cells]; exact List.mem_map.2 ⟨k, hk, hb⟩, rfl⟩
    have := List.length_pos_of_mem this
    rw [beq_eq_false_iff_ne]; omega
theorem partB_yes {r : Reg} {p : Int} {k : Nat} (h : 0 ≤ partN r k) (h2 : partN r k = p) : partB r p k = true := by unfold partB; rw [decide_eq_true h, decide_eq_true h2]; rfl
theorem partB_no1 {r : Reg} {p : Int} {k : Nat} (h : ¬ 0 ≤ partN r k) : partB r p k = false := by unfold partB; rw [decide_eq_false h]; rfl
theorem partB_no2 {r : Reg} {p : Int} {k : Nat} (h : partN r k ≠ p) : partB r p k = false := by unfold partB; rw [decide_eq_false h, Bool.and_false]
theorem partB_pos {r : Reg} {p : Int} (hp : 0 ≤ p) (k : Nat) : partB r p k = decide (partN r k = p) := by
  unfold partB
  by_cases h : partN r k = p
  · rw [decide_eq_true h, decide_eq_true (by omega)]; rfl
  · rw [decide_eq_false h, Bool.and_false]
theorem hasPart_neg {r : Reg} {p : Int} (hp : p < 0) : hasPart r p = false := by
  cases e : hasPart r p
  · rfl
  · obtain ⟨k, h⟩ := hasPart_iff.1 e
    have := partC_f.1 h; omega
def PrS (w : World) (r : Reg) (s : Value) (X g n : Nat) (f : Nat → Bool) (pg pc : Nat) (L : List Int) (k : Nat) : List It :=
  [.box w.heap.size #[.int .i64 r.wide, .int .i64 r.tall, s] 29, .box (w.heap.size + 1) #[.int .i64 0, .int .i64 0, .slice none 0 0] 29, .row 4 (.slice (some ⟨g, 0, none⟩) n n) ((fillL f false n k).map Value.bool), .box X #[.int .i64 r.wide, .int .i64 r.tall, .slice (some ⟨g, 0, none⟩) n n] 29, .row 3 (.slice (some ⟨pg, 0, none⟩) n pc) (L.map (Value.int .i64))]
theorem prS_set {w wr : World} {r : Reg} {s : Value} {X g n pg pc : Nat} {f : Nat → Bool} {L : List Int} {k : Nat} (h : Sep w none wr (PrS w r s X g n f pg pc L k)) {b : Bool} (hb : f k = b) :
    Sep w none (wr.setCell ⟨g, k, none⟩ (.bool b)) (PrS w r s X g n f pg pc L (k + 1)) := by
  have := h.set 2 rfl k (.bool b)
  rw [← hb, show ((fillL f false n k).map Value.bool).set k (.bool (f k)) = (fillL f false n (k + 1)).map Value.bool by rw [← List.map_set, fillL_set]] at this
  rw [← hb]; exact this

set_option maxRecDepth 100000 in
set_option maxHeartbeats 2000000 in
theorem PartRegion_any (v : Value) (r : Reg) (p : Int) (w : World) (h : RegV w v r) : Calls Try.prog 40 #[v, .int .i64 p] w (RetRB (partReg r p) w) := by
  obtain ⟨a, cap, rfl, hs, hlc, hcm⟩ := h.opened
  have RV : ∀ w', Below w.heap.size w w' → RegV w' (.agg #[.int .i64 r.wide, .int .i64 r.tall, .slice a r.cells.length cap]) r := fun w' hb => ⟨_, rfl, hs.below hb⟩
  have RV := Lib.hid RV
  have S0 := Lib.hid (Sep.two w none #[.int .i64 r.wide, .int .i64 r.tall, .slice a r.cells.length cap] #[.int .i64 0, .int .i64 0, .slice none 0 0] 29 29)
  clear hs h
  obtain ⟨R, hR⟩ : ∃ R, R = partReg r p := ⟨_, rfl⟩
  rw [← hR]
  have HR := Lib.hid hR
  clear hR
  go_enter Try.func40, Try.ntmps40
  go_wp2_with (fail)
  refine (RegionValid_any _ r _ (RV.out _ S0.out.bel)).mono ?_
  rintro e w1 ⟨rfl, hb⟩
  have S1 := Lib.hid (S0.out.below hb)
  clear hb S0
  cases hv : r.valid
  · have E := Lib.hid (S1.out.put3 1 rfl (.int .i64 0) (.int .i64 0) (.slice none 0 0))
    obtain ⟨z0, z1, z2, z3, z4, z5⟩ := three_cells (S1.out.blk 1 rfl)
    obtain ⟨q0, q1, q2, _⟩ := three_cells (E.out.blk 1 rfl)
    have Q0 := Lib.hid q0
    have Q1 := Lib.hid q1
    have Q2 := Lib.hid q2
    have DN : Hid (RetRB R w (.returned (.tuple #[.agg #[.int .i64 0, .int .i64 0, .slice none 0 0], .bool false])) _) := Lib.hid (by rw [HR.out, partReg_no1 hv]; exact ⟨_, rfl, ⟨_, rfl, Sl.nil _⟩, E.out.bel⟩)
    clear q0 q1 q2
    go_wp2
    exact bodyPost_ret (by simp [results, Try.results40, go_sem, Q0.out, Q1.out, Q2.out]) rfl DN.out
  · obtain ⟨b1, b2, b3, b4⟩ := Reg.valid_iff.1 hv
    have hl36 : 0 < r.cells.length ∧ r.cells.length ≤ 36 := by have := area_in b1 b2; omega
    have Hn := Lib.hid (show r.wide * r.tall = (r.cells.length : Int) from b3.symm)
    have HV := Lib.hid hv
    clear b3 b4 hv
    obtain ⟨x0, x1, x2⟩ := S1.out.c3 0 rfl
    go_wp2_with (fail)
    refine (field_any _ _ _ (by omega) (by omega) r.cells.length Hn.out (by omega)).mono ?_
    rintro e w2 ⟨g, rfl, hg1, hg2, ho, hb⟩
    have S2 := Lib.hid ((S1.out.below hb).add S1.out ho)
    have S3 := Lib.hid (S2.out.box #[.int .i64 r.wide, .int .i64 r.tall, .slice (some ⟨g, 0, none⟩) r.cells.length r.cells.length] 29)
    clear ho hb x0 x1 x2 hg1 hg2
    obtain ⟨x0, x1, x2⟩ := S2.out.c3 0 rfl
    have x3 := S2.out.lt 0 rfl rfl
    go_wp2_with (fail)
    obtain ⟨W, hW⟩ : ∃ W, W = w2.alloc (.cells #[.int .i64 r.wide, .int .i64 r.tall, .slice (some ⟨g, 0, none⟩) r.cells.length r.cells.length] 29) := ⟨_, rfl⟩
    rw [← hW] at S3 ⊢
    clear hW x0 x1 x2 x3 S2
    generalize w2.heap.size = X at *
    refine (parts_own _ r _ (RV.out _ S3.out.bel) HV.out).mono ?_
    rintro e w3 ⟨u, rfl, ho3, hb⟩
    obtain ⟨pg, pc, rfl, _, _, _, _⟩ := ho3.formN (by rw [List.length_map, parts_length]; exact hl36.1)
    have S4 := Lib.hid ((S3.out.below hb).add S3.out ho3)
    rw [List.length_map, parts_length] at S4 ⊢
    have S5 : Hid (Sep w none w3 (PrS w r (.slice a r.cells.length cap) X g r.cells.length (partB r p) pg pc r.parts 0)) := Lib.hid (by
      have := S4.out
      rw [show List.replicate r.cells.length (Value.bool false) = (fillL (partB r p) false r.cells.length 0).map Value.bool by rw [fillL_zero, List.map_replicate]] at this
      exact this)
    clear ho3 hb S4 S3
    go_wp2_with (fail)
    go_loopw [21] (fun i wr => ∃ k : Nat, k ≤ r.cells.length ∧ i = .int .i64 k ∧ Sep w none wr (PrS w r (.slice a r.cells.length cap) X g r.cells.length (partB r p) pg pc r.parts k)) (fun i _ => r.cells.length - (intOf i).toNat)
    case atStart => exact ⟨0, Nat.zero_le _, rfl, S5.out⟩
    case round =>
      clear S5
      obtain ⟨k, hk, rfl, S⟩ := hrel
      have HS := Lib.hid S
      clear S
      by_cases hlt : k < r.cells.length
      · obtain ⟨u1, u2, u3⟩ := own_int (HS.out.own 4 rfl) (j := k) (by rw [parts_length]; exact hlt)
        rw [parts_get hlt] at u1
        obtain ⟨v1, v2, v3⟩ := own_truth (HS.out.own 2 rfl) (j := k) (by rw [fillL_length]; exact hlt)
        obtain ⟨y0, y1, y2⟩ := HS.out.c3 3 rfl
        by_cases h0 : 0 ≤ partN r k
        · by_cases h1 : partN r k = p
          · have N := Lib.hid (prS_set HS.out (partB_yes h0 h1))
            rw [h1] at u1 h0
            clear h1 HS
            generalize (fillL (partB r p) false r.cells.length k).getD k false = old at *
            go_wp2
            go_roundw
            case rel => exact ⟨k + 1, by omega, by go_num, N.out⟩
            case measure => simp [intOf]; omega
          · have N := Lib.hid (prS_set HS.out (partB_no2 h1))
            have hq : (partN r k == p) = false := by simpa using h1
            clear h1 HS
            generalize partN r k = x at *
            generalize (fillL (partB r p) false r.cells.length k).getD k false = old at *
            go_wp2
            go_roundw
            case rel => exact ⟨k + 1, by omega, by go_num, N.out⟩
            case measure => simp [intOf]; omega
        · have N := Lib.hid (prS_set HS.out (partB_no1 (p := p) h0))
          clear HS
          generalize partN r k = x at *
          generalize (fillL (partB r p) false r.cells.length k).getD k false = old at *
          go_wp2
          go_roundw
          case rel => exact ⟨k + 1, by omega, by go_num, N.out⟩
          case measure => simp [intOf]; omega
      · have e : k = r.cells.length := by omega
        subst e
        have HB : Hid (Bl wr (.slice (some ⟨g, 0, none⟩) r.cells.length r.cells.length) (r.partC p).cells) := Lib.hid (by
          have := (HS.out.own 2 rfl).sl
          rw [fillL_full] at this
          exact this)
        obtain ⟨y0, y1, y2⟩ := HS.out.c3 3 rfl
        have y3 := HS.out.lt 3 rfl rfl
        go_wp2_with (fail)
        refine (many_any _ (r.partC p).cells _ HB.out).mono ?_
        rintro e w5 ⟨rfl, rfl⟩
        obtain ⟨z0, z1, z2, z3, z4, z5⟩ := three_cells (HS.out.blk 1 rfl)
        cases hh : hasPart r p
        · rw [(hasPart_cnt r p).1 hh]
          have E := Lib.hid (HS.out.put3 1 rfl (.int .i64 0) (.int .i64 0) (.slice none 0 0))
          obtain ⟨q0, q1, q2, _⟩ := three_cells (E.out.blk 1 rfl)
          have Q0 := Lib.hid q0
          have Q1 := Lib.hid q1
          have Q2 := Lib.hid q2
          have DN : Hid (RetRB R w (.returned (.tuple #[.agg #[.int .i64 0, .int .i64 0, .slice none 0 0], .bool false])) _) := Lib.hid (by rw [HR.out, partReg_no2 hh]; exact ⟨_, rfl, ⟨_, rfl, Sl.nil _⟩, E.out.bel⟩)
          clear q0 q1 q2 hh
          go_wp2
          exact bodyPost_ret (by simp [results, Try.results40, go_sem, Q0.out, Q1.out, Q2.out]) rfl DN.out
        · have hz := (hasPart_cnt r p).2 hh
          have E := Lib.hid (HS.out.put3 1 rfl (.int .i64 r.wide) (.int .i64 r.tall) (.slice (some ⟨g, 0, none⟩) r.cells.length r.cells.length))
          obtain ⟨q0, q1, q2, _⟩ := three_cells (E.out.blk 1 rfl)
          have Q0 := Lib.hid q0
          have Q1 := Lib.hid q1
          have Q2 := Lib.hid q2
          have DN : Hid (RetRB R w (.returned (.tuple #[.agg #[.int .i64 r.wide, .int .i64 r.tall, .slice (some ⟨g, 0, none⟩) r.cells.length r.cells.length], .bool true])) _) := Lib.hid (by
            rw [HR.out, partReg_yes HV.out hh]
            refine ⟨_, rfl, ⟨_, rfl, ?_⟩, E.out.bel⟩
            have := (E.out.own 2 rfl).sl
            rw [fillL_full] at this
            exact this)
          clear q0 q1 q2 hh
          generalize cnt (r.partC p).cells = m at *
          go_wp2
          exact bodyPost_ret (by simp [results, Try.results40, go_sem, Q0.out, Q1.out, Q2.out]) rfl DN.out
/-- The boxes of the reference's PartRegion. -/
def PqS (w1 : World) (r : Reg) (a : Option Addr) (k c : Nat) (l : List Bool) : List It :=
  [.box w1.heap.size #[.int .i64 r.wide, .int .i64 r.tall, .slice a k c] 29, .row 4 (.slice a k c) (l.map Value.bool)]
theorem any_snoc (l : List Bool) (x : Bool) : (l ++ [x]).any id = (l.any id || x) := by simp

set_option maxRecDepth 100000 in
set_option maxHeartbeats 2000000 in
theorem sPartRegion_any (v : Value) (r : Reg) (p : Int) (w : World) (h : RegV w v r) : Calls Try.prog 41 #[v, .int .i64 p] w (RetRB (partReg r p) w) := by
  obtain ⟨a, cap, rfl, hs, hlc, hcm⟩ := h.opened
  have RV : ∀ w', Below w.heap.size w w' → RegV w' (.agg #[.int .i64 r.wide, .int .i64 r.tall, .slice a r.cells.length cap]) r := fun w' hb => ⟨_, rfl, hs.below hb⟩
  have RV := Lib.hid RV
  have S0 := Lib.hid (Sep.two w none #[.int .i64 r.wide, .int .i64 r.tall, .slice a r.cells.length cap] #[.int .i64 0, .int .i64 0, .slice none 0 0] 29 29)
  clear hs h
  obtain ⟨R, hR⟩ : ∃ R, R = partReg r p := ⟨_, rfl⟩
  rw [← hR]
  have HR := Lib.hid hR
  clear hR
  go_enter Try.func41, Try.ntmps41
  go_wp2_with (fail)
  refine (sPartsOf_any _ r _ (RV.out _ S0.out.bel)).mono ?_
  rintro e w1 ⟨u, rfl, hu, hb⟩
  have S1 := Lib.hid (S0.out.below hb)
  obtain ⟨ua, uc, rfl, l1, l2, hg⟩ := il_get hu
  have HG := Lib.hid hg
  clear hu hb hg S0
  obtain ⟨x0, x1, x2⟩ := S1.out.c3 0 rfl
  have x3 := S1.out.lt 0 rfl rfl
  have T0 := Lib.hid (((Sep.start w1 none).box #[.int .i64 r.wide, .int .i64 r.tall, .slice none 0 0] 29).nil 4)
  have hno : Hid (hasPart r p = false → RetRB R w (.returned (.tuple #[.agg #[.int .i64 0, .int .i64 0, .slice none 0 0], .bool false])) ((((w1.alloc (.cells #[.int .i64 r.wide, .int .i64 r.tall, .slice none 0 0] 29)).setCell ⟨w.heap.size + 1, 0, none⟩ (.int .i64 0)).setCell ⟨w.heap.size + 1, 1, none⟩ (.int .i64 0)).setCell ⟨w.heap.size + 1, 2, none⟩ (.slice none 0 0))) := Lib.hid fun hh => by
    rw [HR.out, partReg_no2 hh]
    exact ⟨_, rfl, ⟨_, rfl, Sl.nil _⟩, ((S1.out.below T0.out.bel).put3 1 rfl (.int .i64 0) (.int .i64 0) (.slice none 0 0)).bel⟩
  cases hv : r.valid
  · have hn0 : r.partsR.length = 0 := by rw [partsR_no hv]; rfl
    have hh : Hid (hasPart r p = false ∨ True) := Lib.hid (.inr trivial)
    have DN : Hid (RetRB R w (.returned (.tuple #[.agg #[.int .i64 0, .int .i64 0, .slice none 0 0], .bool false])) ((((w1.alloc (.cells #[.int .i64 r.wide, .int .i64 r.tall, .slice none 0 0] 29)).setCell ⟨w.heap.size + 1, 0, none⟩ (.int .i64 0)).setCell ⟨w.heap.size + 1, 1, none⟩ (.int .i64 0)).setCell ⟨w.heap.size + 1, 2, none⟩ (.slice none 0 0))) := Lib.hid (by
      rw [HR.out, partReg_no1 hv]
      exact ⟨_, rfl, ⟨_, rfl, Sl.nil _⟩, ((S1.out.below T0.out.bel).put3 1 rfl (.int .i64 0) (.int .i64 0) (.slice none 0 0)).bel⟩)
    have SW := Lib.hid (S1.out.below T0.out.bel)
    have E := Lib.hid (SW.out.put3 1 rfl (.int .i64 0) (.int .i64 0) (.slice none 0 0))
    generalize r.partsR.length = n at *
    subst hn0
    go_wp2_with (fail)
    obtain ⟨W, hW⟩ : ∃ W, W = w1.alloc (.cells #[.int .i64 r.wide, .int .i64 r.tall, .slice none 0 0] 29) := ⟨_, rfl⟩
    rw [← hW] at SW E DN ⊢
    clear hW hno hh T0 x0 x1 x2 x3
    go_loopw [8, 9] (fun sm i wr => sm = .bool false ∧ i = .int .i64 0 ∧ wr = W) (fun _ _ _ => 0)
    case atStart => exact ⟨rfl, rfl, rfl⟩
    case round =>
      obtain ⟨rfl, rfl, rfl⟩ := hrel
      obtain ⟨z0, z1, z2, z3, z4, z5⟩ := three_cells (SW.out.blk 1 rfl)
      obtain ⟨q0, q1, q2, _⟩ := three_cells (E.out.blk 1 rfl)
      have Q0 := Lib.hid q0
      have Q1 := Lib.hid q1
      have Q2 := Lib.hid q2
      clear q0 q1 q2
      go_wp2
      exact bodyPost_ret (by simp [results, Try.results41, go_sem, Q0.out, Q1.out, Q2.out]) rfl DN.out
  have hlen : r.partsR.length = r.cells.length := by rw [partsR_yes hv, parts_length]
  have hl36 : 0 < r.cells.length ∧ r.cells.length ≤ 36 := by
    obtain ⟨b1, b2, b3, b4⟩ := Reg.valid_iff.1 hv
    have := area_in b1 b2; omega
  have HV := Lib.hid hv
  rcases Int.lt_or_le p 0 with hp | hp
  · have DN := Lib.hid (hno.out (hasPart_neg hp))
    have SW := Lib.hid (S1.out.below T0.out.bel)
    have E := Lib.hid (SW.out.put3 1 rfl (.int .i64 0) (.int .i64 0) (.slice none 0 0))
    rw [hlen]
    have hl1 : (0 : Int) < (r.cells.length : Int) := by omega
    have hp2 : ¬ 0 ≤ p := by omega
    clear hno hv hlen l1
    go_wp2_with (fail)
    obtain ⟨W, hW⟩ : ∃ W, W = w1.alloc (.cells #[.int .i64 r.wide, .int .i64 r.tall, .slice none 0 0] 29) := ⟨_, rfl⟩
    rw [← hW] at SW E DN ⊢
    clear hW T0 x0 x1 x2 x3
    go_loopw [8, 9] (fun sm i wr => sm = .bool false ∧ i = .int .i64 0 ∧ wr = W) (fun _ _ _ => 0)
    case atStart => exact ⟨rfl, rfl, rfl⟩
    case round =>
      obtain ⟨rfl, rfl, rfl⟩ := hrel
      obtain ⟨z0, z1, z2, z3, z4, z5⟩ := three_cells (SW.out.blk 1 rfl)
      obtain ⟨q0, q1, q2, _⟩ := three_cells (E.out.blk 1 rfl)
      have Q0 := Lib.hid q0
      have Q1 := Lib.hid q1
      have Q2 := Lib.hid q2
      clear q0 q1 q2
      go_wp2
      exact bodyPost_ret (by simp [results, Try.results41, go_sem, Q0.out, Q1.out, Q2.out]) rfl DN.out
  · rw [hlen] at HG l1 ⊢
    have HN := Lib.hid (show ∀ k, k < r.cells.length → r.partsR.getD k 0 = partN r k from fun k hk => by rw [partsR_yes hv, parts_get hk])
    have hz1 : Hid ((List.range r.cells.length).map (partB r p) = (r.partC p).cells) := Lib.hid rfl
    clear hno hv hlen
    go_wp2_with (fail)
    obtain ⟨W, hW⟩ : ∃ W, W = w1.alloc (.cells #[.int .i64 r.wide, .int .i64 r.tall, .slice none 0 0] 29) := ⟨_, rfl⟩
    rw [← hW] at T0 ⊢
    clear hW x0 x1 x2 x3
    go_loopw [8, 9] (fun sm i wr => ∃ (k : Nat) (a2 : Option Addr) (c2 : Nat) (l : List Bool) (b : Bool), k ≤ r.cells.length ∧ i = .int .i64 k ∧ l.length = k ∧ sm = .bool b ∧ b = l.any id ∧ l = (List.range k).map (partB r p) ∧ Sep w1 none wr (PqS w1 r a2 k c2 l)) (fun _ i _ => r.cells.length - (intOf i).toNat)
    case atStart => exact ⟨0, none, 0, [], false, Nat.zero_le _, rfl, rfl, rfl, rfl, rfl, T0.out⟩
    case round =>
      clear T0
      obtain ⟨_, a2, c2, l, b, hk, rfl, rfl, rfl, hb, hl, S⟩ := hrel
      have HS := Lib.hid S
      have HBb := Lib.hid hb
      have HL := Lib.hid hl
      clear S hb hl
      obtain ⟨y0, y1, y2, f0, f1, f2⟩ := three_cells (HS.out.blk 0 rfl)
      have sY := HS.out.lt 0 rfl rfl
      by_cases hlt : l.length < r.cells.length
      · obtain ⟨ub, uo, rfl, hub, hck⟩ := HG.out l.length hlt
        rw [HN.out _ hlt] at hck
        have hc1 : wr.cell? ⟨ub, uo + l.length, none⟩ = _ := ((bcell HS.out.bel).1 ub (uo + l.length) hub).trans hck
        have hub2 : ub < wr.heap.size := Nat.lt_of_lt_of_le hub HS.out.bel.size
        have HX : Hid (partB r p l.length = (partN r l.length == p)) := Lib.hid (by rw [partB_pos hp]; rfl)
        have HCK := Lib.hid hck
        have HHL : Hid (l ++ [partB r p l.length] = (List.range (l.length + 1)).map (partB r p)) := Lib.hid (by rw [List.range_succ, List.map_append, ← HL.out]; rfl)
        clear hck HG HN
        generalize partN r l.length = y at *
        rw [HX.out] at HHL
        clear HX
        generalize hx : (y == p) = x at *
        go_wp2_with (fail)
        go_region_law (refine step_app elem_bools 0 (.slice a2 l.length c2) (l.map Value.bool) ?_ wr.heap.size (.bool x) (.tmp 28) (.tmp 35) (by rfl) (by rfl) (by rfl) (by rfl) (by rw [← hx]; exact heap_alloc_new _ _) (by rfl) ?_ ?_ ?_; exact Own.alloc (HS.out.drew.own 1 rfl) _; (rw [List.length_map]; omega); (exact Nat.zero_le _); intro g2 cap w7 A7; (have D8 := Lib.hid ((HS.out.drew.alloc _).app 1 rfl A7)); (obtain ⟨z0, z1, z2, e0, e1, e2⟩ := three_cells (D8.out.blk 0 rfl)); clear A7)
        all_goals
          have D9 := Lib.hid (D8.out.put 0 rfl 2 (.slice (some ⟨g2, 0, none⟩) (l.length + 1) cap))
          have hc9 : (w7.setCell ⟨w1.heap.size, 2, none⟩ (.slice (some ⟨g2, 0, none⟩) (l.length + 1) cap)).cell? ⟨ub, uo + l.length, none⟩ = some (.int .i64 y) := ((bcell D9.out.bel).1 ub (uo + l.length) hub).trans HCK.out
          have NS : Hid (Sep w1 none (w7.setCell ⟨w1.heap.size, 2, none⟩ (.slice (some ⟨g2, 0, none⟩) (l.length + 1) cap)) (PqS w1 r (some ⟨g2, 0, none⟩) (l.length + 1) cap (l ++ [x]))) := Lib.hid (by simpa [PqS] using D9.out)
          cases b
          · have HB2 : Hid (x = (l ++ [x]).any id) := Lib.hid (by rw [any_snoc, ← HBb.out, Bool.false_or])
            go_wp2
            go_roundw
            case rel => exact ⟨l.length + 1, some ⟨g2, 0, none⟩, cap, l ++ [x], x, by omega, by go_num, by simp, by simp, HB2.out, HHL.out, NS.out⟩
            case measure => simp [intOf]; omega
          · have HB2 : Hid (true = (l ++ [x]).any id) := Lib.hid (by rw [any_snoc, ← HBb.out, Bool.true_or])
            go_wp2
            go_roundw
            case rel => exact ⟨l.length + 1, some ⟨g2, 0, none⟩, cap, l ++ [x], true, by omega, by go_num, by simp, rfl, HB2.out, HHL.out, NS.out⟩
            case measure => simp [intOf]; omega
      · have e : l.length = r.cells.length := by omega
        have HL2 : Hid (l = (r.partC p).cells) := Lib.hid (by rw [HL.out, e]; rfl)
        have HH : Hid (hasPart r p = b) := Lib.hid (by rw [HBb.out, HL2.out, hasPart_any, partC_cells, List.any_map]; rfl)
        have SW := Lib.hid (S1.out.below HS.out.bel)
        clear e
        obtain ⟨z0, z1, z2, z3, z4, z5⟩ := three_cells (SW.out.blk 1 rfl)
        cases b
        · have E := Lib.hid (SW.out.put3 1 rfl (.int .i64 0) (.int .i64 0) (.slice none 0 0))
          obtain ⟨q0, q1, q2, _⟩ := three_cells (E.out.blk 1 rfl)
          have Q0 := Lib.hid q0
          have Q1 := Lib.hid q1
          have Q2 := Lib.hid q2
          have DN : Hid (RetRB R w (.returned (.tuple #[.agg #[.int .i64 0, .int .i64 0, .slice none 0 0], .bool false])) _) := Lib.hid (by rw [HR.out, partReg_no2 HH.out]; exact ⟨_, rfl, ⟨_, rfl, Sl.nil _⟩, E.out.bel⟩)
          clear q0 q1 q2
          go_wp2
          exact bodyPost_ret (by simp [results, Try.results41, go_sem, Q0.out, Q1.out, Q2.out]) rfl DN.out
        · have T2 := Lib.hid (SW.out.add S1.out (HS.out.high 1 rfl))
          have E := Lib.hid (T2.out.put3 1 rfl (.int .i64 r.wide) (.int .i64 r.tall) (.slice a2 l.length c2))
          obtain ⟨q0, q1, q2, _⟩ := three_cells (E.out.blk 1 rfl)
          have Q0 := Lib.hid q0
          have Q1 := Lib.hid q1
          have Q2 := Lib.hid q2
          have DN : Hid (RetRB R w (.returned (.tuple #[.agg #[.int .i64 r.wide, .int .i64 r.tall, .slice a2 l.length c2], .bool true])) _) := Lib.hid (by
            rw [HR.out, partReg_yes HV.out HH.out]
            refine ⟨_, rfl, ⟨_, rfl, ?_⟩, E.out.bel⟩
            have := (E.out.own 2 rfl).sl
            rw [HL2.out] at this
            rw [HL2.out]
            exact this)
          clear q0 q1 q2
          go_wp2
          exact bodyPost_ret (by simp [results, Try.results41, go_sem, Q0.out, Q1.out, Q2.out]) rfl DN.out
end Go.Proofs.Ytbjenmfoblniaaa
