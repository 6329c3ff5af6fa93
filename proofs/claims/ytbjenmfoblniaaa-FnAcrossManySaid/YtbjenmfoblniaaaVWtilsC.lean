/- Walks: tilings, TilingsAll of the program. -/
import Derived.Test.YtbjenmfoblniaaaVWtilsB
set_option linter.unusedVariables false
namespace Go.Proofs.Ytbjenmfoblniaaa
open Go.RowKit Domi

/-- What the callback of tilings keeps: its variable holds all lists so far. -/
def JT (w0 : World) (g : Nat) (xs : List (List Int)) (w : World) : Prop :=
  ∃ v vs, Sep w0 none w [.box g #[v] 35, .row 39 v vs] ∧ vs.length = xs.length ∧ ∀ i, i < xs.length → Ow w 0 3 (vs.getD i (.bool false)) ((xs.getD i []).map (Value.int .i64))
theorem JT.below {w0 w w' : World} {g : Nat} {xs : List (List Int)} (h : JT w0 g xs w) (hb : Below w.heap.size w w') : JT w0 g xs w' := by
  obtain ⟨v, vs, h1, h2, h3⟩ := h; exact ⟨v, vs, h1.below hb, h2, fun i hi => (h3 i hi).below hb⟩
theorem JT.bel {w0 w : World} {g : Nat} {xs : List (List Int)} (h : JT w0 g xs w) : Below w0.heap.size w0 w := by obtain ⟨v, vs, h1, _⟩ := h; exact h1.bel
theorem getD_snoc {α : Type} (l : List α) (x d : α) (i : Nat) (h : i < l.length + 1) : (l ++ [x]).getD i d = if i < l.length then l.getD i d else x := by
  simp only [List.getD_eq_getElem?_getD]
  split
  · next hl => rw [List.getElem?_append_left hl]
  · next hl =>
    have e : i = l.length := by omega
    subst e; simp
theorem jt_app {w0 w w1 w2 : World} {g n1 cap : Nat} {xs : List (List Int)} {v u : Value} {vs : List Value} {L : List Int} {o : Obj} (hS : Sep w0 none w [.box g #[v] 35, .row 39 v vs]) (hl : vs.length = xs.length)
    (hv : ∀ i, i < xs.length → Ow w 0 3 (vs.getD i (.bool false)) ((xs.getD i []).map (Value.int .i64))) (hu : Ow w 0 3 u (L.map (Value.int .i64))) (hw : w1 = w.alloc o) (A : App w1 0 39 v vs u n1 cap w2) :
    JT w0 g (xs ++ [L]) (w2.setCell ⟨g, 0, none⟩ (.slice (some ⟨n1, 0, none⟩) (vs.length + 1) cap)) ∧ KL w (w2.setCell ⟨g, 0, none⟩ (.slice (some ⟨n1, 0, none⟩) (vs.length + 1) cap)) ∧ w2.heap[g]? = some (.cells #[v] 35 (0, 0)) := by
  subst hw
  have S1 := hS.alloc o
  have S2 := S1.app 1 rfl A
  have S3 := S2.put 0 rfl 0 (.slice (some ⟨n1, 0, none⟩) (vs.length + 1) cap)
  have hb2 := S2.blk 0 rfl
  have K : KL w (w2.setCell ⟨g, 0, none⟩ (.slice (some ⟨n1, 0, none⟩) (vs.length + 1) cap)) :=
    ((kl_grown (World.grownBy_alloc w o none) (fun k cs t fr e _ => by cases e)).trans (kl_grown A.grown (fun k cs t fr e hk => .inl (Own.btype (S1.own 1 rfl) e hk)))).trans
      (kl_grown (grown_setCell w2 g 0 none _) (fun k cs t fr e hk => by cases e; rw [hb2] at hk; cases hk; exact .inr rfl))
  refine ⟨⟨_, vs ++ [u], S3, by simp [hl], fun i hi => ?_⟩, K, hb2⟩
  rw [List.length_append, List.length_singleton] at hi
  rw [getD_snoc vs u _ i (by omega), getD_snoc xs L _ i hi]
  by_cases h : i < xs.length
  · rw [if_pos (show i < vs.length by omega), if_pos h]; exact ow_kl (hv i h) K
  · rw [if_neg (show ¬ i < vs.length by omega), if_neg h]; exact ow_kl hu K
theorem jt_start {w0 x : World} {g : Nat} (h : Sep w0 none x [.box g #[.slice none 0 0] 35]) : JT w0 g [] x := ⟨_, [], h.nil 39, rfl, fun i hi => by simp at hi⟩
theorem ow_bare {w : World} {B n : Nat} {e : TypeId} {v : Value} {r : Reg} (hb : bareL r = List.replicate n 0) (h : Own w B e v (List.replicate n (.int .i64 0))) : Ow w B e v ((bareL r).map (Value.int .i64)) := by
  rw [hb, List.map_replicate]; exact Ow.of_owns h

set_option maxHeartbeats 400000 in
theorem tilings1_any (w0 : World) (g : Nat) (xs : List (List Int)) (u : Value) (L : List Int) (w : World) (hx : xs.length < 2 ^ 40) (h : JT w0 g xs w) (hu : Ow w 0 3 u (L.map (Value.int .i64))) :
    Calls Try.prog 115 #[u, .pointer (some ⟨g, 0, none⟩)] w (fun e w' => e = .returned (.bool true) ∧ JT w0 g (xs ++ [L]) w' ∧ KL w w') := by
  obtain ⟨v, vs, hS, hl, hv⟩ := h
  obtain ⟨ua, uc, rfl, _, _, _⟩ := hu.il.opened
  obtain ⟨va, vc, rfl⟩ := (hS.own 1 rfl).form
  have hb := hS.blk 0 rfl
  have c0 : w.cell? ⟨g, 0, none⟩ = some (.slice va vs.length vc) := by rw [cell_of_row w g 0 _ _ _ hb]; rfl
  have f0 : w.frozen? ⟨g, 0, none⟩ = false := frozen_of_row w g 0 _ _ hb
  have lt := lt_of_heap hb
  have hl40 : vs.length < 1099511627776 := by rw [hl]; exact hx
  have HU := Lib.hid hu
  have HV := Lib.hid hv
  have HL := Lib.hid hl
  have HS := Lib.hid hS
  clear hS hb hu hv hl hx
  go_enter Try.func115, Try.ntmps115
  go_wp2_with (at_builtin; refine list_app elem_lists 0 (.slice va vs.length vc) vs ?_ w.heap.size (.slice ua L.length uc) (.tmp 4) (.tmp 6) rfl rfl rfl rfl (heap_alloc_new _ _) rfl ?_ ?_ ?_; exact Own.alloc (HS.out.own 1 rfl) _; omega; exact Nat.zero_le _; intro n1 cap w2 A2; (have JK := Lib.hid (jt_app HS.out HL.out HV.out HU.out rfl A2)); (have fb := JK.out.2.2); (have lt2 := lt_of_heap fb); (have f2 : w2.frozen? ⟨g, 0, none⟩ = false := frozen_of_row w2 g 0 _ _ fb); (have c2 : w2.cell? ⟨g, 0, none⟩ = some (.slice va vs.length vc) := by rw [cell_of_row w2 g 0 _ _ _ fb]; rfl); clear A2 fb)
  go_ret
  exact ⟨rfl, JK.out.1, JK.out.2.1⟩

set_option maxHeartbeats 400000 in
theorem Clip_lists (a : Option Addr) (n c : Nat) (hn : n ≤ c) (hc : c ≤ 9223372036854775807) (w : World) (ha : a = none ∧ c = 0 ∨ ∃ g, a = some ⟨g, 0, none⟩) :
    Calls Try.prog 116 #[.slice a n c] w fun e w' => e = .returned (.slice a n n) ∧ w = w' := by
  rcases ha with ⟨rfl, rfl⟩ | ⟨g, rfl⟩
  · obtain rfl : n = 0 := by omega
    go_enter Try.func116, Try.ntmps116
    go_wp2
    go_ret
    exact ⟨rfl, rfl⟩
  · go_enter Try.func116, Try.ntmps116
    go_wp2
    go_ret
    exact ⟨rfl, rfl⟩

set_option maxRecDepth 100000 in
set_option maxHeartbeats 2000000 in
theorem tilings_any (v : Value) (r : Reg) (w : World) (h : RegV w v r) (hv : r.valid = true) : Calls Try.prog 78 #[v] w (RetLl (tilsR r) w) := by
  obtain ⟨a, cap, rfl, hs, hlc, hcm⟩ := h.opened
  have hA : 0 < r.cells.length ∧ r.cells.length ≤ 36 := by
    obtain ⟨b1, b2, b3, b4⟩ := Reg.valid_iff.1 hv
    have := area_in b1 b2
    omega
  have HS := Lib.hid hs
  have S2 : Hid (Sep w none ((w.alloc (.cells #[.int .i64 r.wide, .int .i64 r.tall, .slice a r.cells.length cap] 29)).alloc (.cells #[.slice none 0 0] 35)).drew [.box w.heap.size #[.int .i64 r.wide, .int .i64 r.tall, .slice a r.cells.length cap] 29, .box (w.heap.size + 1) #[.slice none 0 0] 35]) := Lib.hid (Sep.two w none _ _ _ _).drew
  have HK := Lib.hid (bare_laid hv)
  have HOP := Lib.hid (bare_open hv)
  have HNT := Lib.hid (tils_len r 40 (bareL r))
  have HT := Lib.hid (tilsR_yes hv)
  have HBR := Lib.hid (bareL_yes hv)
  have S4 := (Sep.two w none #[.int .i64 r.wide, .int .i64 r.tall, .slice a r.cells.length cap] #[.slice none 0 0] 29 35).made (e := 3) (mkRow_hid r.cells.length (.int .i64 0)) (by omega)
  have hsz : ((w.alloc (.cells #[.int .i64 r.wide, .int .i64 r.tall, .slice a r.cells.length cap] 29)).alloc (.cells #[.slice none 0 0] 35)).heap.size = w.heap.size + 1 + 1 := by simp
  rw [hsz] at S4
  have S4 := Lib.hid S4.drew
  have O4 := Lib.hid (ow_bare HBR.out (S4.out.own 2 rfl))
  have J4 := Lib.hid (jt_start (S4.out.pick [1] (by decide) rfl))
  obtain ⟨x0, x1, x2⟩ := S2.out.c3 0 rfl
  clear hsz
  have hmk := run_make_row1 elem_ints (.int .i64 0) zero_int rfl r.cells.length (by omega) (by omega)
  clear h hs hv
  go_enter Try.func78, Try.ntmps78
  go_wp2_with (fail)
  go_region_held3 (fun w' => w'.cell? ⟨w.heap.size, 0, none⟩ = some (.int .i64 r.wide) ∧ w'.cell? ⟨w.heap.size, 1, none⟩ = some (.int .i64 r.tall) ∧ w'.cell? ⟨w.heap.size, 2, none⟩ = some (.slice a r.cells.length cap))
    (first | with_reducible exact K5.out | with_reducible exact K4.out | (go_keep; done) | assumption)
    ((first
      | (go_at_call 114; refine (each115_n _ r true (2 ^ 40) w _ HS.out (JT w (w.heap.size + 1)) (fun xs _ _ h hb => h.below hb) (fun xs _ h => h.bel) (fun xs u L x hx h hu _ => tilings1_any w (w.heap.size + 1) xs u L x hx h hu) 40 [] _ (bareL r) _ O4.out HK.out HOP.out J4.out (by simpa using HNT.out)).mono ?_; unfold Eached; rintro e w6 ⟨rfl, hj6, hk6⟩; (have J6 := Lib.hid hj6); (have K5 := Lib.hid (RB.kl ⟨S4.out.blk 0 rfl, HS.out.below S4.out.bel⟩ hk6 (HS.out.below hj6.bel)).c3); clear hj6 hk6)))
  all_goals
    obtain ⟨v6, vs, hS6, hl6, hv6⟩ := J6.out
    have hb6 := hS6.blk 0 rfl
    have c6 : w6.cell? ⟨w.heap.size + 1, 0, none⟩ = some v6 := by rw [cell_of_row w6 (w.heap.size + 1) 0 _ _ _ hb6]; rfl
    have lt6 := lt_of_heap hb6
    have B6 := Lib.hid hS6.bel
    have V6 := Lib.hid (show Ll w6 v6 (tilsR r) from ⟨vs, (hS6.own 1 rfl).sl, by rw [hl6, HT.out]; rfl, fun i hi => by rw [HT.out] at hi ⊢; exact (hv6 i (by simpa [vis] using hi)).il⟩)
    obtain ⟨va, vc, rfl, h1, h2, _⟩ := V6.out.opened
    have hca : va = none ∧ vc = 0 ∨ ∃ g, va = some ⟨g, 0, none⟩ := by
      rcases (hS6.own 1 rfl).2 with ⟨e, _⟩ | ⟨g, cap', cur, e, _⟩
      · simp at e; exact .inl ⟨e.1, e.2.2⟩
      · simp at e; exact .inr ⟨g, e.1⟩
    have W6 := Lib.hid (show Ll w6 (.slice va (tilsR r).length (tilsR r).length) (tilsR r) from by
      obtain ⟨vs', ⟨a', c', e, q1, q2, q3⟩, q4, q5⟩ := V6.out
      simp only [Value.slice.injEq] at e
      obtain ⟨rfl, e2, rfl⟩ := e
      exact ⟨vs', ⟨_, _, by rw [e2], by omega, by omega, q3⟩, q4, q5⟩)
    clear hS6 hb6 hv6 hl6
    go_wp2_with (fail)
    refine (Clip_lists va _ vc h1 h2 _ hca).mono ?_
    rintro e w7 ⟨rfl, rfl⟩
    go_wp2
    go_ret
    exact ⟨_, rfl, W6.out, B6.out⟩

set_option maxHeartbeats 400000 in
theorem TilingsAll_any (v : Value) (r : Reg) (w : World) (h : RegV w v r) : Calls Try.prog 28 #[v] w (RetLl (tilsR r) w) := by
  obtain ⟨a, cap, rfl, hs, hlc, hcm⟩ := h.opened
  have R0 := Lib.hid (RB.new hs)
  have B0 := Lib.hid (below_alloc w (.cells #[.int .i64 r.wide, .int .i64 r.tall, .slice a r.cells.length cap] 29))
  clear h hs
  cases hv : r.valid
  · go_enter Try.func28, Try.ntmps28
    go_wp2_with (fail)
    refine (RegionValid_any _ r _ R0.out.v).mono ?_
    rw [hv]
    rintro e w1 ⟨rfl, hb⟩
    have HB := Lib.hid (B0.out.trans (hb.mono B0.out.size))
    clear hb
    go_wp2
    go_ret
    exact ⟨_, rfl, by rw [tilsR_no hv]; exact Ll.nil _, HB.out⟩
  · go_enter Try.func28, Try.ntmps28
    go_wp2_with (fail)
    refine (RegionValid_any _ r _ R0.out.v).mono ?_
    rw [hv]
    rintro e w1 ⟨rfl, hb⟩
    have R1 := Lib.hid (R0.out.on hb)
    have HB := Lib.hid (B0.out.trans (hb.mono B0.out.size))
    obtain ⟨x0, x1, x2⟩ := R1.out.c3
    clear hb
    go_wp2_with (fail)
    refine (tilings_any _ r _ R1.out.v hv).mono ?_
    rintro e w2 ⟨v2, rfl, hv2, hb⟩
    have HB2 := Lib.hid (HB.out.trans (hb.mono HB.out.size))
    have V2 := Lib.hid hv2
    clear hb hv2 x0 x1 x2
    go_wp2
    go_ret
    exact ⟨_, rfl, V2.out, HB2.out⟩
end Go.Proofs.Ytbjenmfoblniaaa
