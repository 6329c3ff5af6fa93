/- Walks: Complete, TilingFirst, tilings, TilingsAll of the program. -/
import Derived.Test.YtnmoaecihmjnnaaVWtils
set_option linter.unusedVariables false
namespace Go.Proofs.Ytnmoaecihmjnnaa
open Go.RowKit Domi

theorem elem_lists : ElemOk Try.prog 39 26 24 := ⟨Try.underlying39, by kernel_rfl⟩
def lastL (xs : List (List Int)) : List Int := xs.getLastD []
theorem lastL_snoc (xs : List (List Int)) (L : List Int) : lastL (xs ++ [L]) = L := by unfold lastL; simp
theorem retIB_is {q : List Int × Bool} {x : List Int} {b : Bool} (h : q = (x, b)) {w w' : World} {v : Value} (hi : Il w' v x) (hb : Below w.heap.size w w') : RetIB q w (.returned (.tuple #[v, .bool b])) w' := by subst h; exact ⟨v, rfl, hi, hb⟩
theorem headQ_vis (l : List (List Int)) : headQ l = (lastL (vis false l), !goes false l) := by cases l <;> rfl
theorem cl_ow {w : World} {B : Nat} {e : TypeId} {v : Value} {xs : List Value} (h : Cl w B e v xs) : Ow w B e v xs := by
  obtain ⟨g, cur, rfl, hB, hg, ht, hl⟩ := h
  exact .inr ⟨g, xs.length, cur, rfl, hB, hg, Nat.le_refl _, by omega, ht⟩

/-- What Complete's callback keeps: its variable holds the last list. -/
def JC (w0 : World) (g : Nat) (xs : List (List Int)) (w : World) : Prop := ∃ v, Sep w0 none w [.box g #[v] 26] ∧ Ow w 0 3 v ((lastL xs).map (Value.int .i64))
theorem JC.below {w0 w w' : World} {g : Nat} {xs : List (List Int)} (h : JC w0 g xs w) (hb : Below w.heap.size w w') : JC w0 g xs w' := by
  obtain ⟨v, h1, h2⟩ := h; exact ⟨v, h1.below hb, h2.below hb⟩
theorem JC.bel {w0 w : World} {g : Nat} {xs : List (List Int)} (h : JC w0 g xs w) : Below w0.heap.size w0 w := by obtain ⟨v, h1, _⟩ := h; exact h1.bel
set_option maxHeartbeats 400000 in
theorem Complete1_any (w0 : World) (g : Nat) (xs : List (List Int)) (u : Value) (L : List Int) (w : World) (h : JC w0 g xs w) (hu : Ow w 0 3 u (L.map (Value.int .i64))) :
    Calls Try.prog 92 #[u, .pointer (some ⟨g, 0, none⟩)] w (fun e w' => e = .returned (.bool false) ∧ JC w0 g (xs ++ [L]) w' ∧ KL w w') := by
  obtain ⟨v, hS, hv⟩ := h
  obtain ⟨ua, uc, rfl, _, _, _⟩ := hu.il.opened
  have hb := hS.blk 0 rfl
  have c0 : w.cell? ⟨g, 0, none⟩ = some v := by rw [cell_of_row w g 0 _ _ _ hb]; rfl
  have f0 : w.frozen? ⟨g, 0, none⟩ = false := frozen_of_row w g 0 _ _ hb
  have lt := lt_of_heap hb
  have hK : KL w (w.setCell ⟨g, 0, none⟩ (.slice ua L.length uc)) := kl_grown (grown_setCell w g 0 none _) (fun k cs t fr e hk => by
    cases e; rw [hb] at hk; cases hk; exact .inl rfl)
  have HJ : Hid (JC w0 g (xs ++ [L]) (w.setCell ⟨g, 0, none⟩ (.slice ua L.length uc))) := Lib.hid ⟨_, hS.put 0 rfl 0 _, by rw [lastL_snoc]; exact ow_kl hu hK⟩
  have HK := Lib.hid hK
  clear hS hv hb hK hu
  go_enter Try.func92, Try.ntmps92
  go_wp2
  go_ret
  exact ⟨rfl, HJ.out, HK.out⟩

set_option maxRecDepth 100000 in
set_option maxHeartbeats 2000000 in
theorem Complete_any (v u : Value) (r : Reg) (L : List Int) (w : World) (h : RegV w v r) (hu : Il w u L) : Calls Try.prog 50 #[v, u] w (RetIB (completeR r L) w) := by
  obtain ⟨a, cap, rfl, hs, hlc, hcm⟩ := h.opened
  have S0 := Lib.hid ((Sep.start w none).box #[.int .i64 r.wide, .int .i64 r.tall, .slice a r.cells.length cap] 25)
  have HS := Lib.hid hs
  have HU := Lib.hid hu
  obtain ⟨ua, uc, rfl, hul, hum, _⟩ := hu.opened
  have RV : Hid (∀ w', Below w.heap.size w w' → RegV w' (.agg #[.int .i64 r.wide, .int .i64 r.tall, .slice a r.cells.length cap]) r) := Lib.hid fun w' hb => ⟨_, rfl, HS.out.below hb⟩
  clear h hs hu
  cases hk : laidOk r L
  · go_enter Try.func50, Try.ntmps50
    go_wp2_with (fail)
    refine (LaidOk_is _ _ r L _ (RV.out _ S0.out.bel) (HU.out.below S0.out.bel) false hk).mono ?_
    rintro e w1 ⟨rfl, hb⟩
    have S1 := Lib.hid (S0.out.below hb)
    clear hb
    go_wp2
    go_ret2
    exact retIB_is (completeR_no hk) (Sl.nil _) S1.out.bel
  · have hv := (laidOk_iff.1 hk).1
    have hlen := (laidOk_iff.1 hk).2.1
    have hA : 0 < L.length ∧ L.length ≤ 36 := by
      obtain ⟨b1, b2, b3, b4⟩ := Reg.valid_iff.1 hv
      have := area_in b1 b2
      omega
    have HK := Lib.hid hk
    have HOP := Lib.hid (laid_open hk)
    have HR := Lib.hid ((completeR_head hk).trans (headQ_vis _))
    have HNT := Lib.hid (tils_len r 40 L)
    obtain ⟨q, hq⟩ : ∃ q, goes false (tils 40 r L) = q := ⟨_, rfl⟩
    have HQ := Lib.hid hq
    rw [hq] at HR
    obtain ⟨y6, hy6⟩ : ∃ x, lastL (vis false (tils 40 r L)) = x := ⟨_, rfl⟩
    rw [hy6] at HR
    have HY6 := Lib.hid hy6
    clear hk hlen hq hy6
    go_enter Try.func50, Try.ntmps50
    go_wp2_with (fail)
    refine (LaidOk_is _ _ r L _ (RV.out _ S0.out.bel) (HU.out.below S0.out.bel) true HK.out).mono ?_
    rintro e w1 ⟨rfl, hb⟩
    have S1 := Lib.hid (S0.out.below hb)
    clear hb S0
    have S2 : Hid (Sep w none (w1.alloc (.cells #[.slice none 0 0] 26)).drew [.box w.heap.size #[.int .i64 r.wide, .int .i64 r.tall, .slice a r.cells.length cap] 25, .box w1.heap.size #[.slice none 0 0] 26]) := Lib.hid (S1.out.box #[.slice none 0 0] 26).drew
    obtain ⟨x0, x1, x2⟩ := S1.out.c3 0 rfl
    go_wp2_with (fail)
    go_region_held3 (fun w' => w'.cell? ⟨w.heap.size, 0, none⟩ = some (.int .i64 r.wide) ∧ w'.cell? ⟨w.heap.size, 1, none⟩ = some (.int .i64 r.tall) ∧ w'.cell? ⟨w.heap.size, 2, none⟩ = some (.slice a r.cells.length cap))
      (first | with_reducible exact K5.out | with_reducible exact K4.out | (go_keep; done) | assumption)
      ((first
        | (go_at_call 91; refine (each92_n _ r false (2 ^ 40) w _ HS.out (JC w w1.heap.size) (fun xs _ _ h hb => h.below hb) (fun xs _ h => h.bel) (fun xs u L x _ h hu _ => Complete1_any w w1.heap.size xs u L x h hu) 40 [] _ L _ O4.out HK.out HOP.out J4.out (by simpa using HNT.out)).mono ?_; unfold Eached; rw [HQ.out]; rintro e w6 ⟨rfl, hj6, hk6⟩; (have J6 := Lib.hid hj6); (have K5 := Lib.hid (RB.kl ⟨S4.out.blk 0 rfl, HS.out.below S4.out.bel⟩ hk6 (HS.out.below hj6.bel)).c3); clear hj6 hk6)
        | (go_at_call 70; refine (clone_int _ L _ (HU.out.below S2.out.bel) hA.1 (by omega)).mono ?_; rintro e w4 ⟨v4, rfl, hcl, hb4⟩; (have O4 := Lib.hid ((cl_ow hcl).mono (Nat.zero_le _))); (have S4 := Lib.hid (S2.out.below hb4)); (have J4 := Lib.hid (show JC w w1.heap.size [] w4 from ⟨_, (S4.out.pick [1] (by decide) rfl), .inl ⟨rfl, rfl⟩⟩)); (have K4 := Lib.hid (Sep.c3 S4.out 0 rfl)); clear hcl hb4)))
    all_goals
      obtain ⟨v6, hS6, hv6⟩ := J6.out
      have hb6 := hS6.blk 0 rfl
      have c6 : w6.cell? ⟨w1.heap.size, 0, none⟩ = some v6 := by rw [cell_of_row w6 w1.heap.size 0 _ _ _ hb6]; rfl
      have lt6 := lt_of_heap hb6
      have B6 := Lib.hid hS6.bel
      have V6 := Lib.hid (show Il w6 v6 y6 from by have := hv6.il; rwa [List.nil_append, HY6.out] at this)
      obtain ⟨va, vc, rfl, _, _, _⟩ := V6.out.opened
      clear hS6 hv6 hb6
      cases q
      all_goals
        go_wp2
        go_ret2
        exact retIB_is HR.out V6.out B6.out

set_option maxHeartbeats 400000 in
theorem TilingFirst_any (v : Value) (r : Reg) (w : World) (h : RegV w v r) : Calls Try.prog 23 #[v] w (RetIB (firstR r) w) := by
  obtain ⟨a, cap, rfl, hs, hlc, hcm⟩ := h.opened
  have R0 := Lib.hid (RB.new hs)
  have B0 := Lib.hid (below_alloc w (.cells #[.int .i64 r.wide, .int .i64 r.tall, .slice a r.cells.length cap] 25))
  clear h hs
  obtain ⟨q, hq⟩ : ∃ q, completeR r (bareL r) = q := ⟨_, rfl⟩
  have HQ := Lib.hid hq
  have HR := Lib.hid (show firstR r = q from hq)
  clear hq
  go_enter Try.func23, Try.ntmps23
  go_wp2_with (fail)
  obtain ⟨W, hW⟩ : ∃ W, W = w.alloc (.cells #[.int .i64 r.wide, .int .i64 r.tall, .slice a r.cells.length cap] 25) := ⟨_, rfl⟩
  rw [← hW] at R0 B0 ⊢
  clear hW
  generalize hX : w.heap.size = X at R0 ⊢
  obtain ⟨x0, x1, x2⟩ := R0.out.c3
  have sX := R0.out.lt
  have HB0 := Lib.hid (show Below W.heap.size W W.drew from (Below.refl _ _).drew)
  go_region_held3 (fun w' => w'.cell? ⟨X, 0, none⟩ = some (.int .i64 r.wide) ∧ w'.cell? ⟨X, 1, none⟩ = some (.int .i64 r.tall) ∧ w'.cell? ⟨X, 2, none⟩ = some (.slice a r.cells.length cap))
    (first | with_reducible exact K5.out | with_reducible exact K4.out | (go_keep; done) | assumption)
    ((first
      | (go_at_call 50; refine (Complete_any _ _ r (bareL r) _ (R4.out.v) (own_il O4.out)).mono ?_; rw [HQ.out]; rintro e w5 ⟨v5, rfl, ho5, hb5⟩; (have O5 := Lib.hid ho5); (have R5 := Lib.hid (R4.out.on hb5)); (have K5 := Lib.hid R5.out.c3); (have B5 := Lib.hid (B4.out.trans (hb5.mono B4.out.size))); clear ho5 hb5)
      | (go_at_call 19; refine (LaidBare_any _ r _ ((R0.out.on HB0.out).v)).mono ?_; rintro e w4 ⟨v4, rfl, ho4, hb4⟩; (have O4 := Lib.hid ho4); (have hb4s := hb4.size); (have R4 := Lib.hid ((R0.out.on HB0.out).on hb4)); (have K4 := Lib.hid R4.out.c3); (have B4 := Lib.hid (B0.out.trans ((HB0.out.trans (hb4.mono HB0.out.size)).mono B0.out.size))); clear ho4 hb4)))
  go_wp2
  go_ret2
  exact retIB_is HR.out O5.out (hX ▸ B5.out)
end Go.Proofs.Ytnmoaecihmjnnaa
