/- Walks: the program's sides. -/
import Derived.Test.YtdggcfpkbmdllaaZe
import Derived.Test.YtdggcfpkbmdllaaVLaw
import Derived.Test.YtdggcfpkbmdllaaVWj
set_option linter.unusedVariables false
namespace Go.Proofs.Ytdggcfpkbmdllaa
open Go.RowKit Domi

theorem side_info : (Try.prog.info? 75).map (fun i => (i.zero.map (fun z => z.cells.size), i.size, i.bytes)) = some (some 6, 6, 48) := by kernel_rfl
/-- Sides in memory of the call's own. -/
def Os (w : World) (B : Nat) (v : Value) (L : List Sd) : Prop := w.ownsRow B 75 6 v L.length (sdV L)
theorem Os.below {w w' : World} {B : Nat} {v : Value} {L : List Sd} (h : Os w B v L) (hb : Below w.heap.size w w') : Os w' B v L := World.ownsRow.kept h (grown_below hb none) (by
  cases v.ownBlock with
  | none => exact .inl rfl
  | some k => exact .inr (fun e => by cases e))
theorem Os.mono {w : World} {B B' : Nat} {v : Value} {L : List Sd} (h : Os w B v L) (hB : B' ≤ B) : Os w B' v L := by
  rcases h with ⟨h0, h1 | ⟨g, cap, cur, h1, h2, h3⟩⟩
  · exact ⟨h0, .inl h1⟩
  · exact ⟨h0, .inr ⟨g, cap, cur, h1, by omega, h3⟩⟩
section
variable {w : World} {ops : Array Oper} {o : Oper} {a : Act} {Q : Exit → Act → World → Prop}
theorem list_app6 (B : Nat) (v : Value) (L : List Sd) (hown : Os w B v L) (g0 : Nat) (sd : Sd) (s y : Operand) {rest : List Oper} (hgd : o.guard = none)
    (ho : o.op = .call { callee := .builtin .append, args := #[s, y], argTypes := #[72, 72] }) (hs : a.eval s = v) (hx : a.eval y = .slice (some ⟨g0, 0, none⟩) 1 1)
    (cs : Array Value) (hn : w.heap[g0]? = some (.cells cs 75 (0, 0))) (hcs : cs.toList = sd.vals) (hl : L.length ≤ 1000) (hB : B ≤ w.heap.size)
    (h : ∀ g cap w', Os w' B (.slice (some ⟨g, 0, none⟩) (L.length + 1) cap) (L ++ [sd]) → w.grownBy w' v.ownBlock → (v.ownBlock = some g ∨ g = w.heap.size) → wpList Try.prog ops Q rest (a.put o.dst (.slice (some ⟨g, 0, none⟩) (L.length + 1) cap)) w') :
    wpList Try.prog ops Q (o :: rest) a w := by
  have hinf := side_info
  cases hi : Try.prog.info? 75 with
  | none => rw [hi] at hinf; simp at hinf
  | some i =>
    rw [hi] at hinf
    simp only [Option.map_some, Option.some.injEq, Prod.mk.injEq] at hinf
    cases hz : i.zero with
    | none => rw [hz] at hinf; simp at hinf
    | some z =>
      rw [hz] at hinf
      refine wpList_append_lies w hgd s y 72 ho B 75 i z 6 48 Try.underlying72 hi hz hinf.2.1 hinf.2.2 (by simpa using hinf.1) (by omega) v L.length (sdV L) hs hown ⟨g0, 0, none⟩ 1 1 sd.vals hx (by simp [Sd.vals]) ?_ ?_ (by omega) (by unfold maxLen; omega) (by omega) hB _ rfl ?_
      · intro j u hj
        have hadd : (⟨g0, 0, none⟩ : Addr).add j = ⟨g0, j, none⟩ := by unfold Addr.add; split <;> simp_all
        rw [hadd, cell_of_row w g0 j cs _ _ hn, ← hj, ← hcs]
        simp
      · intro u hu
        simp [Sd.vals] at hu
        rcases hu with rfl | rfl | rfl | rfl | rfl | rfl <;> rfl
      · intro g cap w' k1 k2 k3 _
        refine h g cap w' ?_ k2 k3
        unfold Os
        rw [sdV_snoc, List.length_append]
        exact k1
end
theorem os_bel {W wr w8 : World} {v : Value} {L : List Sd} {o : Obj} (h : Below W.heap.size W wr) (hg : (wr.alloc o).grownBy w8 v.ownBlock) (ho : Os (wr.alloc o) W.heap.size v L) : Below W.heap.size W w8 :=
  (h.trans ((below_alloc wr o).mono h.size)).trans (below_grown hg (by have := h.size; simp; omega) (fun i hi => (World.ownsRow.lt ho i hi).1))
theorem at9_is (v : Value) (r : Reg) (x y : Int) (w : World) (h : RegV w v r) (hv : r.valid = true) (hx : -100 ≤ x ∧ x ≤ 100) (hy : -100 ≤ y ∧ y ≤ 100) (c : Bool) (hc : r.at_ x y = c) :
    Calls Try.prog 95 #[v, .int .i64 x, .int .i64 y] w (Ret (.bool c) w) := by rw [← hc]; exact at_any v r x y w h hv hx hy
set_option maxRecDepth 100000 in
set_option maxHeartbeats 4000000 in
theorem sides_os (v : Value) (r : Reg) (w : World) (h : RegV w v r) (w0 t : Nat) (F : Fld r w0 t) :
    Calls Try.prog 75 #[v] w fun e w' => ∃ u, e = .returned u ∧ Os w' w.heap.size u (sdTo r w0 r.cor) ∧ Below w.heap.size w w' := by
  obtain ⟨ra, rc, rfl, hs, hlc, hcm⟩ := h.opened
  have HS := Lib.hid hs
  have R := RB.new hs
  have B0 := below_alloc w (.cells #[.int .i64 r.wide, .int .i64 r.tall, .slice ra r.cells.length rc] 28)
  obtain ⟨W, hW⟩ : ∃ W, W = w.alloc (.cells #[.int .i64 r.wide, .int .i64 r.tall, .slice ra r.cells.length rc] 28) := ⟨_, rfl⟩
  have hWs : w.heap.size < W.heap.size := by rw [hW]; simp
  have GB := B0
  rw [← hW] at R GB
  have R := Lib.hid R
  have GB := Lib.hid GB
  have HV := Lib.hid F.hv
  have HF := Lib.hid F
  have hw6 := F.w6
  have ht6 := F.t6
  have HFw := Lib.hid F.hw
  have HFt := Lib.hid F.ht
  have hwb : 0 ≤ r.wide ∧ r.wide ≤ 6 := by have := F.hw; omega
  have htb : 0 ≤ r.tall ∧ r.tall ≤ 6 := by have := F.ht; omega
  clear h hs B0 F
  go_enter Try.func75, Try.ntmps75
  go_wp2_with (fail)
  rw [← hW]
  clear hW
  have O0 := Lib.hid (show Os W W.heap.size (.slice none 0 0) [] from ⟨rfl, .inl ⟨rfl, rfl⟩⟩)
  go_loopw [3, 5] (fun o i wr => ∃ (y m c : Nat) (a : Option Addr) (L : List Sd), y ≤ t + 1 ∧ i = .int .i64 y ∧ o = .slice a m c ∧ Hid (L = sdTo r w0 (y * (w0 + 1))) ∧ Hid (m = L.length) ∧ Os wr W.heap.size (.slice a m c) L ∧ Below W.heap.size W wr) (fun _ i _ => t + 1 - (intOf i).toNat)
  case atStart => exact ⟨0, 0, 0, none, [], Nat.zero_le _, rfl, rfl, Lib.hid (by rw [Nat.zero_mul]; rfl), Lib.hid rfl, O0.out, Below.refl _ _⟩
  case round =>
    clear O0
    obtain ⟨y, m, c, a, L, hy, rfl, rfl, HL, HM, hos, hbw⟩ := hrel
    have HBW := Lib.hid hbw
    have OS := Lib.hid hos
    have R1 := Lib.hid (R.out.on hbw)
    clear hbw hos
    obtain ⟨x0, x1, x2⟩ := R1.out.c3
    by_cases hyt : y ≤ t
    · have hyt' : (y : Int) ≤ r.tall := by have := HFt.out; omega
      have hyt2 : ¬ r.tall < (y : Int) := by omega
      go_wp2_with (fail)
      clear x0 x1 x2
      go_loopw [3, 6] (fun o i wr => ∃ (x m c : Nat) (a : Option Addr) (L : List Sd), x ≤ w0 + 1 ∧ i = .int .i64 x ∧ o = .slice a m c ∧ Hid (L = sdTo r w0 (y * (w0 + 1) + x)) ∧ Hid (m = L.length) ∧ Os wr W.heap.size (.slice a m c) L ∧ Below W.heap.size W wr) (fun _ i _ => w0 + 1 - (intOf i).toNat)
      case atStart => exact ⟨0, m, c, a, L, Nat.zero_le _, rfl, rfl, HL, HM, OS.out, HBW.out⟩
      case round =>
        clear OS HBW R1 HL HM
        obtain ⟨x, m, c, a, L, hx, rfl, rfl, HL, HM, hos, hbw⟩ := hrel
        have HBW := Lib.hid hbw
        have OS := Lib.hid hos
        have R1 := Lib.hid (R.out.on hbw)
        clear hbw hos
        obtain ⟨x0, x1, x2⟩ := R1.out.c3
        by_cases hxw : x ≤ w0
        · have hxw' : (x : Int) ≤ r.wide := by have := HFw.out; omega
          have hxw2 : ¬ r.wide < (x : Int) := by omega
          obtain ⟨k, hk⟩ : ∃ k, y * (w0 + 1) + x = k := ⟨_, rfl⟩
          have hm0 : k % (w0 + 1) = x := by rw [← hk, Nat.add_comm, Nat.add_mul_mod_self_right]; exact Nat.mod_eq_of_lt (by omega)
          have hd0 : k / (w0 + 1) = y := by rw [← hk, Nat.add_comm, Nat.add_mul_div_right _ _ (by omega), Nat.div_eq_of_lt (by omega)]; omega
          have hyw : y * (w0 + 1) ≤ 6 * 7 := Nat.mul_le_mul (by omega) (by omega)
          have hkk : (y : Int) * (r.wide + 1) + (x : Int) = (k : Int) := by rw [HFw.out, ← hk]; push_cast; rfl
          have hkb : (y : Int) * (r.wide + 1) = ((y * (w0 + 1) : Nat) : Int) := by rw [HFw.out]; push_cast; rfl
          have hyb : 0 ≤ (y : Int) * (r.wide + 1) ∧ (y : Int) * (r.wide + 1) ≤ 42 := by omega
          have hk48 : k ≤ 48 := by omega
          have hm100 : m ≤ 200 := by rw [HM.out, HL.out, hk]; have := sdTo_len r w0 k; omega
          obtain ⟨b1, hb1⟩ : ∃ b, r.at_ x y = b := ⟨_, rfl⟩
          obtain ⟨b2, hb2⟩ : ∃ b, r.at_ x ((y : Int) - 1) = b := ⟨_, rfl⟩
          obtain ⟨b3, hb3⟩ : ∃ b, r.at_ ((x : Int) - 1) y = b := ⟨_, rfl⟩
          have HUE : Hid (usd r (sE w0 k) = (b1 || b2)) := Lib.hid (by unfold usd sE; simp only [hm0, hd0, hb1, hb2])
          have HUN : Hid (usd r (sN w0 k) = (b3 || b1)) := Lib.hid (by unfold usd sN; simp only [hm0, hd0, hb1, hb3])
          have HSE : Hid ((#[.int .i64 (k : Int), .int .i64 ((k : Int) + 1), .int .i64 (x : Int), .int .i64 (y : Int), .int .i64 (x : Int), .int .i64 ((y : Int) - 1)] : Array Value).toList = (sE w0 k).vals) := Lib.hid (by unfold Sd.vals sE; rw [hm0, hd0])
          have HSN : Hid ((#[.int .i64 (k : Int), .int .i64 ((k : Int) + (r.wide + 1)), .int .i64 ((x : Int) - 1), .int .i64 (y : Int), .int .i64 (x : Int), .int .i64 (y : Int)] : Array Value).toList = (sN w0 k).vals) := Lib.hid (by unfold Sd.vals sN; rw [hm0, hd0, HFw.out])
          have C1 := Lib.hid (fun (v : Value) (w : World) (h : RegV w v r) => at9_is v r x y w h HV.out (by omega) (by omega) b1 hb1)
          have C2 := Lib.hid (fun (v : Value) (w : World) (h : RegV w v r) => at9_is v r x ((y : Int) - 1) w h HV.out (by omega) (by omega) b2 hb2)
          have C3 := Lib.hid (fun (v : Value) (w : World) (h : RegV w v r) => at9_is v r ((x : Int) - 1) y w h HV.out (by omega) (by omega) b3 hb3)
          clear hb1 hb2 hb3 hm0 hd0 hkb
          go_wp2_with (fail)
          refine (C1.out _ _ R1.out.v).mono ?_
          rintro e w4 ⟨rfl, hb⟩
          have R1 := Lib.hid (R1.out.on hb)
          have OS := Lib.hid (OS.out.below hb)
          have HBW := Lib.hid (HBW.out.trans (hb.mono HBW.out.size))
          clear hb x0 x1 x2
          obtain ⟨x0, x1, x2⟩ := R1.out.c3
          cases b1
          · go_wp2_with (fail)
            refine (C2.out _ _ R1.out.v).mono ?_
            rintro e w5 ⟨rfl, hb⟩
            have R1 := Lib.hid (R1.out.on hb)
            have OS := Lib.hid (OS.out.below hb)
            have HBW := Lib.hid (HBW.out.trans (hb.mono HBW.out.size))
            clear hb x0 x1 x2
            obtain ⟨x0, x1, x2⟩ := R1.out.c3
            cases b2
            · go_wp2_with (fail)
              refine (C1.out _ _ R1.out.v).mono ?_
              rintro e w10 ⟨rfl, hb⟩
              have R1 := Lib.hid (R1.out.on hb)
              have OS := Lib.hid (OS.out.below hb)
              have HBW := Lib.hid (HBW.out.trans (hb.mono HBW.out.size))
              clear hb x0 x1 x2
              obtain ⟨x0, x1, x2⟩ := R1.out.c3
              go_wp2_with (fail)
              refine (C3.out _ _ R1.out.v).mono ?_
              rintro e w11 ⟨rfl, hb⟩
              have R1 := Lib.hid (R1.out.on hb)
              have OS := Lib.hid (OS.out.below hb)
              have HBW := Lib.hid (HBW.out.trans (hb.mono HBW.out.size))
              clear hb x0 x1 x2
              obtain ⟨x0, x1, x2⟩ := R1.out.c3
              cases b3
              · have HE : Hid (sdE r w0 k = []) := Lib.hid (by unfold sdE; rw [HUE.out]; simp)
                have HNN : Hid (sdN r w0 k = []) := Lib.hid (by unfold sdN; rw [HUN.out]; simp)
                have NL : Hid (L = sdTo r w0 (y * (w0 + 1) + (x + 1))) := Lib.hid (by rw [show y * (w0 + 1) + (x + 1) = k + 1 by omega, sdTo, HE.out, HNN.out, HL.out, hk] <;> simp)
                clear x0 x1 x2
                go_wp2_with (fail)
                go_roundw
                case rel => exact ⟨x + 1, m, c, a, _, by omega, by go_num, rfl, NL, Lib.hid (by simp [← HM.out]), OS.out, HBW.out⟩
                case measure => simp [intOf]; omega
              · have HE : Hid (sdE r w0 k = []) := Lib.hid (by unfold sdE; rw [HUE.out]; simp)
                have HNN : Hid (sdN r w0 k = [sN w0 k]) := Lib.hid (by unfold sdN; rw [HUN.out]; simp)
                go_wp2_with ((at_builtin; refine list_app6 W.heap.size (.slice a m c) L (OS.out.below (below_alloc _ _)) w11.heap.size (sN w0 k) (.tmp 62) (.tmp 73) rfl rfl rfl rfl _ (heap_alloc_new _ _) ?_ (by rw [← HM.out]; omega) (by have := HBW.out.size; simp; omega) ?_; exact HSN.out; intro g2 c2 w8 o8 g8 _; (have O8 := Lib.hid (show Os w8 W.heap.size (.slice (some ⟨g2, 0, none⟩) (m + 1) c2) (L ++ [sN w0 k]) by rw [HM.out]; exact o8)); (have HBW8 := Lib.hid (os_bel HBW.out g8 (OS.out.below (below_alloc _ _)))); (have RZ := (R.out.on HBW8.out).c3); obtain ⟨z0, z1, z2⟩ := RZ; clear o8 g8; rw [← HM.out]))
                have NL : Hid (L ++ [sN w0 k] = sdTo r w0 (y * (w0 + 1) + (x + 1))) := Lib.hid (by rw [show y * (w0 + 1) + (x + 1) = k + 1 by omega, sdTo, HE.out, HNN.out, HL.out, hk] <;> simp)
                clear x0 x1 x2
                go_wp2_with (fail)
                go_roundw
                case rel => exact ⟨x + 1, m + 1, c2, some ⟨g2, 0, none⟩, _, by omega, by go_num, rfl, NL, Lib.hid (by simp [← HM.out]), O8.out, HBW8.out⟩
                case measure => simp [intOf]; omega
            · go_wp2_with ((at_builtin; refine list_app6 W.heap.size (.slice a m c) L (OS.out.below (below_alloc _ _)) w5.heap.size (sE w0 k) (.tmp 39) (.tmp 49) rfl rfl rfl rfl _ (heap_alloc_new _ _) ?_ (by rw [← HM.out]; omega) (by have := HBW.out.size; simp; omega) ?_; exact HSE.out; intro g2 c2 w8 o8 g8 _; (have O8 := Lib.hid (show Os w8 W.heap.size (.slice (some ⟨g2, 0, none⟩) (m + 1) c2) (L ++ [sE w0 k]) by rw [HM.out]; exact o8)); (have HBW8 := Lib.hid (os_bel HBW.out g8 (OS.out.below (below_alloc _ _)))); (have RZ := (R.out.on HBW8.out).c3); obtain ⟨z0, z1, z2⟩ := RZ; clear o8 g8; rw [← HM.out]))
              have R1 := Lib.hid (R.out.on HBW8.out)
              clear x0 x1 x2
              obtain ⟨x0, x1, x2⟩ := R1.out.c3
              refine (C1.out _ _ R1.out.v).mono ?_
              rintro e w10 ⟨rfl, hb⟩
              have R1 := Lib.hid (R1.out.on hb)
              have O8 := Lib.hid (O8.out.below hb)
              have HBW8 := Lib.hid (HBW8.out.trans (hb.mono HBW8.out.size))
              clear hb x0 x1 x2
              obtain ⟨x0, x1, x2⟩ := R1.out.c3
              go_wp2_with (fail)
              refine (C3.out _ _ R1.out.v).mono ?_
              rintro e w11 ⟨rfl, hb⟩
              have R1 := Lib.hid (R1.out.on hb)
              have O8 := Lib.hid (O8.out.below hb)
              have HBW8 := Lib.hid (HBW8.out.trans (hb.mono HBW8.out.size))
              clear hb x0 x1 x2
              obtain ⟨x0, x1, x2⟩ := R1.out.c3
              cases b3
              · have HE : Hid (sdE r w0 k = [sE w0 k]) := Lib.hid (by unfold sdE; rw [HUE.out]; simp)
                have HNN : Hid (sdN r w0 k = []) := Lib.hid (by unfold sdN; rw [HUN.out]; simp)
                have NL : Hid (L ++ [sE w0 k] = sdTo r w0 (y * (w0 + 1) + (x + 1))) := Lib.hid (by rw [show y * (w0 + 1) + (x + 1) = k + 1 by omega, sdTo, HE.out, HNN.out, HL.out, hk] <;> simp)
                clear x0 x1 x2
                go_wp2_with (fail)
                go_roundw
                case rel => exact ⟨x + 1, m + 1, c2, some ⟨g2, 0, none⟩, _, by omega, by go_num, rfl, NL, Lib.hid (by simp [← HM.out]), O8.out, HBW8.out⟩
                case measure => simp [intOf]; omega
              · have HE : Hid (sdE r w0 k = [sE w0 k]) := Lib.hid (by unfold sdE; rw [HUE.out]; simp)
                have HNN : Hid (sdN r w0 k = [sN w0 k]) := Lib.hid (by unfold sdN; rw [HUN.out]; simp)
                go_wp2_with ((at_builtin; refine list_app6 W.heap.size (.slice (some ⟨g2, 0, none⟩) (m + 1) c2) (L ++ [sE w0 k]) (O8.out.below (below_alloc _ _)) w11.heap.size (sN w0 k) (.tmp 62) (.tmp 73) rfl rfl rfl rfl _ (heap_alloc_new _ _) ?_ (by rw [List.length_append, ← HM.out]; simp; omega) (by have := HBW8.out.size; simp; omega) ?_; exact HSN.out; intro g3 c3 w9 o9 g9 _; (have O9 := Lib.hid (show Os w9 W.heap.size (.slice (some ⟨g3, 0, none⟩) (m + 2) c3) (L ++ [sE w0 k] ++ [sN w0 k]) by have h := o9; rw [List.length_append, ← HM.out] at h; exact h)); (have HBW9 := Lib.hid (os_bel HBW8.out g9 (O8.out.below (below_alloc _ _)))); clear o9 g9; rw [List.length_append, ← HM.out]))
                have NL : Hid (L ++ [sE w0 k] ++ [sN w0 k] = sdTo r w0 (y * (w0 + 1) + (x + 1))) := Lib.hid (by rw [show y * (w0 + 1) + (x + 1) = k + 1 by omega, sdTo, HE.out, HNN.out, HL.out, hk] <;> simp)
                clear x0 x1 x2
                go_wp2_with (fail)
                go_roundw
                case rel => exact ⟨x + 1, m + 2, c3, some ⟨g3, 0, none⟩, _, by omega, by go_num, rfl, NL, Lib.hid (by simp [← HM.out]), O9.out, HBW9.out⟩
                case measure => simp [intOf]; omega
          · have HE : Hid (sdE r w0 k = [sE w0 k]) := Lib.hid (by unfold sdE; rw [HUE.out]; simp)
            have HNN : Hid (sdN r w0 k = [sN w0 k]) := Lib.hid (by unfold sdN; rw [HUN.out]; simp)
            go_wp2_with ((at_builtin; refine list_app6 W.heap.size (.slice a m c) L (OS.out.below (below_alloc _ _)) w4.heap.size (sE w0 k) (.tmp 39) (.tmp 49) rfl rfl rfl rfl _ (heap_alloc_new _ _) ?_ (by rw [← HM.out]; omega) (by have := HBW.out.size; simp; omega) ?_; exact HSE.out; intro g2 c2 w8 o8 g8 _; (have O8 := Lib.hid (show Os w8 W.heap.size (.slice (some ⟨g2, 0, none⟩) (m + 1) c2) (L ++ [sE w0 k]) by rw [HM.out]; exact o8)); (have HBW8 := Lib.hid (os_bel HBW.out g8 (OS.out.below (below_alloc _ _)))); (have RZ := (R.out.on HBW8.out).c3); obtain ⟨z0, z1, z2⟩ := RZ; clear o8 g8; rw [← HM.out]))
            have R1 := Lib.hid (R.out.on HBW8.out)
            clear x0 x1 x2
            obtain ⟨x0, x1, x2⟩ := R1.out.c3
            refine (C1.out _ _ R1.out.v).mono ?_
            rintro e w10 ⟨rfl, hb⟩
            have R1 := Lib.hid (R1.out.on hb)
            have O8 := Lib.hid (O8.out.below hb)
            have HBW8 := Lib.hid (HBW8.out.trans (hb.mono HBW8.out.size))
            clear hb x0 x1 x2
            obtain ⟨x0, x1, x2⟩ := R1.out.c3
            go_wp2_with ((at_builtin; refine list_app6 W.heap.size (.slice (some ⟨g2, 0, none⟩) (m + 1) c2) (L ++ [sE w0 k]) (O8.out.below (below_alloc _ _)) w10.heap.size (sN w0 k) (.tmp 62) (.tmp 73) rfl rfl rfl rfl _ (heap_alloc_new _ _) ?_ (by rw [List.length_append, ← HM.out]; simp; omega) (by have := HBW8.out.size; simp; omega) ?_; exact HSN.out; intro g3 c3 w9 o9 g9 _; (have O9 := Lib.hid (show Os w9 W.heap.size (.slice (some ⟨g3, 0, none⟩) (m + 2) c3) (L ++ [sE w0 k] ++ [sN w0 k]) by have h := o9; rw [List.length_append, ← HM.out] at h; exact h)); (have HBW9 := Lib.hid (os_bel HBW8.out g9 (O8.out.below (below_alloc _ _)))); clear o9 g9; rw [List.length_append, ← HM.out]))
            have NL : Hid (L ++ [sE w0 k] ++ [sN w0 k] = sdTo r w0 (y * (w0 + 1) + (x + 1))) := Lib.hid (by rw [show y * (w0 + 1) + (x + 1) = k + 1 by omega, sdTo, HE.out, HNN.out, HL.out, hk] <;> simp)
            clear x0 x1 x2
            go_wp2_with (fail)
            go_roundw
            case rel => exact ⟨x + 1, m + 2, c3, some ⟨g3, 0, none⟩, _, by omega, by go_num, rfl, NL, Lib.hid (by simp [← HM.out]), O9.out, HBW9.out⟩
            case measure => simp [intOf]; omega
        · have e : w0 + 1 = x := by omega
          have hxw' : ¬ (x : Int) ≤ r.wide := by have := HFw.out; omega
          have NL : Hid (L = sdTo r w0 ((y + 1) * (w0 + 1))) := Lib.hid (by rw [HL.out, Nat.add_mul, Nat.one_mul, ← e])
          clear HL e
          go_wp2_with (fail)
          go_roundw
          case rel => exact ⟨y + 1, m, c, a, L, by omega, by go_num, rfl, NL, HM, OS.out, HBW.out⟩
          case measure => simp [intOf]; omega
    · have hyt' : ¬ (y : Int) ≤ r.tall := by have := HFt.out; omega
      have EN : Hid (sdTo r w0 r.cor = L) := Lib.hid (by rw [HL.out, cor_is HF.out, show y = t + 1 by omega, Nat.mul_comm])
      have EO : Hid (Os wr w.heap.size (.slice a m c) (sdTo r w0 r.cor)) := Lib.hid (by
        rw [EN.out]
        exact Os.mono OS.out (Nat.le_of_lt hWs))
      go_wp2_with (fail)
      go_ret
      exact ⟨_, rfl, EO.out, GB.out.trans (HBW.out.mono (Nat.le_of_lt hWs))⟩
end Go.Proofs.Ytdggcfpkbmdllaa
