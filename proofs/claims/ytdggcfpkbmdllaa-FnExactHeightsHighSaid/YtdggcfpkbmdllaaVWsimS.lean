/- Walks: l4Outside, Simple of the reference. -/
import Derived.Test.YtdggcfpkbmdllaaZe
import Derived.Test.YtdggcfpkbmdllaaVWholes
import Derived.Test.YtdggcfpkbmdllaaVWpm
import Derived.Test.YtdggcfpkbmdllaaVWpartsS
import Derived.Test.YtdggcfpkbmdllaaVClipI
import Derived.Test.YtdggcfpkbmdllaaVLaw
import Derived.Test.YtdggcfpkbmdllaaVLil
import Derived.Test.YtdggcfpkbmdllaaVWg
set_option linter.unusedVariables false
namespace Go.Proofs.Ytdggcfpkbmdllaa
open Go.RowKit Domi

def nvq (Q : List Nat) : List Int := Q.map fun k : Nat => (k : Int)
def OuS (X : Nat) (r : Reg) (s : Value) (g h m c : Nat) (M : List Bool) (Q : List Nat) : List It :=
  [.box X #[.int .i64 r.wide, .int .i64 r.tall, s] 28, .row 4 (.slice (some ⟨g, 0, none⟩) r.n2 r.n2) (M.map Value.bool), .row 3 (.slice (some ⟨h, 0, none⟩) m c) ((nvq Q).map (Value.int .i64))]
theorem nvq_len (Q : List Nat) : (nvq Q).length = Q.length := by simp [nvq]
theorem own_nv {w : World} {B : Nat} {e : TypeId} {h m c : Nat} {Q : List Nat} (o : Own w B e (.slice (some ⟨h, 0, none⟩) m c) ((nvq Q).map (Value.int .i64))) {k : Nat} (hk : k < Q.length) :
    w.cell? ⟨h, k, none⟩ = some (.int .i64 ((Q.getD k 0 : Nat) : Int)) ∧ h < w.heap.size := by
  have hn : m = Q.length := by obtain ⟨_, _, _, hn, _⟩ := o.block; simpa [nvq] using hn
  obtain ⟨h1, h2, h3⟩ := o.cell k (by omega)
  refine ⟨?_, h3⟩
  rw [h1]
  simp [nvq, List.getD_eq_getElem?_getD, hk]
theorem ouS_app {w wr w5 : World} {X : Nat} {r : Reg} {s : Value} {g h n c : Nat} {M : List Bool} {Q : List Nat} {k b g2 c2 : Nat} {v : Int}
    (H : Sep w none wr [.box X #[.int .i64 r.wide, .int .i64 r.tall, s] 28, .row 4 (.slice (some ⟨g, 0, none⟩) r.n2 r.n2) ((M.map Value.bool).set k (.bool true)), .row 3 (.slice (some ⟨h, 0, none⟩) n c) ((nvq Q).map (Value.int .i64))])
    (A : App wr 0 3 (.slice (some ⟨h, 0, none⟩) n c) ((nvq Q).map (Value.int .i64)) (.int .i64 v) g2 c2 w5) (hn : n = Q.length) (hv : v = (b : Int)) (hk : k = b) :
    Sep w none w5 (OuS X r s g g2 (n + 1) c2 (M.set b true) (Q ++ [b])) := by
  have := H.app 2 rfl A
  subst hv hk
  rw [List.length_map, nvq_len, ← hn] at this
  unfold OuS nvq at *
  rw [List.map_append, List.map_append, List.map_set]
  exact this
theorem sl1In_is (n lo hi : Int) (w : World) (b : Bool) (h : inB n lo hi = b) : Calls Try.prog 66 #[.int .i64 n, .int .i64 lo, .int .i64 hi] w fun e w' => e = .returned (.bool b) ∧ w = w' := by rw [← h]; exact l1In_any n lo hi w
theorem sl1At_is (v : Value) (r : Reg) (x y : Int) (w : World) (h : RegV w v r) (hv : r.valid = true) (hx : -100 ≤ x ∧ x ≤ 100) (hy : -100 ≤ y ∧ y ≤ 100) (b : Bool) (hb : r.at_ x y = b) :
    Calls Try.prog 98 #[v, .int .i64 x, .int .i64 y] w (Ret (.bool b) w) := by rw [← hb]; exact l1At_any v r x y w h hv hx hy
set_option maxRecDepth 100000 in
set_option maxHeartbeats 4000000 in
theorem l4Outside_any (v : Value) (r : Reg) (w : World) (h : RegV w v r) (hv : r.valid = true) (b : Bool) (hb0 : decide (r.outs = 1) = b) :
    Calls Try.prog 97 #[v] w (Ret (.bool b) w) := by
  obtain ⟨v1, v2, v3, _⟩ := Reg.valid_iff.1 hv
  obtain ⟨a, cap, rfl, hs, hlc, hcm⟩ := h.opened
  have RV : Hid (∀ w', Below w.heap.size w w' → RegV w' (.agg #[.int .i64 r.wide, .int .i64 r.tall, .slice a r.cells.length cap]) r) := Lib.hid fun w' hb => ⟨_, rfl, hs.below hb⟩
  have HS := Lib.hid hs
  have HV := Lib.hid hv
  have HB := Lib.hid hb0
  have hA := area_in' v1 v2
  have hN := n2_int (r := r) (by omega) (by omega)
  have hA0 : 0 ≤ (r.wide + 2) * (r.tall + 2) := by omega
  have HNN := Lib.hid hN
  have hn64 : r.n2 ≤ 64 := by omega
  have hn1 : 0 < r.n2 := fr_lt (zero_fr (r := r) (by omega) (by omega))
  have hsz : (w.alloc (.cells #[.int .i64 r.wide, .int .i64 r.tall, .slice a r.cells.length cap] 28)).heap.size = w.heap.size + 1 := by simp
  have S0 := Lib.hid ((Sep.start w none).box #[.int .i64 r.wide, .int .i64 r.tall, .slice a r.cells.length cap] 28)
  have HSZ := Lib.hid hsz
  clear hs h hv hb0 hN v3 hsz
  go_enter Try.func97, Try.ntmps97
  go_upto_region 3 with (at_make; refine list_make elem_bools (.bool false) zero_bool rfl r.n2 (.tmp 19) (.tmp 19) rfl rfl ((r.wide + 2) * (r.tall + 2)) ?_ ?_ HNN.out.symm ?_ ?_ ?_; rfl; rfl; omega; omega; intro cs hcs; (have S1 := S0.out.made (e := 4) hcs (by omega)))
  rw [HSZ.out] at S1
  obtain ⟨W1, hW1⟩ : ∃ W1, W1 = (w.alloc (.cells #[.int .i64 r.wide, .int .i64 r.tall, .slice a r.cells.length cap] 28)).alloc (.cells cs 4) := ⟨_, rfl⟩
  rw [← hW1] at S1 ⊢
  clear hW1 S0 HSZ hcs
  generalize w.heap.size + 1 = g at *
  obtain ⟨u0, u1, u2, u3⟩ := (S1.own 1 rfl).there 0 hn1
  have S2 := (S1.set 1 rfl 0 (.bool true)).lit 3 #[.int .i64 0] 1 rfl (by omega)
  have hsz2 : (W1.setCell ⟨g, 0, none⟩ (.bool true)).heap.size = W1.heap.size := by simp
  rw [hsz2] at S2
  have B0 := Lib.hid (Bfs.start (r := r) (by omega) (by omega))
  have S2 : Hid (Sep w none _ (OuS w.heap.size r (.slice a r.cells.length cap) g W1.heap.size 1 1 ((List.replicate r.n2 false).set 0 true) [0])) := Lib.hid (by
    have e : (List.replicate r.n2 (Value.bool false)).set 0 (.bool true) = ((List.replicate r.n2 false).set 0 true).map Value.bool := by rw [List.map_set, List.map_replicate]
    rw [e] at S2
    exact S2)
  have hXB : Hid (∀ {S : List It} (wx : World), Sep w none wx S → Below w.heap.size w wx) := Lib.hid fun wx h => h.bel
  clear hsz2
  go_wp2_with (fail)
  clear u1 u2 u3 S1
  go_loopw [5, 6] (fun o i wr => ∃ (k h m c : Nat) (M : List Bool) (Q : List Nat), k ≤ Q.length ∧ i = .int .i64 k ∧ o = .slice (some ⟨h, 0, none⟩) m c ∧ Hid (m = Q.length) ∧ Sep w none wr (OuS w.heap.size r (.slice a r.cells.length cap) g h m c M Q) ∧ Bfs r M Q k 0) (fun _ i _ => r.n2 - (intOf i).toNat)
  case atStart => exact ⟨0, W1.heap.size, 1, 1, _, [0], by simp, rfl, rfl, Lib.hid rfl, S2.out, B0.out⟩
  case round =>
    clear S2 B0
    obtain ⟨k, h, m, c, M, Q, hk, rfl, rfl, HM, S, hB⟩ := hrel
    have HS1 := Lib.hid S
    have HB1 := Lib.hid hB
    have hq64 := hB.le (zero_fr (r := r) (by omega) (by omega))
    clear S hB
    by_cases hlt : k < Q.length
    · have hlt' : (k : Int) < (m : Int) := by have := HM.out; omega
      obtain ⟨z1, z2⟩ := own_nv (HS1.out.own 2 rfl) hlt
      obtain ⟨q0, hq0⟩ : ∃ q, Q.getD k 0 = q := ⟨_, rfl⟩
      rw [hq0] at z1
      have hqm : q0 ∈ Q := by rw [← hq0, List.getD_eq_getElem?_getD, List.getElem?_eq_getElem hlt]; exact List.getElem_mem hlt
      have hqn := fr_lt (conn_fr (zero_fr (r := r) (by omega) (by omega)) (HB1.out.conn q0 hqm))
      have hpq := plc_at (r := r) (by omega) (by omega) hqn
      obtain ⟨x, hx⟩ : ∃ x, (q0 : Int) % (r.wide + 2) = x := ⟨_, rfl⟩
      obtain ⟨y, hy⟩ : ∃ y, (q0 : Int) / (r.wide + 2) = y := ⟨_, rfl⟩
      have HX := Lib.hid hx
      have HY := Lib.hid hy
      have HQ0 := Lib.hid hq0
      have hpx : (0 ≤ x ∧ x < r.wide + 2) ∧ 0 ≤ y ∧ y < r.tall + 2 := by
        rw [← hx, ← hy]; exact ⟨⟨hpq.1, hpq.2.1⟩, hpq.2.2.1, hpq.2.2.2.1⟩
      clear hpq hqm hq0
      go_wp2_with (fail)
      try rw [HX.out]
      try rw [HY.out]
      clear hx hy z1
      go_loopw [5, 9] (fun o i wr => ∃ (j h m c : Nat) (M : List Bool) (Q : List Nat), j ≤ 4 ∧ i = .int .i64 ((j : Int) + 1) ∧ o = .slice (some ⟨h, 0, none⟩) m c ∧ Hid (m = Q.length) ∧ Sep w none wr (OuS w.heap.size r (.slice a r.cells.length cap) g h m c M Q) ∧ Bfs r M Q k j ∧ k < Q.length ∧ Q.getD k 0 = q0) (fun _ i _ => 6 - (intOf i).toNat)
      case atStart => exact ⟨0, h, m, c, M, Q, by omega, rfl, rfl, HM, HS1.out, HB1.out, hlt, HQ0.out⟩
      case round =>
        clear HS1 HB1 HM HQ0 hlt hlt' hq64
        obtain ⟨j, h, m, c, M, Q, hj, rfl, rfl, HM, S, hB, hk, hq⟩ := hrel
        have HS := Lib.hid S
        have HB := Lib.hid hB
        have HQ := Lib.hid hq
        have hqn2 : Q.length ≤ r.n2 := hB.le (zero_fr (r := r) (by omega) (by omega))
        have hq64 : Q.length ≤ 64 := by omega
        clear S hB hq
        have hjc : j = 0 ∨ j = 1 ∨ j = 2 ∨ j = 3 ∨ j = 4 := by omega
        rcases hjc with rfl | rfl | rfl | rfl | rfl
        · have HPW : Hid (∀ b, plc r ((Q.getD k 0 : Nat) % (r.wide + 2) + dX (((0 : Nat) : Int) + 1)) ((Q.getD k 0 : Nat) / (r.wide + 2) + dY (((0 : Nat) : Int) + 1)) b ↔ plc r (x + 1) (y) b) := Lib.hid fun b => by
            rw [HQ.out, HX.out, HY.out]
            show plc r (x + (1)) (y + (0)) b ↔ _
            rw [show x + (1) = x + 1 by omega, show y + (0) = y by omega]
          have HSA := Lib.hid ((HS.out.alloc (.cells #[.int .i64 0, .int .i64 1, .int .i64 0, .int .i64 (-1), .int .i64 0] 3)).alloc (.cells #[.int .i64 0, .int .i64 0, .int .i64 1, .int .i64 0, .int .i64 (-1)] 3))
          obtain ⟨x0, x1, x2⟩ := HSA.out.c3 0 rfl
          clear x0 x2
          go_wp2_with (fail)
          by_cases hx1 : 0 ≤ x + 1 ∧ x + 1 ≤ r.wide + 1
          rotate_left
          · refine (sl1In_is _ _ _ _ false (inB_no (by omega))).mono ?_
            rintro e w' ⟨rfl, rfl⟩
            go_wp2
            go_roundw
            case rel => exact ⟨0 + 1, h, m, c, M, Q, by omega, by go_num, rfl, HM, HSA.out, HB.out.skip (fun b hb hf => absurd ((HPW.out b).1 hb) (fun hp => by have h1 := hp.1; have h2 := hp.2.1; have h3 := hp.2.2.1; have h4 := hp.2.2.2.1; omega)), hk, HQ.out⟩
            case measure => simp [intOf] <;> omega
          refine (sl1In_is _ _ _ _ true (inB_iff.2 (by omega))).mono ?_
          rintro e w' ⟨rfl, rfl⟩
          go_wp2_with (fail)
          by_cases hy1 : 0 ≤ y ∧ y ≤ r.tall + 1
          rotate_left
          · refine (sl1In_is _ _ _ _ false (inB_no (by omega))).mono ?_
            rintro e w' ⟨rfl, rfl⟩
            go_wp2
            go_roundw
            case rel => exact ⟨0 + 1, h, m, c, M, Q, by omega, by go_num, rfl, HM, HSA.out, HB.out.skip (fun b hb hf => absurd ((HPW.out b).1 hb) (fun hp => by have h1 := hp.1; have h2 := hp.2.1; have h3 := hp.2.2.1; have h4 := hp.2.2.2.1; omega)), hk, HQ.out⟩
            case measure => simp [intOf] <;> omega
          refine (sl1In_is _ _ _ _ true (inB_iff.2 (by omega))).mono ?_
          rintro e w' ⟨rfl, rfl⟩
          obtain ⟨b, hp, hcl, hcn, hn3, hmul, hk0⟩ := hole_place HV.out (x := x + 1) (y := y) hx1 hy1
          obtain ⟨u1, u2, u3⟩ := own_bool (HSA.out.own 1 rfl) (j := b) (by rw [HB.out.len]; exact hcl)
          have HP := Lib.hid hp
          have HCN := Lib.hid hcn
          rw [← hcn] at u1 u2
          cases hmet : M.getD ((y) * (r.wide + 2) + (x + 1)).toNat false
          rotate_left
          · rw [hmet] at u1
            have HMT := Lib.hid (hcn ▸ hmet)
            clear hp hcn hmet
            go_wp2
            go_roundw
            case rel => exact ⟨0 + 1, h, m, c, M, Q, by omega, by go_num, rfl, HM, HSA.out, HB.out.skip (fun b hb hf => by rw [((HPW.out _).1 hb).uniq HP.out]; exact HMT.out), hk, HQ.out⟩
            case measure => simp [intOf] <;> omega
          rw [hmet] at u1
          have HMT := Lib.hid (hcn ▸ hmet)
          clear hp hcn hmet
          obtain ⟨x0, x1, x2⟩ := HSA.out.c3 0 rfl
          go_wp2_with (fail)
          cases hat : r.at_ (x + 1 - 1) (y - 1)
          rotate_left
          · have HATT := Lib.hid (fun (p q : Int) (e1 : p = x + 1 - 1) (e2 : q = y - 1) => (show r.at_ p q = true by rw [e1, e2]; exact hat))
            refine (sl1At_is _ r _ _ _ (RV.out _ (hXB.out _ HSA.out)) HV.out (by omega) (by omega) true (HATT.out _ _ (by omega) (by omega))).mono ?_
            rintro e w3 ⟨rfl, hb3⟩
            have HS3 := Lib.hid (HSA.out.below hb3)
            have HA := Lib.hid hat
            clear hb3 hat u1 u2 u3 x0 x1 x2
            go_wp2
            go_roundw
            case rel => exact ⟨0 + 1, h, m, c, M, Q, by omega, by go_num, rfl, HM, HS3.out, HB.out.skip (fun b hb hf => absurd hf (by rw [((HPW.out _).1 hb).fr (by omega) (by omega), HA.out]; decide)), hk, HQ.out⟩
            case measure => simp [intOf] <;> omega
          have HATT := Lib.hid (fun (p q : Int) (e1 : p = x + 1 - 1) (e2 : q = y - 1) => (show r.at_ p q = false by rw [e1, e2]; exact hat))
          refine (sl1At_is _ r _ _ _ (RV.out _ (hXB.out _ HSA.out)) HV.out (by omega) (by omega) false (HATT.out _ _ (by omega) (by omega))).mono ?_
          rintro e w3 ⟨rfl, hb3⟩
          have HS3 := Lib.hid (HSA.out.below hb3)
          have HA := Lib.hid hat
          clear hb3 hat u1 u2 u3 x0 x1 x2
          have HF := Lib.hid (show r.fr b = true by rw [HP.out.fr (by omega) (by omega), HA.out]; rfl)
          obtain ⟨u1, u2, u3⟩ := own_bool (HS3.out.own 1 rfl) (j := b) (by rw [HB.out.len]; exact hcl)
          rw [← HCN.out] at u1 u2
          have HS4 := Lib.hid (HS3.out.set 1 rfl ((y) * (r.wide + 2) + (x + 1)).toNat (.bool true))
          have HIB : Hid (((y) * (r.wide + 2) + (x + 1) : Int) = (b : Int)) := Lib.hid HP.out.2.2.2.2.symm
          have HBP := Lib.hid (HB.out.put (by omega) (by omega) hk (by omega) ((HPW.out b).2 HP.out) HF.out HMT.out)
          have HGK : Hid ((Q ++ [b]).getD k 0 = q0) := Lib.hid (by rw [← HQ.out]; simp [List.getD_eq_getElem?_getD, List.getElem?_append_left hk])
          have hm64 : m ≤ 64 := by rw [HM.out]; exact hq64
          go_wp2_with (at_builtin; refine list_app elem_ints 0 (.slice (some ⟨h, 0, none⟩) m c) ((nvq Q).map (Value.int .i64)) ?_ w3.heap.size (.int .i64 ((y) * (r.wide + 2) + (x + 1))) (.tmp 96) (.tmp 102) rfl rfl rfl rfl ?_ rfl ?_ (Nat.zero_le _) ?_; exact Own.alloc (HS4.out.own 2 rfl) _; (have hz := heap_alloc_new (w3.setCell ⟨g, ((y) * (r.wide + 2) + (x + 1)).toNat, none⟩ (.bool true)) (.cells #[.int .i64 ((y) * (r.wide + 2) + (x + 1))] 3); simpa using hz); (rw [List.length_map, nvq_len, ← HM.out]; omega); intro g2 c2 w5 A5; (have S5 := Lib.hid (ouS_app (HS4.out.alloc _) A5 HM.out HIB.out HCN.out)); clear A5 HS3 HS4; rw [List.length_map, nvq_len, ← HM.out])
          go_roundw
          case rel => exact ⟨0 + 1, g2, m + 1, c2, _, Q ++ [b], by omega, by go_num, rfl, Lib.hid (by rw [List.length_append, ← HM.out]; rfl), S5.out, HBP.out, by rw [List.length_append]; omega, HGK.out⟩
          case measure => simp [intOf] <;> omega
        · have HPW : Hid (∀ b, plc r ((Q.getD k 0 : Nat) % (r.wide + 2) + dX (((1 : Nat) : Int) + 1)) ((Q.getD k 0 : Nat) / (r.wide + 2) + dY (((1 : Nat) : Int) + 1)) b ↔ plc r (x) (y + 1) b) := Lib.hid fun b => by
            rw [HQ.out, HX.out, HY.out]
            show plc r (x + (0)) (y + (1)) b ↔ _
            rw [show x + (0) = x by omega, show y + (1) = y + 1 by omega]
          have HSA := Lib.hid ((HS.out.alloc (.cells #[.int .i64 0, .int .i64 1, .int .i64 0, .int .i64 (-1), .int .i64 0] 3)).alloc (.cells #[.int .i64 0, .int .i64 0, .int .i64 1, .int .i64 0, .int .i64 (-1)] 3))
          obtain ⟨x0, x1, x2⟩ := HSA.out.c3 0 rfl
          clear x0 x2
          go_wp2_with (fail)
          by_cases hx1 : 0 ≤ x ∧ x ≤ r.wide + 1
          rotate_left
          · refine (sl1In_is _ _ _ _ false (inB_no (by omega))).mono ?_
            rintro e w' ⟨rfl, rfl⟩
            go_wp2
            go_roundw
            case rel => exact ⟨1 + 1, h, m, c, M, Q, by omega, by go_num, rfl, HM, HSA.out, HB.out.skip (fun b hb hf => absurd ((HPW.out b).1 hb) (fun hp => by have h1 := hp.1; have h2 := hp.2.1; have h3 := hp.2.2.1; have h4 := hp.2.2.2.1; omega)), hk, HQ.out⟩
            case measure => simp [intOf] <;> omega
          refine (sl1In_is _ _ _ _ true (inB_iff.2 (by omega))).mono ?_
          rintro e w' ⟨rfl, rfl⟩
          go_wp2_with (fail)
          by_cases hy1 : 0 ≤ y + 1 ∧ y + 1 ≤ r.tall + 1
          rotate_left
          · refine (sl1In_is _ _ _ _ false (inB_no (by omega))).mono ?_
            rintro e w' ⟨rfl, rfl⟩
            go_wp2
            go_roundw
            case rel => exact ⟨1 + 1, h, m, c, M, Q, by omega, by go_num, rfl, HM, HSA.out, HB.out.skip (fun b hb hf => absurd ((HPW.out b).1 hb) (fun hp => by have h1 := hp.1; have h2 := hp.2.1; have h3 := hp.2.2.1; have h4 := hp.2.2.2.1; omega)), hk, HQ.out⟩
            case measure => simp [intOf] <;> omega
          refine (sl1In_is _ _ _ _ true (inB_iff.2 (by omega))).mono ?_
          rintro e w' ⟨rfl, rfl⟩
          obtain ⟨b, hp, hcl, hcn, hn3, hmul, hk0⟩ := hole_place HV.out (x := x) (y := y + 1) hx1 hy1
          obtain ⟨u1, u2, u3⟩ := own_bool (HSA.out.own 1 rfl) (j := b) (by rw [HB.out.len]; exact hcl)
          have HP := Lib.hid hp
          have HCN := Lib.hid hcn
          rw [← hcn] at u1 u2
          cases hmet : M.getD ((y + 1) * (r.wide + 2) + (x)).toNat false
          rotate_left
          · rw [hmet] at u1
            have HMT := Lib.hid (hcn ▸ hmet)
            clear hp hcn hmet
            go_wp2
            go_roundw
            case rel => exact ⟨1 + 1, h, m, c, M, Q, by omega, by go_num, rfl, HM, HSA.out, HB.out.skip (fun b hb hf => by rw [((HPW.out _).1 hb).uniq HP.out]; exact HMT.out), hk, HQ.out⟩
            case measure => simp [intOf] <;> omega
          rw [hmet] at u1
          have HMT := Lib.hid (hcn ▸ hmet)
          clear hp hcn hmet
          obtain ⟨x0, x1, x2⟩ := HSA.out.c3 0 rfl
          go_wp2_with (fail)
          cases hat : r.at_ (x - 1) (y + 1 - 1)
          rotate_left
          · have HATT := Lib.hid (fun (p q : Int) (e1 : p = x - 1) (e2 : q = y + 1 - 1) => (show r.at_ p q = true by rw [e1, e2]; exact hat))
            refine (sl1At_is _ r _ _ _ (RV.out _ (hXB.out _ HSA.out)) HV.out (by omega) (by omega) true (HATT.out _ _ (by omega) (by omega))).mono ?_
            rintro e w3 ⟨rfl, hb3⟩
            have HS3 := Lib.hid (HSA.out.below hb3)
            have HA := Lib.hid hat
            clear hb3 hat u1 u2 u3 x0 x1 x2
            go_wp2
            go_roundw
            case rel => exact ⟨1 + 1, h, m, c, M, Q, by omega, by go_num, rfl, HM, HS3.out, HB.out.skip (fun b hb hf => absurd hf (by rw [((HPW.out _).1 hb).fr (by omega) (by omega), HA.out]; decide)), hk, HQ.out⟩
            case measure => simp [intOf] <;> omega
          have HATT := Lib.hid (fun (p q : Int) (e1 : p = x - 1) (e2 : q = y + 1 - 1) => (show r.at_ p q = false by rw [e1, e2]; exact hat))
          refine (sl1At_is _ r _ _ _ (RV.out _ (hXB.out _ HSA.out)) HV.out (by omega) (by omega) false (HATT.out _ _ (by omega) (by omega))).mono ?_
          rintro e w3 ⟨rfl, hb3⟩
          have HS3 := Lib.hid (HSA.out.below hb3)
          have HA := Lib.hid hat
          clear hb3 hat u1 u2 u3 x0 x1 x2
          have HF := Lib.hid (show r.fr b = true by rw [HP.out.fr (by omega) (by omega), HA.out]; rfl)
          obtain ⟨u1, u2, u3⟩ := own_bool (HS3.out.own 1 rfl) (j := b) (by rw [HB.out.len]; exact hcl)
          rw [← HCN.out] at u1 u2
          have HS4 := Lib.hid (HS3.out.set 1 rfl ((y + 1) * (r.wide + 2) + (x)).toNat (.bool true))
          have HIB : Hid (((y + 1) * (r.wide + 2) + (x) : Int) = (b : Int)) := Lib.hid HP.out.2.2.2.2.symm
          have HBP := Lib.hid (HB.out.put (by omega) (by omega) hk (by omega) ((HPW.out b).2 HP.out) HF.out HMT.out)
          have HGK : Hid ((Q ++ [b]).getD k 0 = q0) := Lib.hid (by rw [← HQ.out]; simp [List.getD_eq_getElem?_getD, List.getElem?_append_left hk])
          have hm64 : m ≤ 64 := by rw [HM.out]; exact hq64
          go_wp2_with (at_builtin; refine list_app elem_ints 0 (.slice (some ⟨h, 0, none⟩) m c) ((nvq Q).map (Value.int .i64)) ?_ w3.heap.size (.int .i64 ((y + 1) * (r.wide + 2) + (x))) (.tmp 96) (.tmp 102) rfl rfl rfl rfl ?_ rfl ?_ (Nat.zero_le _) ?_; exact Own.alloc (HS4.out.own 2 rfl) _; (have hz := heap_alloc_new (w3.setCell ⟨g, ((y + 1) * (r.wide + 2) + (x)).toNat, none⟩ (.bool true)) (.cells #[.int .i64 ((y + 1) * (r.wide + 2) + (x))] 3); simpa using hz); (rw [List.length_map, nvq_len, ← HM.out]; omega); intro g2 c2 w5 A5; (have S5 := Lib.hid (ouS_app (HS4.out.alloc _) A5 HM.out HIB.out HCN.out)); clear A5 HS3 HS4; rw [List.length_map, nvq_len, ← HM.out])
          go_roundw
          case rel => exact ⟨1 + 1, g2, m + 1, c2, _, Q ++ [b], by omega, by go_num, rfl, Lib.hid (by rw [List.length_append, ← HM.out]; rfl), S5.out, HBP.out, by rw [List.length_append]; omega, HGK.out⟩
          case measure => simp [intOf] <;> omega
        · have HPW : Hid (∀ b, plc r ((Q.getD k 0 : Nat) % (r.wide + 2) + dX (((2 : Nat) : Int) + 1)) ((Q.getD k 0 : Nat) / (r.wide + 2) + dY (((2 : Nat) : Int) + 1)) b ↔ plc r (x + -1) (y) b) := Lib.hid fun b => by
            rw [HQ.out, HX.out, HY.out]
            show plc r (x + (-1)) (y + (0)) b ↔ _
            rw [show x + (-1) = x + -1 by omega, show y + (0) = y by omega]
          have HSA := Lib.hid ((HS.out.alloc (.cells #[.int .i64 0, .int .i64 1, .int .i64 0, .int .i64 (-1), .int .i64 0] 3)).alloc (.cells #[.int .i64 0, .int .i64 0, .int .i64 1, .int .i64 0, .int .i64 (-1)] 3))
          obtain ⟨x0, x1, x2⟩ := HSA.out.c3 0 rfl
          clear x0 x2
          go_wp2_with (fail)
          by_cases hx1 : 0 ≤ x + -1 ∧ x + -1 ≤ r.wide + 1
          rotate_left
          · refine (sl1In_is _ _ _ _ false (inB_no (by omega))).mono ?_
            rintro e w' ⟨rfl, rfl⟩
            go_wp2
            go_roundw
            case rel => exact ⟨2 + 1, h, m, c, M, Q, by omega, by go_num, rfl, HM, HSA.out, HB.out.skip (fun b hb hf => absurd ((HPW.out b).1 hb) (fun hp => by have h1 := hp.1; have h2 := hp.2.1; have h3 := hp.2.2.1; have h4 := hp.2.2.2.1; omega)), hk, HQ.out⟩
            case measure => simp [intOf] <;> omega
          refine (sl1In_is _ _ _ _ true (inB_iff.2 (by omega))).mono ?_
          rintro e w' ⟨rfl, rfl⟩
          go_wp2_with (fail)
          by_cases hy1 : 0 ≤ y ∧ y ≤ r.tall + 1
          rotate_left
          · refine (sl1In_is _ _ _ _ false (inB_no (by omega))).mono ?_
            rintro e w' ⟨rfl, rfl⟩
            go_wp2
            go_roundw
            case rel => exact ⟨2 + 1, h, m, c, M, Q, by omega, by go_num, rfl, HM, HSA.out, HB.out.skip (fun b hb hf => absurd ((HPW.out b).1 hb) (fun hp => by have h1 := hp.1; have h2 := hp.2.1; have h3 := hp.2.2.1; have h4 := hp.2.2.2.1; omega)), hk, HQ.out⟩
            case measure => simp [intOf] <;> omega
          refine (sl1In_is _ _ _ _ true (inB_iff.2 (by omega))).mono ?_
          rintro e w' ⟨rfl, rfl⟩
          obtain ⟨b, hp, hcl, hcn, hn3, hmul, hk0⟩ := hole_place HV.out (x := x + -1) (y := y) hx1 hy1
          obtain ⟨u1, u2, u3⟩ := own_bool (HSA.out.own 1 rfl) (j := b) (by rw [HB.out.len]; exact hcl)
          have HP := Lib.hid hp
          have HCN := Lib.hid hcn
          rw [← hcn] at u1 u2
          cases hmet : M.getD ((y) * (r.wide + 2) + (x + -1)).toNat false
          rotate_left
          · rw [hmet] at u1
            have HMT := Lib.hid (hcn ▸ hmet)
            clear hp hcn hmet
            go_wp2
            go_roundw
            case rel => exact ⟨2 + 1, h, m, c, M, Q, by omega, by go_num, rfl, HM, HSA.out, HB.out.skip (fun b hb hf => by rw [((HPW.out _).1 hb).uniq HP.out]; exact HMT.out), hk, HQ.out⟩
            case measure => simp [intOf] <;> omega
          rw [hmet] at u1
          have HMT := Lib.hid (hcn ▸ hmet)
          clear hp hcn hmet
          obtain ⟨x0, x1, x2⟩ := HSA.out.c3 0 rfl
          go_wp2_with (fail)
          cases hat : r.at_ (x + -1 - 1) (y - 1)
          rotate_left
          · have HATT := Lib.hid (fun (p q : Int) (e1 : p = x + -1 - 1) (e2 : q = y - 1) => (show r.at_ p q = true by rw [e1, e2]; exact hat))
            refine (sl1At_is _ r _ _ _ (RV.out _ (hXB.out _ HSA.out)) HV.out (by omega) (by omega) true (HATT.out _ _ (by omega) (by omega))).mono ?_
            rintro e w3 ⟨rfl, hb3⟩
            have HS3 := Lib.hid (HSA.out.below hb3)
            have HA := Lib.hid hat
            clear hb3 hat u1 u2 u3 x0 x1 x2
            go_wp2
            go_roundw
            case rel => exact ⟨2 + 1, h, m, c, M, Q, by omega, by go_num, rfl, HM, HS3.out, HB.out.skip (fun b hb hf => absurd hf (by rw [((HPW.out _).1 hb).fr (by omega) (by omega), HA.out]; decide)), hk, HQ.out⟩
            case measure => simp [intOf] <;> omega
          have HATT := Lib.hid (fun (p q : Int) (e1 : p = x + -1 - 1) (e2 : q = y - 1) => (show r.at_ p q = false by rw [e1, e2]; exact hat))
          refine (sl1At_is _ r _ _ _ (RV.out _ (hXB.out _ HSA.out)) HV.out (by omega) (by omega) false (HATT.out _ _ (by omega) (by omega))).mono ?_
          rintro e w3 ⟨rfl, hb3⟩
          have HS3 := Lib.hid (HSA.out.below hb3)
          have HA := Lib.hid hat
          clear hb3 hat u1 u2 u3 x0 x1 x2
          have HF := Lib.hid (show r.fr b = true by rw [HP.out.fr (by omega) (by omega), HA.out]; rfl)
          obtain ⟨u1, u2, u3⟩ := own_bool (HS3.out.own 1 rfl) (j := b) (by rw [HB.out.len]; exact hcl)
          rw [← HCN.out] at u1 u2
          have HS4 := Lib.hid (HS3.out.set 1 rfl ((y) * (r.wide + 2) + (x + -1)).toNat (.bool true))
          have HIB : Hid (((y) * (r.wide + 2) + (x + -1) : Int) = (b : Int)) := Lib.hid HP.out.2.2.2.2.symm
          have HBP := Lib.hid (HB.out.put (by omega) (by omega) hk (by omega) ((HPW.out b).2 HP.out) HF.out HMT.out)
          have HGK : Hid ((Q ++ [b]).getD k 0 = q0) := Lib.hid (by rw [← HQ.out]; simp [List.getD_eq_getElem?_getD, List.getElem?_append_left hk])
          have hm64 : m ≤ 64 := by rw [HM.out]; exact hq64
          go_wp2_with (at_builtin; refine list_app elem_ints 0 (.slice (some ⟨h, 0, none⟩) m c) ((nvq Q).map (Value.int .i64)) ?_ w3.heap.size (.int .i64 ((y) * (r.wide + 2) + (x + -1))) (.tmp 96) (.tmp 102) rfl rfl rfl rfl ?_ rfl ?_ (Nat.zero_le _) ?_; exact Own.alloc (HS4.out.own 2 rfl) _; (have hz := heap_alloc_new (w3.setCell ⟨g, ((y) * (r.wide + 2) + (x + -1)).toNat, none⟩ (.bool true)) (.cells #[.int .i64 ((y) * (r.wide + 2) + (x + -1))] 3); simpa using hz); (rw [List.length_map, nvq_len, ← HM.out]; omega); intro g2 c2 w5 A5; (have S5 := Lib.hid (ouS_app (HS4.out.alloc _) A5 HM.out HIB.out HCN.out)); clear A5 HS3 HS4; rw [List.length_map, nvq_len, ← HM.out])
          go_roundw
          case rel => exact ⟨2 + 1, g2, m + 1, c2, _, Q ++ [b], by omega, by go_num, rfl, Lib.hid (by rw [List.length_append, ← HM.out]; rfl), S5.out, HBP.out, by rw [List.length_append]; omega, HGK.out⟩
          case measure => simp [intOf] <;> omega
        · have HPW : Hid (∀ b, plc r ((Q.getD k 0 : Nat) % (r.wide + 2) + dX (((3 : Nat) : Int) + 1)) ((Q.getD k 0 : Nat) / (r.wide + 2) + dY (((3 : Nat) : Int) + 1)) b ↔ plc r (x) (y + -1) b) := Lib.hid fun b => by
            rw [HQ.out, HX.out, HY.out]
            show plc r (x + (0)) (y + (-1)) b ↔ _
            rw [show x + (0) = x by omega, show y + (-1) = y + -1 by omega]
          have HSA := Lib.hid ((HS.out.alloc (.cells #[.int .i64 0, .int .i64 1, .int .i64 0, .int .i64 (-1), .int .i64 0] 3)).alloc (.cells #[.int .i64 0, .int .i64 0, .int .i64 1, .int .i64 0, .int .i64 (-1)] 3))
          obtain ⟨x0, x1, x2⟩ := HSA.out.c3 0 rfl
          clear x0 x2
          go_wp2_with (fail)
          by_cases hx1 : 0 ≤ x ∧ x ≤ r.wide + 1
          rotate_left
          · refine (sl1In_is _ _ _ _ false (inB_no (by omega))).mono ?_
            rintro e w' ⟨rfl, rfl⟩
            go_wp2
            go_roundw
            case rel => exact ⟨3 + 1, h, m, c, M, Q, by omega, by go_num, rfl, HM, HSA.out, HB.out.skip (fun b hb hf => absurd ((HPW.out b).1 hb) (fun hp => by have h1 := hp.1; have h2 := hp.2.1; have h3 := hp.2.2.1; have h4 := hp.2.2.2.1; omega)), hk, HQ.out⟩
            case measure => simp [intOf] <;> omega
          refine (sl1In_is _ _ _ _ true (inB_iff.2 (by omega))).mono ?_
          rintro e w' ⟨rfl, rfl⟩
          go_wp2_with (fail)
          by_cases hy1 : 0 ≤ y + -1 ∧ y + -1 ≤ r.tall + 1
          rotate_left
          · refine (sl1In_is _ _ _ _ false (inB_no (by omega))).mono ?_
            rintro e w' ⟨rfl, rfl⟩
            go_wp2
            go_roundw
            case rel => exact ⟨3 + 1, h, m, c, M, Q, by omega, by go_num, rfl, HM, HSA.out, HB.out.skip (fun b hb hf => absurd ((HPW.out b).1 hb) (fun hp => by have h1 := hp.1; have h2 := hp.2.1; have h3 := hp.2.2.1; have h4 := hp.2.2.2.1; omega)), hk, HQ.out⟩
            case measure => simp [intOf] <;> omega
          refine (sl1In_is _ _ _ _ true (inB_iff.2 (by omega))).mono ?_
          rintro e w' ⟨rfl, rfl⟩
          obtain ⟨b, hp, hcl, hcn, hn3, hmul, hk0⟩ := hole_place HV.out (x := x) (y := y + -1) hx1 hy1
          obtain ⟨u1, u2, u3⟩ := own_bool (HSA.out.own 1 rfl) (j := b) (by rw [HB.out.len]; exact hcl)
          have HP := Lib.hid hp
          have HCN := Lib.hid hcn
          rw [← hcn] at u1 u2
          cases hmet : M.getD ((y + -1) * (r.wide + 2) + (x)).toNat false
          rotate_left
          · rw [hmet] at u1
            have HMT := Lib.hid (hcn ▸ hmet)
            clear hp hcn hmet
            go_wp2
            go_roundw
            case rel => exact ⟨3 + 1, h, m, c, M, Q, by omega, by go_num, rfl, HM, HSA.out, HB.out.skip (fun b hb hf => by rw [((HPW.out _).1 hb).uniq HP.out]; exact HMT.out), hk, HQ.out⟩
            case measure => simp [intOf] <;> omega
          rw [hmet] at u1
          have HMT := Lib.hid (hcn ▸ hmet)
          clear hp hcn hmet
          obtain ⟨x0, x1, x2⟩ := HSA.out.c3 0 rfl
          go_wp2_with (fail)
          cases hat : r.at_ (x - 1) (y + -1 - 1)
          rotate_left
          · have HATT := Lib.hid (fun (p q : Int) (e1 : p = x - 1) (e2 : q = y + -1 - 1) => (show r.at_ p q = true by rw [e1, e2]; exact hat))
            refine (sl1At_is _ r _ _ _ (RV.out _ (hXB.out _ HSA.out)) HV.out (by omega) (by omega) true (HATT.out _ _ (by omega) (by omega))).mono ?_
            rintro e w3 ⟨rfl, hb3⟩
            have HS3 := Lib.hid (HSA.out.below hb3)
            have HA := Lib.hid hat
            clear hb3 hat u1 u2 u3 x0 x1 x2
            go_wp2
            go_roundw
            case rel => exact ⟨3 + 1, h, m, c, M, Q, by omega, by go_num, rfl, HM, HS3.out, HB.out.skip (fun b hb hf => absurd hf (by rw [((HPW.out _).1 hb).fr (by omega) (by omega), HA.out]; decide)), hk, HQ.out⟩
            case measure => simp [intOf] <;> omega
          have HATT := Lib.hid (fun (p q : Int) (e1 : p = x - 1) (e2 : q = y + -1 - 1) => (show r.at_ p q = false by rw [e1, e2]; exact hat))
          refine (sl1At_is _ r _ _ _ (RV.out _ (hXB.out _ HSA.out)) HV.out (by omega) (by omega) false (HATT.out _ _ (by omega) (by omega))).mono ?_
          rintro e w3 ⟨rfl, hb3⟩
          have HS3 := Lib.hid (HSA.out.below hb3)
          have HA := Lib.hid hat
          clear hb3 hat u1 u2 u3 x0 x1 x2
          have HF := Lib.hid (show r.fr b = true by rw [HP.out.fr (by omega) (by omega), HA.out]; rfl)
          obtain ⟨u1, u2, u3⟩ := own_bool (HS3.out.own 1 rfl) (j := b) (by rw [HB.out.len]; exact hcl)
          rw [← HCN.out] at u1 u2
          have HS4 := Lib.hid (HS3.out.set 1 rfl ((y + -1) * (r.wide + 2) + (x)).toNat (.bool true))
          have HIB : Hid (((y + -1) * (r.wide + 2) + (x) : Int) = (b : Int)) := Lib.hid HP.out.2.2.2.2.symm
          have HBP := Lib.hid (HB.out.put (by omega) (by omega) hk (by omega) ((HPW.out b).2 HP.out) HF.out HMT.out)
          have HGK : Hid ((Q ++ [b]).getD k 0 = q0) := Lib.hid (by rw [← HQ.out]; simp [List.getD_eq_getElem?_getD, List.getElem?_append_left hk])
          have hm64 : m ≤ 64 := by rw [HM.out]; exact hq64
          go_wp2_with (at_builtin; refine list_app elem_ints 0 (.slice (some ⟨h, 0, none⟩) m c) ((nvq Q).map (Value.int .i64)) ?_ w3.heap.size (.int .i64 ((y + -1) * (r.wide + 2) + (x))) (.tmp 96) (.tmp 102) rfl rfl rfl rfl ?_ rfl ?_ (Nat.zero_le _) ?_; exact Own.alloc (HS4.out.own 2 rfl) _; (have hz := heap_alloc_new (w3.setCell ⟨g, ((y + -1) * (r.wide + 2) + (x)).toNat, none⟩ (.bool true)) (.cells #[.int .i64 ((y + -1) * (r.wide + 2) + (x))] 3); simpa using hz); (rw [List.length_map, nvq_len, ← HM.out]; omega); intro g2 c2 w5 A5; (have S5 := Lib.hid (ouS_app (HS4.out.alloc _) A5 HM.out HIB.out HCN.out)); clear A5 HS3 HS4; rw [List.length_map, nvq_len, ← HM.out])
          go_roundw
          case rel => exact ⟨3 + 1, g2, m + 1, c2, _, Q ++ [b], by omega, by go_num, rfl, Lib.hid (by rw [List.length_append, ← HM.out]; rfl), S5.out, HBP.out, by rw [List.length_append]; omega, HGK.out⟩
          case measure => simp [intOf] <;> omega
        · have HBN := Lib.hid (HB.out.next (by omega) (by omega) hk)
          go_wp2
          go_roundw
          case rel => exact ⟨k + 1, h, m, c, M, Q, by omega, by go_num, rfl, HM, HS.out, HBN.out⟩
          case measure => simp [intOf] <;> omega
    · have e : k = Q.length := by omega
      subst e
      have hmet := HB1.out.met
      have hc1 := HB1.out.count (zero_fr (r := r) (by omega) (by omega))
      have hc2 := met_count HV.out hmet
      rw [HB.out] at hc2
      rw [← hc1] at hc2
      have HC2 := Lib.hid hc2
      have hp1 := cnt_le r.cells
      have HM2 : Hid ((Q.length : Int) = (m : Int)) := Lib.hid (by have := HM.out; omega)
      rw [HM2.out] at HC2
      clear hmet hc1 hc2
      obtain ⟨x0, x1, x2⟩ := HS1.out.c3 0 rfl
      have BW := Lib.hid (hXB.out _ HS1.out)
      have hmm : ¬ ((Q.length : Int) < (m : Int)) := by have := HM.out; omega
      go_wp2_with (fail)
      refine (l1Count_any _ r.cells _ (HS.out.below BW.out)).mono ?_
      rintro e w5 ⟨rfl, rfl⟩
      have BW5 := BW
      clear x0 x1 x2
      generalize cnt r.cells = p at *
      by_cases he : (m : Int) = (r.n2 : Int) - p
      · have heq : ((m : Int) == (r.n2 : Int) - p) = true := by simpa using he
        have E : Hid (b = true) := Lib.hid (by rw [← HC2.out]; exact decide_eq_true he)
        clear he HC2 HM2
        go_wp2
        go_ret
        exact ⟨ret_bool (by first | exact E.out.symm | (rw [E.out]; exact heq)), BW5.out⟩
      · have heq : ((m : Int) == (r.n2 : Int) - p) = false := by simpa using he
        have E : Hid (b = false) := Lib.hid (by rw [← HC2.out]; exact decide_eq_false he)
        clear he HC2 HM2
        go_wp2
        go_ret
        exact ⟨ret_bool (by first | exact E.out.symm | (rw [E.out]; exact heq)), BW5.out⟩
end Go.Proofs.Ytdggcfpkbmdllaa
