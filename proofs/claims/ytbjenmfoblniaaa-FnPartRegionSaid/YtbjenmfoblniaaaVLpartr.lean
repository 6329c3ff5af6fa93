/- The law FnPartRegion: its walk. -/
import Derived.Test.YtbjenmfoblniaaaVDrawPr
import Derived.Test.YtbjenmfoblniaaaVWpartR
import Derived.Test.YtbjenmfoblniaaaZe
import Derived.Test.YtbjenmfoblniaaaVWe
import Derived.Test.YtbjenmfoblniaaaVLil
set_option linter.unusedVariables false
namespace Go.Proofs.Ytbjenmfoblniaaa
open Go.RowKit Domi

theorem ppr_q (v : Value) (r : Reg) (p : Int) (w : World) (h : RegV w v r) (q : Reg × Bool) (hq : partReg r p = q) : Calls Try.prog 40 #[v, .int .i64 p] w (RetRB q w) := by rw [← hq]; exact PartRegion_any v r p w h
theorem sppr_q (v : Value) (r : Reg) (p : Int) (w : World) (h : RegV w v r) (q : Reg × Bool) (hq : partReg r p = q) : Calls Try.prog 41 #[v, .int .i64 p] w (RetRB q w) := by rw [← hq]; exact sPartRegion_any v r p w h
theorem same7_is (v u : Value) (r q : Reg) (c : Bool) (w : World) (h : RegV w v r) (g : RegV w u q) (hc : decide (r = q) = c) :
    Calls Try.prog 42 #[v, u] w (Ret (.bool c) w) := by rw [← hc]; exact sameRegion_any v u r q w h g
theorem pmany7_is (v : Value) (r : Reg) (w : World) (h : RegV w v r) (n : Int) (hn : r.pmany = n) : Calls Try.prog 44 #[v] w (Ret (.int .i64 n) w) := by rw [← hn]; exact PartsMany_any v r w h
theorem cells7_is (v : Value) (r : Reg) (w : World) (h : RegV w v r) (n : Int) (hn : r.many = n) : Calls Try.prog 43 #[v] w (Ret (.int .i64 n) w) := by rw [← hn]; exact CellsMany_any v r w h
set_option maxRecDepth 100000 in
set_option maxHeartbeats 4000000 in
theorem FnPartRegion_walk (v : Value) (ys : List Int) (w : World) (h : Yl w v ys) (hr : ∀ i, i < ys.length → 0 ≤ ys.getD i 0 ∧ ys.getD i 0 ≤ 255) :
    Calls Try.prog 8 #[v] w (Ret (.bool true) w) := by
  have H := Lib.hid h
  have Hr := Lib.hid hr
  obtain ⟨a0, cap0, rfl, hlc0, hcm0, _⟩ := h.opened
  clear h hr
  by_cases hlen : (1048576 : Int) < (ys.length : Int)
  · go_enter Try.func8, Try.ntmps8
    go_wp2
    go_ret
    exact ⟨rfl, Below.refl _ _⟩
  go_enter Try.func8, Try.ntmps8
  go_wp2_with (fail)
  refine (DrawPartRegion_any _ ys w H.out Hr.out).mono ?_
  rintro e w1 ⟨s1, r, c, rfl, hs1, hsm, hb1⟩
  obtain ⟨a1, cap1, rfl, hlc1, hcm1, _⟩ := hs1.opened
  have R := RB.new hs1
  obtain ⟨W, hW⟩ : ∃ W, W = w1.alloc (.cells #[.int .i64 r.wide, .int .i64 r.tall, .slice a1 r.cells.length cap1] 29) := ⟨_, rfl⟩
  rw [← hW] at R
  have R := Lib.hid R
  have BW := Lib.hid (show Below w.heap.size w W by rw [hW]; exact hb1.alloc hb1.size _)
  have hX : w1.heap.size < W.heap.size := by rw [hW]; simp
  have hl37 : r.cells.length ≤ 37 := hsm.2.2.2.2
  clear hs1 hb1
  go_wp2_with (fail)
  rw [← hW]
  clear hW
  generalize w1.heap.size = X at *
  clear hX
  obtain ⟨⟨x, b⟩, hq⟩ : ∃ q, partReg r c = q := ⟨_, rfl⟩
  have HI := Lib.hid (fun (v : Value) (w : World) (h : RegV w v r) => ppr_q v r c w h (x, b) hq)
  have HS := Lib.hid (fun (v : Value) (w : World) (h : RegV w v r) => sppr_q v r c w h (x, b) hq)
  have HQ := Lib.hid hq
  have hbb : (b != b) = false := by simp
  clear hq
  obtain ⟨x0, x1, x2⟩ := R.out.c3
  go_wp2_with (fail)
  refine (HI.out _ _ R.out.v).mono ?_
  rintro e w2 ⟨v2, rfl, hv2, hb⟩
  obtain ⟨a2, cap2, rfl, hs2, _, _⟩ := hv2.opened
  have BW := Lib.hid (BW.out.trans (hb.mono BW.out.size))
  have R := Lib.hid (R.out.on hb)
  clear hv2 hb x0 x1 x2
  obtain ⟨x0, x1, x2⟩ := R.out.c3
  have sX := R.out.lt
  go_wp2_with (fail)
  clear x0 x1 x2 sX
  obtain ⟨W2, hW2⟩ : ∃ W, W = w2.alloc (.cells #[.int .i64 x.wide, .int .i64 x.tall, .slice a2 x.cells.length cap2] 29) := ⟨_, rfl⟩
  have RX := RB.new hs2
  have hbW := below_alloc w2 (.cells #[.int .i64 x.wide, .int .i64 x.tall, .slice a2 x.cells.length cap2] 29)
  rw [← hW2] at RX hbW ⊢
  have RX := Lib.hid RX
  have R := Lib.hid (R.out.on hbW)
  have BW := Lib.hid (BW.out.trans (hbW.mono BW.out.size))
  clear hs2 hbW hW2
  refine (HS.out _ _ R.out.v).mono ?_
  rintro e w3 ⟨v3, rfl, hv3, hb⟩
  obtain ⟨a3, cap3, rfl, hs3, _, _⟩ := hv3.opened
  have BW := Lib.hid (BW.out.trans (hb.mono BW.out.size))
  have R := Lib.hid (R.out.on hb)
  have RX := Lib.hid (RX.out.on hb)
  clear hv3 hb HI HS
  obtain ⟨x0, x1, x2⟩ := RX.out.c3
  have sX := RX.out.lt
  go_wp2_with (fail)
  clear x0 x1 x2 sX
  obtain ⟨W3, hW3⟩ : ∃ W, W = w3.alloc (.cells #[.int .i64 x.wide, .int .i64 x.tall, .slice a3 x.cells.length cap3] 29) := ⟨_, rfl⟩
  have RY := RB.new hs3
  have hbW := below_alloc w3 (.cells #[.int .i64 x.wide, .int .i64 x.tall, .slice a3 x.cells.length cap3] 29)
  rw [← hW3] at RY hbW ⊢
  have RY := Lib.hid RY
  have R := Lib.hid (R.out.on hbW)
  have RX := Lib.hid (RX.out.on hbW)
  have BW := Lib.hid (BW.out.trans (hbW.mono BW.out.size))
  clear hs3 hbW hW3
  refine (same7_is _ _ x x true _ RX.out.v RY.out.v (by simp)).mono ?_
  rintro e w4 ⟨rfl, hb⟩
  have BW := Lib.hid (BW.out.trans (hb.mono BW.out.size))
  have R := Lib.hid (R.out.on hb)
  have RX := Lib.hid (RX.out.on hb)
  clear hb RY
  cases b
  · have hz : (x.wide == 0) = true := by
      have := partReg_zero (r := r) (p := c) (by rw [HQ.out])
      rw [HQ.out] at this
      simpa using this
    obtain ⟨x0, x1, x2⟩ := RX.out.c3
    go_wp2_with (fail)
    refine (alive_any _).mono ?_
    rintro e w7 ⟨rfl, hb⟩
    have BW := Lib.hid (BW.out.trans (hb.mono BW.out.size))
    clear hb x0 x1 x2
    go_wp2
    go_ret
    exact ⟨rfl, BW.out⟩
  · have hv := partReg_valid (r := r) (p := c) (by rw [HQ.out])
    have hp1 := partReg_pmany (r := r) (p := c) (by rw [HQ.out])
    rw [HQ.out] at hp1
    have HP := Lib.hid hp1
    have HV := Lib.hid hv
    have HBY : Hid (∀ (k : Nat) z, partReg r k = (z, true) → belowN r (k + 1) = belowN r k + z.many) := Lib.hid fun k z h => belowN_yes hv h
    have HBN : Hid (∀ (k : Nat) z, partReg r k = (z, false) → belowN r (k + 1) = belowN r k) := Lib.hid fun k z h => belowN_no hv h
    have HBL : Hid (∀ k, 0 ≤ belowN r k ∧ belowN r k ≤ r.cells.length) := Lib.hid fun k => belowN_le r k
    have HMN : Hid (r.many = belowN r r.cells.length) := Lib.hid (by rw [Reg.many_yes hv, belowN_all])
    have HZ : Hid (belowN r 0 = 0) := Lib.hid (belowN_zero r)
    clear hp1 hv
    go_wp2_with (fail)
    go_loopw [9, 10] (fun s i wr => ∃ k : Nat, k ≤ r.cells.length ∧ i = .int .i64 k ∧ s = .int .i64 (belowN r k) ∧ Below w4.heap.size w4 wr) (fun _ i _ => r.cells.length - (intOf i).toNat)
    case atStart => exact ⟨0, Nat.zero_le _, rfl, by rw [HZ.out], Below.refl _ _⟩
    case round =>
      obtain ⟨k, hk, rfl, rfl, hbw⟩ := hrel
      have HBW := Lib.hid hbw
      have R1 := Lib.hid (R.out.on hbw)
      have RX1 := Lib.hid (RX.out.on hbw)
      have BW1 := Lib.hid (BW.out.trans (hbw.mono BW.out.size))
      clear hbw
      obtain ⟨x0, x1, x2⟩ := R1.out.c3
      by_cases hlt : k < r.cells.length
      · have hlt' : (k : Int) < (r.cells.length : Int) := by omega
        obtain ⟨⟨z, d⟩, hzd⟩ : ∃ q, partReg r k = q := ⟨_, rfl⟩
        have b1 := HBL.out k
        have b2 := HBL.out (k + 1)
        go_wp2_with (fail)
        refine (ppr_q _ r k _ R1.out.v (z, d) hzd).mono ?_
        rintro e w5 ⟨v5, rfl, hv5, hb⟩
        obtain ⟨a5, cap5, rfl, hs5, _, _⟩ := hv5.opened
        have HB5 := Lib.hid (HBW.out.trans (hb.mono HBW.out.size))
        clear hb hv5 x0 x1 x2
        cases d
        · have hsum := HBN.out k z hzd
          go_wp2
          go_roundw
          case rel => exact ⟨k + 1, by omega, by go_num, by rw [hsum], HB5.out.trans ((below_alloc _ _).mono HB5.out.size)⟩
          case measure => simp [intOf]; omega
        · have hsum := HBY.out k z hzd
          have hbz := below_alloc w5 (.cells #[.int .i64 z.wide, .int .i64 z.tall, .slice a5 z.cells.length cap5] 29)
          have RZ := Lib.hid (RB.new hs5)
          have HBZ := Lib.hid hbz
          clear hbz hs5
          obtain ⟨n, hn⟩ : ∃ n, z.many = n := ⟨_, rfl⟩
          rw [hn] at hsum
          have HN := Lib.hid hn
          clear hn hzd
          go_wp2_with (fail)
          refine (cells7_is _ z _ RZ.out.v n HN.out).mono ?_
          rintro e w6 ⟨rfl, hb⟩
          have HB6 := Lib.hid (HB5.out.trans ((HBZ.out.trans (hb.mono HBZ.out.size)).mono HB5.out.size))
          have wadd : IntKind.i64.wrap (belowN r k + n) = belowN r k + n := IntWalk.i64_in _ (by omega)
          clear hb
          go_wp2
          go_roundw
          case rel => exact ⟨k + 1, by omega, by go_num, by rw [hsum], HB6.out⟩
          case measure => simp [intOf]; omega
      · have e : k = r.cells.length := by omega
        subst e
        obtain ⟨m, hm⟩ : ∃ m, belowN r r.cells.length = m := ⟨_, rfl⟩
        have HM : Hid (r.many = m) := Lib.hid (HMN.out.trans hm)
        rw [hm]
        have hmm : (m == m) = true := by simp
        clear hm x0 x1 x2
        obtain ⟨x0, x1, x2⟩ := RX1.out.c3
        obtain ⟨y0, y1, y2⟩ := R1.out.c3
        go_wp2_with (fail)
        refine (pmany7_is _ x _ RX1.out.v 1 HP.out).mono ?_
        rintro e w5 ⟨rfl, hb⟩
        have BW2 := Lib.hid (BW1.out.trans (hb.mono BW1.out.size))
        have R2 := Lib.hid (R1.out.on hb)
        clear hb x0 x1 x2 y0 y1 y2
        obtain ⟨y0, y1, y2⟩ := R2.out.c3
        go_wp2_with (fail)
        refine (cells7_is _ r _ R2.out.v m HM.out).mono ?_
        rintro e w6 ⟨rfl, hb⟩
        have BW3 := Lib.hid (BW2.out.trans (hb.mono BW2.out.size))
        clear hb y0 y1 y2
        go_wp2
        go_ret
        exact ⟨rfl, BW3.out⟩
end Go.Proofs.Ytbjenmfoblniaaa
