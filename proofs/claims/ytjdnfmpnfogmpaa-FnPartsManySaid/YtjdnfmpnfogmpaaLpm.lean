/- The law FnPartsMany: its walk. -/
import Derived.Test.YtjdnfmpnfogmpaaWpm
import Derived.Test.YtjdnfmpnfogmpaaPartR
import Derived.Test.YtjdnfmpnfogmpaaWset
import Derived.Test.YtjdnfmpnfogmpaaDrawD
set_option linter.unusedVariables false
set_option linter.unusedSimpArgs false
namespace Go.Proofs.Ytjdnfmpnfogmpaa
open Go.RowKit Domi

theorem PartsMany_is (v : Value) (r : Reg) (w : World) (h : RegV w v r) (n : Int) (hn : r.pmany = n) : Calls Try.prog 23 #[v] w (Ret (.int .i64 n) w) := by
  rw [← hn]; exact PartsMany_any v r w h
theorem sPartsMany_is (v : Value) (r : Reg) (w : World) (h : RegV w v r) (n : Int) (hn : r.pmany = n) : Calls Try.prog 25 #[v] w (Ret (.int .i64 n) w) := by
  rw [← hn]; exact sPartsMany_any v r w h
theorem RegionSet_is (v : Value) (r : Reg) (c : Int) (b : Bool) (w : World) (h : RegV w v r) (x : Reg) (o : Bool) (hx : setR r c b = (x, o)) : Calls Try.prog 26 #[v, .int .i64 c, .bool b] w (RetRB (x, o) w) := by
  rw [← hx]; exact RegionSet_any v r c b w h
theorem CellsMany_cnt (v : Value) (r : Reg) (w : World) (h : RegV w v r) (n : Int) (hn : r.many = n) : Calls Try.prog 20 #[v] w (Ret (.int .i64 n) w) := by rw [← hn]; exact CellsMany_any v r w h

set_option maxRecDepth 100000 in
set_option maxHeartbeats 2000000 in
theorem FnPartsMany_walk (v : Value) (ys : List Int) (w : World) (h : Yl w v ys) (hr : ∀ i, i < ys.length → 0 ≤ ys.getD i 0 ∧ ys.getD i 0 ≤ 255) :
    Calls Try.prog 5 #[v] w (Ret (.bool true) w) := by
  have H := Lib.hid h
  have Hr := Lib.hid hr
  obtain ⟨a0, cap0, rfl, hlc0, hcm0, _⟩ := h.opened
  clear h hr
  by_cases hlen : (1048576 : Int) < (ys.length : Int)
  · go_enter Try.func5, Try.ntmps5
    go_wp2
    go_ret
    exact ⟨rfl, Below.refl _ _⟩
  · go_enter Try.func5, Try.ntmps5
    go_wp2_with (fail)
    refine (DrawPartsMany_any _ ys w H.out Hr.out).mono ?_
    rintro e w1 ⟨v1, r, rfl, hv1, hsm, hb1⟩
    obtain ⟨p1, n1, rfl, hs, _, _⟩ := hv1.opened
    have BW := Lib.hid hb1
    obtain ⟨n, hn⟩ : ∃ n, r.pmany = n := ⟨_, rfl⟩
    have HN := Lib.hid hn
    clear hb1 hn hv1
    go_wp2_with (fail)
    obtain ⟨W1, hW1⟩ : ∃ W, W = w1.alloc (.cells #[.int .i64 r.wide, .int .i64 r.tall, .slice p1 r.cells.length n1] 25) := ⟨_, rfl⟩
    have RA := RB.new hs
    have hbW1 := below_alloc w1 (.cells #[.int .i64 r.wide, .int .i64 r.tall, .slice p1 r.cells.length n1] 25)
    rw [← hW1] at RA hbW1 ⊢
    have RA := Lib.hid RA
    have BW := Lib.hid (BW.out.trans (hbW1.mono BW.out.size))
    clear hbW1
    clear hs hW1
    refine (PartsMany_is _ r _ RA.out.v n HN.out).mono ?_
    rintro e w2 ⟨rfl, hb⟩
    have RA := Lib.hid (RA.out.on hb)
    have BW := Lib.hid (BW.out.trans (hb.mono BW.out.size))
    clear hb
    obtain ⟨ra0, ra1, ra2⟩ := RA.out.c3
    have ra3 := RA.out.lt
    go_wp2_with (fail)
    clear ra0 ra1 ra2 ra3
    refine (sPartsMany_is _ r _ RA.out.v n HN.out).mono ?_
    rintro e w3 ⟨rfl, hb⟩
    have RA := Lib.hid (RA.out.on hb)
    have BW := Lib.hid (BW.out.trans (hb.mono BW.out.size))
    clear hb
    have nb : -1 ≤ n ∧ n ≤ 37 := by have := pmany_bd r; have := hsm.2.2.2.2; have := HN.out; omega
    cases hv : r.valid
    · have h1 : n = -1 := by rw [← HN.out]; exact pmany_no hv
      subst h1
      clear nb
      go_wp2_with (fail)
      refine (alive_any _).mono ?_
      rintro e w7 ⟨rfl, hb⟩
      have BW := Lib.hid (BW.out.trans (hb.mono BW.out.size))
      clear hb
      go_wp2
      go_ret
      exact ⟨rfl, BW.out⟩
    have hn0 : 0 ≤ n := by have := HN.out; rw [pmany_yes hv] at this; have := (pmTo_bd r r.cells.length).1; omega
    have hl37 : r.cells.length ≤ 37 := hsm.2.2.2.2
    obtain ⟨q, hq⟩ : ∃ q, r.many = q := ⟨_, rfl⟩
    have HQ := Lib.hid hq
    have hnq : n ≤ q := by have := pmany_cells hv; rw [HN.out, hq] at this; exact this
    have qb : q ≤ 24 := by have := many_bd r; omega
    clear hq
    obtain ⟨ra0, ra1, ra2⟩ := RA.out.c3
    have ra3 := RA.out.lt
    go_wp2_with (fail)
    clear ra0 ra1 ra2 ra3
    go_loopw [5] (fun i wr => ∃ k : Nat, k ≤ r.cells.length ∧ i = .int .i64 k ∧ Below w3.heap.size w3 wr) (fun i _ => r.cells.length - (intOf i).toNat)
    case atStart => exact ⟨0, Nat.zero_le _, rfl, Below.refl _ _⟩
    case round =>
      obtain ⟨k, hk, rfl, hb⟩ := hrel
      have RA := Lib.hid (RA.out.on hb)
      have HB := Lib.hid hb
      clear hb
      obtain ⟨c0, c1, c2⟩ := RA.out.c3
      by_cases hlt : k < r.cells.length
      · obtain ⟨⟨x, o⟩, hx⟩ : ∃ p, setR r k true = p := ⟨_, rfl⟩
        have HX := Lib.hid hx
        obtain ⟨m, hm⟩ : ∃ m, x.pmany = m := ⟨_, rfl⟩
        have HM := Lib.hid hm
        have mb : -1 ≤ m ∧ m ≤ 1000 := by
          have h1 := pmany_bd x
          have h2 : x.cells.length ≤ r.cells.length := by
            rcases setR_cases r k true with ⟨e, _⟩ | e
            · rw [e] at hx; have : x = r.setc (k : Int).toNat true := by simpa using (congrArg Prod.fst hx).symm
              subst this; simp [Reg.setc]
            · rw [e] at hx; have : x = Reg.zero := by simpa using (congrArg Prod.fst hx).symm
              subst this; simp [Reg.zero]
          omega
        have hlaw : Hid (o = true → m ≤ n + 1 ∧ n - 3 ≤ m) := Lib.hid (fun ho => by
          subst ho
          have := pmany_law hv hx
          rw [hm, HN.out] at this
          exact this)
        clear hx hm
        go_wp2_with (fail)
        refine (RegionSet_is _ r k true _ RA.out.v x o HX.out).mono ?_
        rintro e w5 ⟨v, rfl, hv5, hb⟩
        obtain ⟨p5, n5, rfl, hbl, _, _⟩ := hv5.opened
        have HB := Lib.hid (HB.out.trans (hb.mono HB.out.size))
        have RX := Lib.hid (RB.new hbl)
        have hba := Lib.hid (below_alloc w5 (.cells #[.int .i64 x.wide, .int .i64 x.tall, .slice p5 x.cells.length n5] 25))
        clear hb hbl hv5 c0 c1 c2
        go_wp2_with (fail)
        refine (PartsMany_is _ x _ RX.out.v m HM.out).mono ?_
        rintro e w6 ⟨rfl, hb⟩
        have HB := Lib.hid (HB.out.trans (((hba.out).trans (hb.mono hba.out.size)).mono HB.out.size))
        clear hb hba
        cases o
        · go_wp2
          go_roundw
          case rel => exact ⟨k + 1, by omega, by go_num, HB.out⟩
          case measure => simp [intOf]; omega
        · obtain ⟨l1, l2⟩ := hlaw.out rfl
          go_wp2
          go_roundw
          case rel => exact ⟨k + 1, by omega, by go_num, HB.out⟩
          case measure => simp [intOf]; omega
      · have BW := Lib.hid (BW.out.trans (HB.out.mono BW.out.size))
        go_wp2_with (fail)
        refine (CellsMany_cnt _ r _ RA.out.v q HQ.out).mono ?_
        rintro e w7 ⟨rfl, hb⟩
        have BW := Lib.hid (BW.out.trans (hb.mono BW.out.size))
        clear hb c0 c1 c2
        go_wp2
        go_ret
        exact ⟨rfl, BW.out⟩

end Go.Proofs.Ytjdnfmpnfogmpaa
