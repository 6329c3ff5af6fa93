/- Walks: l2First, l2Complete, Complete, TilingFirst of the reference. -/
import Derived.Test.YtklifibiadiinaaDoorVWone
import Derived.Test.YtklifibiadiinaaDoorZc
set_option linter.unusedVariables false
namespace Go.Proofs.YtklifibiadiinaaDoor
open Go.RowKit Domi

theorem sLayOne_q2 (v u : Value) (r : Reg) (L : List Int) (c way : Int) (w : World) (h : RegV w v r) (hu : Il w u L) (q : List Int × Bool) (hq : layOne r L c way = q) :
    Calls Tryd.prog 48 #[v, u, .int .i64 c, .int .i64 way] w (RetLB q w) := by rw [← hq]; exact sLayOne_any v u r L c way w h hu
set_option maxHeartbeats 1000000 in
theorem l2First_any (v u : Value) (r : Reg) (L : List Int) (w : World) (h : RegV w v r) (hu : Il w u L) (hlen : L.length = r.cells.length) : Calls Tryd.prog 72 #[v, u] w (Ret (.int .i64 (firstI r L)) w) := by
  obtain ⟨s, rfl, hs⟩ := h
  have B0 := Lib.hid (below_alloc w (.cells #[.int .i64 r.wide, .int .i64 r.tall, s] 25))
  obtain ⟨a, cap, rfl, h1, h2, h3⟩ := (hs.below B0.out).opened
  obtain ⟨ua, uc, rfl, u1, u2, u3⟩ := (hu.below B0.out).opened
  have R0 := RB.new hs
  have HN := Lib.hid hlen
  clear hs hu hlen
  go_enter Tryd.func72, Tryd.ntmps72
  go_wp2_with (fail)
  obtain ⟨W, hW⟩ : ∃ W, W = w.alloc (.cells #[.int .i64 r.wide, .int .i64 r.tall, .slice a r.cells.length cap] 25) := ⟨_, rfl⟩
  rw [← hW] at B0 h3 u3 R0 ⊢
  have R0 := Lib.hid R0
  obtain ⟨x0, x1, x2⟩ := R0.out.c3
  have sX := R0.out.lt
  clear hW
  generalize w.heap.size = X at x0 x1 x2 sX R0 ⊢
  go_loop [5] (fun i => ∃ k : Nat, k ≤ L.length ∧ i = .int .i64 k ∧ ∀ j, j < k → openB r L j = false) (fun i => L.length - (intOf i).toNat)
  case atStart => exact ⟨0, Nat.zero_le _, rfl, fun _ h => by omega⟩
  case round =>
    obtain ⟨k, hk, rfl, hno⟩ := hrel
    have HD := Lib.hid hno
    clear hno
    by_cases hltL : k < L.length
    · have hlt : k < r.cells.length := by have := HN.out; omega
      rcases h3 with e | ⟨b, off, rfl, hb, hc⟩
      · rw [e] at hlt; simp at hlt
      rcases u3 with e | ⟨ub, uo, rfl, hub, huc⟩
      · rw [e] at hltL; simp at hltL
      have hck := hc k hlt
      have huk := huc k hltL
      obtain ⟨x, hx⟩ : ∃ x, L.getD k 0 = x := ⟨_, rfl⟩
      rw [hx] at huk
      have HX := Lib.hid hx
      clear hx hc huc
      cases hf : r.cells.getD k false
      · rw [hf] at hck
        have HD2 := Lib.hid (fun j (hj : j < k + 1) => show openB r L j = false by
          by_cases e : j = k
          · subst e; unfold openB; rw [show r.f j = false from hf]; rfl
          · exact HD.out j (by omega))
        clear hf
        go_wp2
        go_round
        case rel => exact ⟨k + 1, by omega, by go_num, HD2.out⟩
        case measure => simp [intOf]; omega
      · rw [hf] at hck
        have HF := Lib.hid (show r.f k = true from hf)
        clear hf
        by_cases hx0 : x = 0
        · subst hx0
          have HY := Lib.hid (show firstI r L = k by unfold firstI; rw [firstN_some hltL (openB_iff.2 ⟨HF.out, HX.out⟩) HD.out])
          go_wp2
          go_ret
          exact ⟨ret_int HY.out.symm, B0.out⟩
        · have hxe : (x == 0) = false := by simpa using hx0
          have HD2 := Lib.hid (fun j (hj : j < k + 1) => show openB r L j = false by
            by_cases e : j = k
            · subst e; unfold openB; rw [HX.out, decide_eq_false hx0, Bool.and_false]
            · exact HD.out j (by omega))
          go_wp2
          go_round
          case rel => exact ⟨k + 1, by omega, by go_num, HD2.out⟩
          case measure => simp [intOf]; omega
    · have e : k = L.length := by omega
      subst e
      have HY := Lib.hid (show firstI r L = -1 by unfold firstI; rw [firstN_none HD.out])
      clear h3 u3
      go_wp2
      go_ret
      exact ⟨ret_int HY.out.symm, B0.out⟩
/-- A list, of the call's own or of its caller's, and a mark. -/
def RetLC (B : Nat) (q : List Int × Bool) (w : World) (e : Ending) (w' : World) : Prop := ∃ v, e = .returned (.tuple #[v, .bool q.2]) ∧ Own w' B 3 v (q.1.map (Value.int .i64)) ∧ Below w.heap.size w w'
theorem retLC_is (B : Nat) (q : List Int × Bool) (x : List Int) (b : Bool) (h : q = (x, b)) {w w' : World} {v : Value} (ho : Own w' B 3 v (x.map (Value.int .i64))) (hb : Below w.heap.size w w') : RetLC B q w (.returned (.tuple #[v, .bool b])) w' := by
  subst h; exact ⟨v, rfl, ho, hb⟩
set_option maxRecDepth 100000 in
set_option maxHeartbeats 4000000 in
theorem l2Complete_n (r : Reg) : ∀ (n : Nat) (v u : Value) (L : List Int) (B : Nat) (w : World), RegV w v r → Own w B 3 u (L.map (Value.int .i64)) → B ≤ w.heap.size → laidOk r L = true → openN r L < n →
    Calls Tryd.prog 65 #[v, u] w (RetLC B (compl n r L) w) := by
  intro n
  induction n with
  | zero => intro v u L B w _ _ _ _ h; omega
  | succ n ih =>
    intro v u L B w h hu hB hk hn
    have IH := Lib.hid ih
    obtain ⟨a, cap, rfl, hs, hlc, hcm⟩ := h.opened
    have R0 := RB.new hs
    have B0 := below_alloc w (.cells #[.int .i64 r.wide, .int .i64 r.tall, .slice a r.cells.length cap] 25)
    have HU := Lib.hid (hu.below B0)
    obtain ⟨ua, uc, rfl⟩ := hu.formM
    have HK := Lib.hid hk
    have HO := Lib.hid hn
    have HL := Lib.hid (laidOk_iff.1 hk).2.1
    clear ih h hs hu hk hn
    go_enter Tryd.func65, Tryd.ntmps65
    go_wp2_with (fail)
    obtain ⟨W, hW⟩ : ∃ W, W = w.alloc (.cells #[.int .i64 r.wide, .int .i64 r.tall, .slice a r.cells.length cap] 25) := ⟨_, rfl⟩
    rw [← hW] at R0 B0 HU ⊢
    have R0 := Lib.hid R0
    have BW := Lib.hid B0
    clear hW B0
    have hBW : B ≤ W.heap.size := Nat.le_trans hB BW.out.size
    generalize hX : w.heap.size = X at R0 hB ⊢
    refine (l2First_any _ _ r L _ R0.out.v (own_il HU.out) HL.out).mono ?_
    rintro e w1 ⟨rfl, hb⟩
    have R1 := Lib.hid (R0.out.on hb)
    have B1 := Lib.hid (BW.out.trans (hb.mono BW.out.size))
    have U1 := Lib.hid (HU.out.below hb)
    have hBW1 : B ≤ w1.heap.size := Nat.le_trans hBW hb.size
    clear hb R0 HU BW
    obtain ⟨x, hx⟩ : ∃ x, firstI r L = x := ⟨_, rfl⟩
    rw [hx]
    cases hf : firstN r L with
    | none =>
      have hneg : x = -1 := by rw [← hx]; unfold firstI; rw [hf]
      subst hneg
      have HC := Lib.hid (compl_done (n := n) hf)
      clear hf hx
      go_wp2
      go_ret2
      exact retLC_is B _ _ _ HC.out U1.out (by rw [← hX] at *; exact B1.out)
    | some k =>
      have hxk : x = (k : Int) := by rw [← hx]; unfold firstI; rw [hf]
      subst hxk
      have HF := Lib.hid hf
      clear hf hx
      go_wp2_with (fail)
      go_loopw [7] (fun i wr => ∃ m : Nat, 1 ≤ m ∧ m ≤ 3 ∧ i = .int .i64 m ∧ (1 < m → free r L k 1 = false ∨ (compl n r (layL r L k 1)).2 = false) ∧ (2 < m → free r L k 2 = false ∨ (compl n r (layL r L k 2)).2 = false) ∧ Below w1.heap.size w1 wr) (fun i _ => 4 - (intOf i).toNat)
      case atStart => exact ⟨1, by omega, by omega, rfl, fun h => by omega, fun h => by omega, Below.refl _ _⟩
      case round =>
        obtain ⟨m, hm1, hm3, rfl, hw1, hw2, hbw⟩ := hrel
        have HW1 := Lib.hid hw1
        have HW2 := Lib.hid hw2
        have HBW := Lib.hid hbw
        have R2 := Lib.hid (R1.out.on hbw)
        have U2 := Lib.hid (U1.out.below hbw)
        have B2 := Lib.hid (B1.out.trans (hbw.mono B1.out.size))
        have hBW2 : B ≤ wr.heap.size := Nat.le_trans hBW1 hbw.size
        clear hw1 hw2 hbw
        obtain ⟨x0, x1, x2⟩ := R2.out.c3
        have sX := R2.out.lt
        by_cases hm : m < 3
        · have hmle : (m : Int) ≤ 2 := by omega
          cases hfr : free r L k m
          · have HQ := Lib.hid (layOne_same HK.out hfr)
            have HV := Lib.hid hfr
            clear hfr
            go_wp2_with (fail)
            refine (sLayOne_q2 _ _ r L _ _ _ R2.out.v (own_il U2.out) _ HQ.out).mono ?_
            rintro e w3 ⟨v3, rfl, _, hb⟩
            have HB3 := Lib.hid (HBW.out.trans (hb.mono HBW.out.size))
            clear hb x0 x1 x2 sX
            have hmm : m = 1 ∨ m = 2 := by omega
            rcases hmm with rfl | rfl
            · go_wp2
              go_roundw
              case rel => exact ⟨2, by omega, by omega, rfl, fun _ => .inl HV.out, fun h => by omega, HB3.out⟩
              case measure => simp [intOf]
            · go_wp2
              go_roundw
              case rel => exact ⟨3, by omega, by omega, rfl, fun _ => HW1.out (by omega), fun _ => .inl HV.out, HB3.out⟩
              case measure => simp [intOf]
          · have HQ := Lib.hid (layOne_yes HK.out hfr)
            have HV := Lib.hid hfr
            clear hfr
            go_wp2_with (fail)
            refine (sLayOne_q2 _ _ r L _ _ _ R2.out.v (own_il U2.out) _ HQ.out).mono ?_
            rintro e w3 ⟨v3, rfl, ho3, hb⟩
            have HO3 := Lib.hid ho3
            have R3 := Lib.hid (R2.out.on hb)
            have B3 := Lib.hid (B2.out.trans (hb.mono B2.out.size))
            have HB3 := Lib.hid (HBW.out.trans (hb.mono HBW.out.size))
            have hBW3 : B ≤ w3.heap.size := Nat.le_trans hBW2 hb.size
            clear hb ho3 x0 x1 x2 sX
            obtain ⟨x0, x1, x2⟩ := R3.out.c3
            have sX := R3.out.lt
            obtain ⟨q, hq⟩ : ∃ q, compl n r (layL r L k m) = q := ⟨_, rfl⟩
            have HQ2 := Lib.hid hq
            have IHm := Lib.hid (fun (v u : Value) (w : World) (a1 : RegV w v r) (a2 : Own w B 3 u ((layL r L k m).map (Value.int .i64))) (a3 : B ≤ w.heap.size) => IH.out v u (layL r L k m) B w a1 a2 a3 (lay_ok HK.out HV.out) (by have := openN_lay HK.out HV.out; have := HO.out; omega))
            rw [hq] at IHm
            clear hq
            go_wp2_with (fail)
            refine (IHm.out _ _ _ R3.out.v (HO3.out.mono hBW2) hBW3).mono ?_
            rintro e w4 ⟨v4, rfl, ho4, hb⟩
            have HO4 := Lib.hid ho4
            have B4 := Lib.hid (B3.out.trans (hb.mono B3.out.size))
            have HB4 := Lib.hid (HB3.out.trans (hb.mono HB3.out.size))
            clear hb ho4 x0 x1 x2 sX
            cases hq2 : q.2
            · have HN2 := Lib.hid (show (compl n r (layL r L k m)).2 = false by rw [HQ2.out]; exact hq2)
              have hmm : m = 1 ∨ m = 2 := by omega
              rcases hmm with rfl | rfl
              · go_wp2
                go_roundw
                case rel => exact ⟨2, by omega, by omega, rfl, fun _ => .inr HN2.out, fun h => by omega, HB4.out⟩
                case measure => simp [intOf]
              · go_wp2
                go_roundw
                case rel => exact ⟨3, by omega, by omega, rfl, fun _ => HW1.out (by omega), fun _ => .inr HN2.out, HB4.out⟩
                case measure => simp [intOf]
            · have HC : Hid (compl (n + 1) r L = (q.1, true)) := Lib.hid (by
                have hN2 : (compl n r (layL r L k m)).2 = true := by rw [HQ2.out]; exact hq2
                have hmm : m = 1 ∨ m = 2 := by omega
                rcases hmm with rfl | rfl
                · rw [compl_east HF.out HV.out hN2]; refine HQ2.out.trans ?_; rw [← hq2]
                · rw [compl_north HF.out (HW1.out (by omega)) HV.out hN2]; refine HQ2.out.trans ?_; rw [← hq2])
              go_wp2
              go_ret2
              exact retLC_is B _ _ _ HC.out HO4.out (by rw [← hX] at *; exact B4.out)
        · have e : m = 3 := by omega
          subst e
          have HC := Lib.hid (compl_no HF.out (HW1.out (by omega)) (HW2.out (by omega)))
          clear x0 x1 x2 sX
          go_wp2
          go_ret2
          exact retLC_is B _ _ _ HC.out ((own_empty (w := wr) (Below.refl _ _)).mono hBW2) (by rw [← hX] at *; exact below_two B2.out _)
end Go.Proofs.YtklifibiadiinaaDoor
