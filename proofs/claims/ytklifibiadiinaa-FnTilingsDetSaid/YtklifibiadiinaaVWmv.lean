/- Walks: MatrixValid on both sides. -/
import Derived.Test.YtklifibiadiinaaZe
import Derived.Test.YtklifibiadiinaaVWdet
import Derived.Lib.SliceRun
set_option linter.unusedVariables false
namespace Go.Proofs.Ytklifibiadiinaa
open Go.RowKit Domi

theorem in7_is (n lo hi : Int) (w : World) (b : Bool) (h : inB n lo hi = b) : Calls Try.prog 59 #[.int .i64 n, .int .i64 lo, .int .i64 hi] w fun e w' => e = .returned (.bool b) ∧ w = w' := by rw [← h]; exact in_any n lo hi w
theorem l1In7_is (n lo hi : Int) (w : World) (b : Bool) (h : inB n lo hi = b) : Calls Try.prog 66 #[.int .i64 n, .int .i64 lo, .int .i64 hi] w fun e w' => e = .returned (.bool b) ∧ w = w' := by rw [← h]; exact l1In_any n lo hi w
theorem il_get7 {w : World} {a : Option Addr} {n c : Nat} {L : List Int} (h : Il w (.slice a n c) L) {j : Nat} (hj : j < L.length) : ∃ b o, a = some ⟨b, o, none⟩ ∧ b < w.heap.size ∧ w.cell? ⟨b, o + j, none⟩ = some (.int .i64 (L.getD j 0)) := by
  obtain ⟨_, _, e, _, _, h3⟩ := h.opened
  simp only [Value.slice.injEq] at e
  obtain ⟨rfl, _, rfl⟩ := e
  rcases h3 with e | ⟨b, o, rfl, hb, hc⟩
  · rw [e] at hj; simp at hj
  · exact ⟨b, o, rfl, hb, hc j hj⟩
set_option maxRecDepth 100000 in
set_option maxHeartbeats 1000000 in
theorem sMatrixValid_any (v : Value) (M : List (List Int)) (w : World) (h : Ll w v M) (x : Bool) (hx : matB M = x) :
    Calls Try.prog 31 #[v] w fun e w' => e = .returned (.bool x) ∧ w = w' := by
  have HL := Lib.hid h
  obtain ⟨a, cap, rfl, hlc, hcm, _⟩ := h.opened
  have HX := Lib.hid hx
  obtain ⟨n, hn⟩ : ∃ n, M.length = n := ⟨_, rfl⟩
  have HN := Lib.hid hn
  rw [hn] at HL hlc ⊢
  clear h hx hn
  go_enter Try.func31, Try.ntmps31
  go_wp2_with (fail)
  go_loop [3] (fun i => ∃ k : Nat, k ≤ n ∧ i = .int .i64 k ∧ Hid (∀ i, i < k → rowB n (M.getD i []) = true)) (fun i => n - (intOf i).toNat)
  case atStart => exact ⟨0, Nat.zero_le _, rfl, Lib.hid fun i h => by omega⟩
  case round =>
    obtain ⟨k, hk, rfl, HG⟩ := hrel
    by_cases hlt : k < n
    · have hlt' : (k : Int) < (n : Int) := by omega
      obtain ⟨b, o, u, rfl, hb, hcell, hil⟩ := ll_get HL.out (k := k) (by rw [HN.out]; exact hlt)
      obtain ⟨ua, uc, rfl, hu1, hu2, _⟩ := hil.opened
      obtain ⟨m, hm⟩ : ∃ m, (M.getD k []).length = m := ⟨_, rfl⟩
      have HM := Lib.hid hm
      rw [hm] at hcell hil hu1
      have HIL := Lib.hid hil
      clear hm hil
      by_cases hmn : m = n
      · subst hmn
        have hne : ((m : Int) != (m : Int)) = false := by simp
        go_wp2_with (fail)
        go_loop [4] (fun j => ∃ q : Nat, q ≤ m ∧ j = .int .i64 q ∧ Hid (∀ j, j < q → inB ((M.getD k []).getD j 0) (-1) 1 = true)) (fun j => m - (intOf j).toNat)
        case atStart => exact ⟨0, Nat.zero_le _, rfl, Lib.hid fun i h => by omega⟩
        case round =>
          obtain ⟨q, hq, rfl, HQ⟩ := hrel
          by_cases hql : q < m
          · have hql' : (q : Int) < (m : Int) := by omega
            obtain ⟨b2, o2, rfl, hb2, hc2⟩ := il_get7 HIL.out (j := q) (by rw [HM.out]; exact hql)
            obtain ⟨y, hy⟩ : ∃ y, (M.getD k []).getD q 0 = y := ⟨_, rfl⟩
            rw [hy] at hc2
            have HY := Lib.hid hy
            clear hy
            go_wp2_with (fail)
            cases hin : inB y (-1) 1
            · refine (l1In7_is _ _ _ _ false hin).mono ?_
              rintro e w1 ⟨rfl, rfl⟩
              have HR : Hid (false = x) := Lib.hid (by rw [← HX.out, matB_bad (k := k) (by rw [HN.out]; exact hlt) (by rw [HN.out]; exact rowB_bad (j := q) (by rw [HM.out]; exact hql) (by rw [HY.out]; exact hin))])
              clear hin
              go_wp2_with (fail)
              go_ret
              exact ⟨ret_bool HR.out, rfl⟩
            · refine (l1In7_is _ _ _ _ true hin).mono ?_
              rintro e w1 ⟨rfl, rfl⟩
              have HQ2 : Hid (∀ j, j < q + 1 → inB ((M.getD k []).getD j 0) (-1) 1 = true) := Lib.hid (fun j hj => by
                by_cases e : j = q
                · subst e; rw [HY.out]; exact hin
                · exact HQ.out j (by omega))
              clear hin
              go_wp2_with (fail)
              go_round
              case rel => exact ⟨q + 1, by omega, by go_num, HQ2⟩
              case measure => simp [intOf]; omega
          · have e : m = q := by omega
            subst e
            have HG2 : Hid (∀ i, i < k + 1 → rowB m (M.getD i []) = true) := Lib.hid (fun i hi => by
              by_cases e : i = k
              · subst e; exact rowB_good HM.out (by rw [HM.out]; exact HQ.out)
              · exact HG.out i (by omega))
            go_wp2_with (fail)
            go_round
            case rel => exact ⟨k + 1, by omega, by go_num, HG2⟩
            case measure => simp [intOf]; omega
      · have hne : ((m : Int) != (n : Int)) = true := by simp; omega
        have HR : Hid (false = x) := Lib.hid (by rw [← HX.out, matB_bad (k := k) (by rw [HN.out]; exact hlt) (by rw [HN.out]; exact rowB_len (by rw [HM.out]; exact hmn))])
        go_wp2_with (fail)
        go_ret
        exact ⟨ret_bool HR.out, rfl⟩
    · have e : n = k := by omega
      subst e
      have HR : Hid (decide (n ≤ 12) = x) := Lib.hid (by rw [← HX.out, matB_good (by rw [HN.out]; exact HG.out), HN.out])
      by_cases h12 : n ≤ 12
      · have h12' : (n : Int) ≤ 12 := by omega
        have HR2 : Hid (true = x) := Lib.hid (by rw [← HR.out]; exact (decide_eq_true h12).symm)
        go_wp2_with (fail)
        go_ret
        exact ⟨ret_bool HR2.out, rfl⟩
      · have h12' : ¬ (n : Int) ≤ 12 := by omega
        have HR2 : Hid (false = x) := Lib.hid (by rw [← HR.out]; exact (decide_eq_false h12).symm)
        go_wp2_with (fail)
        go_ret
        exact ⟨ret_bool HR2.out, rfl⟩
theorem MatrixValid1_is (y : Int) (w : World) (b : Bool) (h : inB y (-1) 1 = b) : Calls Try.prog 58 #[.int .i64 y] w fun e w' => e = .returned (.bool (!b)) ∧ w = w' := by
  go_enter Try.func58, Try.ntmps58
  go_wp2_with (fail)
  refine (in7_is _ _ _ _ b h).mono ?_
  rintro e w1 ⟨rfl, rfl⟩
  go_wp2
  go_ret
  exact ⟨rfl, rfl⟩
set_option maxHeartbeats 1000000 in
theorem IndexFunc7_is (v : Value) (L : List Int) (w : World) (h : Il w v L) :
    Calls Try.prog 90 #[v, .func (.func 58) #[] #[]] w fun e w' => ∃ n : Int, e = .returned (.int .i64 n) ∧ w = w' ∧ ((0 ≤ n ∧ ∃ k, k < L.length ∧ inB (L.getD k 0) (-1) 1 = false) ∨ (n = -1 ∧ ∀ j, j < L.length → inB (L.getD j 0) (-1) 1 = true)) := by
  have HL := Lib.hid h
  obtain ⟨a, cap, rfl, hlc, hcm, _⟩ := h.opened
  clear h
  go_enter Try.func90, Try.ntmps90
  go_wp2_with (fail)
  go_loop [8] (fun i => ∃ k : Nat, k ≤ L.length ∧ i = .int .i64 k ∧ Hid (∀ j, j < k → inB (L.getD j 0) (-1) 1 = true)) (fun i => L.length - (intOf i).toNat)
  case atStart => exact ⟨0, Nat.zero_le _, rfl, Lib.hid (fun _ h => by omega)⟩
  case round =>
    obtain ⟨k, hk, rfl, hno⟩ := hrel
    by_cases hlt : k < L.length
    · have hlt' : (k : Int) < (L.length : Int) := by omega
      obtain ⟨b2, o2, rfl, hb2, hc2⟩ := il_get7 HL.out hlt
      obtain ⟨y, hy⟩ : ∃ y, L.getD k 0 = y := ⟨_, rfl⟩
      rw [hy] at hc2
      have HY := Lib.hid hy
      clear hy
      go_wp2_with (fail)
      cases hin : inB y (-1) 1
      · refine (MatrixValid1_is _ _ false hin).mono ?_
        rintro e w1 ⟨rfl, rfl⟩
        have HR : Hid (∃ k, k < L.length ∧ inB (L.getD k 0) (-1) 1 = false) := Lib.hid ⟨k, hlt, by rw [HY.out]; exact hin⟩
        clear hin
        go_wp2_with (fail)
        go_ret
        exact ⟨_, rfl, rfl, .inl ⟨by omega, HR.out⟩⟩
      · refine (MatrixValid1_is _ _ true hin).mono ?_
        rintro e w1 ⟨rfl, rfl⟩
        have HN2 : Hid (∀ j, j < k + 1 → inB (L.getD j 0) (-1) 1 = true) := Lib.hid fun j hj => by
          by_cases e : j = k
          · subst e; rw [HY.out]; exact hin
          · exact hno.out j (by omega)
        clear hin
        go_wp2_with (fail)
        go_round
        case rel => exact ⟨k + 1, by omega, by go_num, HN2⟩
        case measure => simp [intOf]; omega
    · have e : k = L.length := by omega
      subst e
      go_wp2_with (fail)
      go_ret
      exact ⟨_, rfl, rfl, .inr ⟨rfl, hno.out⟩⟩
set_option maxHeartbeats 1000000 in
theorem ContainsFunc7_is (v : Value) (L : List Int) (w : World) (h : Il w v L) :
    Calls Try.prog 57 #[v, .func (.func 58) #[] #[]] w fun e w' => ∃ b : Bool, e = .returned (.bool b) ∧ w = w' ∧ ((b = true ∧ ∃ k, k < L.length ∧ inB (L.getD k 0) (-1) 1 = false) ∨ (b = false ∧ ∀ j, j < L.length → inB (L.getD j 0) (-1) 1 = true)) := by
  have HL := Lib.hid h
  obtain ⟨a, cap, rfl, hlc, hcm, _⟩ := h.opened
  clear h
  go_enter Try.func57, Try.ntmps57
  go_wp2_with (fail)
  refine (IndexFunc7_is _ L _ HL.out).mono ?_
  rintro e w1 ⟨n, rfl, rfl, hn⟩
  rcases hn with ⟨h1, h2⟩ | ⟨h1, h2⟩
  · have H2 := Lib.hid h2
    clear h2
    go_wp2_with (fail)
    go_ret
    exact ⟨_, rfl, rfl, .inl ⟨rfl, H2.out⟩⟩
  · subst h1
    have H2 := Lib.hid h2
    clear h2
    go_wp2_with (fail)
    go_ret
    exact ⟨_, rfl, rfl, .inr ⟨rfl, H2.out⟩⟩
set_option maxRecDepth 100000 in
set_option maxHeartbeats 1000000 in
theorem MatrixValid_any (v : Value) (M : List (List Int)) (w : World) (h : Ll w v M) (x : Bool) (hx : matB M = x) :
    Calls Try.prog 23 #[v] w fun e w' => e = .returned (.bool x) ∧ w = w' := by
  have HL := Lib.hid h
  obtain ⟨a, cap, rfl, hlc, hcm, _⟩ := h.opened
  have HX := Lib.hid hx
  obtain ⟨n, hn⟩ : ∃ n, M.length = n := ⟨_, rfl⟩
  have HN := Lib.hid hn
  rw [hn] at HL hlc ⊢
  clear h hx hn
  go_enter Try.func23, Try.ntmps23
  go_wp2_with (fail)
  go_loop [7] (fun i => ∃ k : Nat, k ≤ n ∧ i = .int .i64 k ∧ Hid (∀ i, i < k → rowB n (M.getD i []) = true)) (fun i => n - (intOf i).toNat)
  case atStart => exact ⟨0, Nat.zero_le _, rfl, Lib.hid fun i h => by omega⟩
  case round =>
    obtain ⟨k, hk, rfl, HG⟩ := hrel
    by_cases hlt : k < n
    · have hlt' : (k : Int) < (n : Int) := by omega
      obtain ⟨b, o, u, rfl, hb, hcell, hil⟩ := ll_get HL.out (k := k) (by rw [HN.out]; exact hlt)
      obtain ⟨ua, uc, rfl, hu1, hu2, _⟩ := hil.opened
      obtain ⟨m, hm⟩ : ∃ m, (M.getD k []).length = m := ⟨_, rfl⟩
      have HM := Lib.hid hm
      rw [hm] at hcell hil hu1
      have HIL := Lib.hid hil
      clear hm hil
      by_cases hmn : m = n
      · subst hmn
        have hne : ((m : Int) != (m : Int)) = false := by simp
        go_wp2_with (fail)
        refine (ContainsFunc7_is _ (M.getD k []) _ HIL.out).mono ?_
        rintro e w1 ⟨bb, rfl, rfl, hh⟩
        rcases hh with ⟨rfl, h2⟩ | ⟨rfl, h2⟩
        · have HR : Hid (false = x) := Lib.hid (by
            obtain ⟨q, hq, hin⟩ := h2
            rw [← HX.out, matB_bad (k := k) (by rw [HN.out]; exact hlt) (by rw [HN.out]; exact rowB_bad hq hin)])
          clear h2
          go_wp2_with (fail)
          go_ret
          exact ⟨ret_bool HR.out, rfl⟩
        · have HG2 : Hid (∀ i, i < k + 1 → rowB m (M.getD i []) = true) := Lib.hid (fun i hi => by
            by_cases e : i = k
            · subst e; exact rowB_good HM.out h2
            · exact HG.out i (by omega))
          clear h2
          go_wp2_with (fail)
          go_round
          case rel => exact ⟨k + 1, by omega, by go_num, HG2⟩
          case measure => simp [intOf]; omega
      · have hne : ((m : Int) != (n : Int)) = true := by simp; omega
        have HR : Hid (false = x) := Lib.hid (by rw [← HX.out, matB_bad (k := k) (by rw [HN.out]; exact hlt) (by rw [HN.out]; exact rowB_len (by rw [HM.out]; exact hmn))])
        go_wp2_with (fail)
        go_ret
        exact ⟨ret_bool HR.out, rfl⟩
    · have e : n = k := by omega
      subst e
      have HR : Hid (decide (n ≤ 12) = x) := Lib.hid (by rw [← HX.out, matB_good (by rw [HN.out]; exact HG.out), HN.out])
      by_cases h12 : n ≤ 12
      · have h12' : (n : Int) ≤ 12 := by omega
        have HR2 : Hid (true = x) := Lib.hid (by rw [← HR.out]; exact (decide_eq_true h12).symm)
        go_wp2_with (fail)
        go_ret
        exact ⟨ret_bool HR2.out, rfl⟩
      · have h12' : ¬ (n : Int) ≤ 12 := by omega
        have HR2 : Hid (false = x) := Lib.hid (by rw [← HR.out]; exact (decide_eq_false h12).symm)
        go_wp2_with (fail)
        go_ret
        exact ⟨ret_bool HR2.out, rfl⟩
set_option maxHeartbeats 1000000 in
theorem Det_any (v : Value) (M : List (List Int)) (w : World) (h : Ll w v M) (x : Int) (hx : detR M = x) :
    Calls Try.prog 29 #[v] w (Ret (.int .i64 x) w) := by
  have HL := Lib.hid h
  obtain ⟨a, cap, rfl, hlc, hcm, _⟩ := h.opened
  have HX := Lib.hid hx
  clear h hx
  go_enter Try.func29, Try.ntmps29
  go_wp2_with (fail)
  cases hm : matB M
  · refine (MatrixValid_any _ M _ HL.out false hm).mono ?_
    rintro e w1 ⟨rfl, rfl⟩
    have HR : Hid ((0 : Int) = x) := Lib.hid (by rw [← HX.out, detR_no hm])
    clear hm
    go_wp2_with (fail)
    go_ret
    exact ⟨ret_int HR.out, Below.refl _ _⟩
  · refine (MatrixValid_any _ M _ HL.out true hm).mono ?_
    rintro e w1 ⟨rfl, rfl⟩
    have HM := Lib.hid hm
    clear hm
    go_wp2_with (fail)
    refine (det_any _ M _ M.length HL.out (matB_sq HM.out).1 (by have := (matB_sq HM.out).2.1; omega) x (by rw [← HX.out, detR_yes HM.out])).mono ?_
    rintro e w2 ⟨rfl, hb⟩
    have B := Lib.hid hb
    clear hb
    go_wp2_with (fail)
    go_ret
    exact ⟨rfl, B.out⟩
end Go.Proofs.Ytklifibiadiinaa
