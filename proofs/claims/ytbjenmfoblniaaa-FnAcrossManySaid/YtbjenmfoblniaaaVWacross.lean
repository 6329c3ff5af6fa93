/- Walks: across. -/
import Derived.Test.YtbjenmfoblniaaaZd
import Derived.Test.YtbjenmfoblniaaaVWj
import Derived.Test.YtbjenmfoblniaaaVLaw
import Derived.Test.YtbjenmfoblniaaaVLil
set_option linter.unusedVariables false
namespace Go.Proofs.Ytbjenmfoblniaaa
open Go.RowKit Domi

theorem or_row {a y : Nat} (ha : a < 2 ^ y) (hy : y ≤ 6) : IntKind.i64.wrap (((BitVec.ofInt IntKind.i64.bits (a : Int)) ||| (BitVec.ofInt IntKind.i64.bits ((2 ^ y : Nat) : Int))).toNat : Int) = ((a + 2 ^ y : Nat) : Int) := by
  have hp : 2 ^ y ≤ 2 ^ 6 := Nat.pow_le_pow_right (by omega) hy
  have h64 : (2 : Nat) ^ 6 = 64 := rfl
  have e1 : (BitVec.ofInt IntKind.i64.bits (a : Int)).toNat = a := by
    rw [BitVec.toNat_ofInt]
    show ((a : Int) % ((2 ^ 64 : Nat) : Int)).toNat = a
    rw [Int.emod_eq_of_lt (by omega) (by omega)]; rfl
  have e2 : (BitVec.ofInt IntKind.i64.bits ((2 ^ y : Nat) : Int)).toNat = 2 ^ y := by
    rw [BitVec.toNat_ofInt]
    show (((2 ^ y : Nat) : Int) % ((2 ^ 64 : Nat) : Int)).toNat = 2 ^ y
    rw [Int.emod_eq_of_lt (by omega) (by omega)]; rfl
  rw [BitVec.toNat_or, e1, e2]
  have h2 := Nat.two_pow_add_eq_or_of_lt ha 1
  rw [Nat.mul_one] at h2
  rw [Nat.or_comm, ← h2, Nat.add_comm]
  exact IntWalk.i64_in _ (by omega)
set_option maxRecDepth 100000 in
set_option maxHeartbeats 2000000 in
theorem across_any (v u : Value) (r : Reg) (L : List Int) (w t c : Nat) (W : World) (h : RegV W v r) (hu : Il W u L) (F : Fld r w t) (hl : L.length = r.cells.length) (hc : 1 ≤ c ∧ c < w) (b : Nat) (hb0 : acrossN w L c t = b) :
    Calls Try.prog 89 #[v, u, .int .i64 (c : Int)] W (Ret (.int .i64 (b : Int)) W) := by
  obtain ⟨a, cap, rfl, hs, hlc, hcm⟩ := h.opened
  obtain ⟨W1, hW1⟩ : ∃ X, X = W.alloc (.cells #[.int .i64 (w : Int), .int .i64 (t : Int), .slice a r.cells.length cap] 29) := ⟨_, rfl⟩
  have R0 : Hid (RB W1 W.heap.size r (.slice a r.cells.length cap)) := Lib.hid (by rw [hW1, ← F.hw, ← F.ht]; exact RB.new hs)
  have B0 : Hid (Below W.heap.size W W1) := Lib.hid (by rw [hW1]; exact below_alloc W _)
  have hw6 := F.w6
  have ht6 := F.t6
  have hlen : L.length = w * t := by rw [hl, F.len]
  obtain ⟨ua, uc, rfl, hul, hum, _⟩ := hu.opened
  have HU := Lib.hid hu
  have HB := Lib.hid hb0
  have HL := Lib.hid hlen
  have hFw := F.hw
  have hFt := F.ht
  clear h hs hu hb0 hlen hl F
  go_enter Try.func89, Try.ntmps89
  obtain ⟨x0, x1, x2⟩ := R0.out.c3
  have sX := R0.out.lt
  rw [hFw] at x0
  rw [hFt] at x1
  go_wp2_with (fail)
  rw [← hW1]
  clear hW1 x2
  try rw [hFt]
  clear hFw hFt
  go_loopw [7, 11] (fun s i wr => ∃ k : Nat, k ≤ t ∧ i = .int .i64 k ∧ s = .int .i64 ((acrossN w L c k : Nat) : Int) ∧ Below W1.heap.size W1 wr) (fun _ i _ => t - (intOf i).toNat)
  case atStart => exact ⟨0, Nat.zero_le _, rfl, rfl, Below.refl _ _⟩
  case round =>
    obtain ⟨k, hk, rfl, rfl, hbw⟩ := hrel
    have HBW := Lib.hid hbw
    have y0 := ((bcell hbw).1 W.heap.size 0 sX).trans x0
    have y1 := ((bcell hbw).1 W.heap.size 1 sX).trans x1
    have BW := Lib.hid (B0.out.trans (hbw.mono B0.out.size))
    clear hbw
    by_cases hlt : k < t
    · have hlt' : (k : Int) < (t : Int) := by omega
      obtain ⟨p, hp⟩ : ∃ p, k * w = p := ⟨_, rfl⟩
      have hpw : p + w ≤ L.length := by
        rw [HL.out, ← hp, ← Nat.succ_mul, Nat.mul_comm w t]
        exact Nat.mul_le_mul_right w hlt
      have hp36 : p ≤ 36 := by
        have h1 : L.length ≤ 6 * 6 := by rw [HL.out]; exact Nat.mul_le_mul hw6 ht6
        omega
      obtain ⟨j, hj⟩ : ∃ j, p + c - 1 = j := ⟨_, rfl⟩
      have hjl : j < L.length := by omega
      obtain ⟨ub, uf, rfl, hub, hcell⟩ := il_at (Sl.below HU.out BW.out) hjl
      have hjl' : (j : Int) < (L.length : Int) := by omega
      have hkw : (k : Int) * (w : Int) = (p : Int) := by rw [← hp]; exact (Int.natCast_mul k w).symm
      have hjI : (p : Int) + (c : Int) - 1 = (j : Int) := by omega
      have HA : Hid (acrossN w L c (k + 1) = acrossN w L c k + if L.getD j 0 = 1 then 2 ^ k else 0) := Lib.hid (by rw [acrossN, ← hj, ← hp])
      have hal := acrossN_lt w L c k
      have hpk : 2 ^ k ≤ 64 := Nat.pow_le_pow_right (n := 2) (i := k) (j := 6) (by omega) (by omega)
      have HOR := Lib.hid (or_row hal (by omega : k ≤ 6))
      obtain ⟨pw, hpwk⟩ : ∃ q, 2 ^ k = q := ⟨_, rfl⟩
      have hpI : (2 : Int) ^ k = (pw : Int) := by rw [← hpwk]; exact (Int.natCast_pow 2 k).symm
      rw [hpwk] at HOR HA hal hpk
      generalize acrossN w L c k = A at *
      clear hp hj HL hpwk
      by_cases he : L.getD j 0 = 1
      · rw [he] at hcell
        have HA2 : Hid (acrossN w L c (k + 1) = A + pw) := Lib.hid (by rw [HA.out, if_pos he])
        clear HA he
        go_wp2
        go_roundw
        case rel => exact ⟨k + 1, by omega, by go_num, congrArg (Value.int .i64) (Eq.trans HOR.out (by rw [HA2.out])), HBW.out⟩
        case measure => simp [intOf]; omega
      · have HA2 : Hid (acrossN w L c (k + 1) = A) := Lib.hid (by rw [HA.out, if_neg he, Nat.add_zero])
        have he' : (L.getD j 0 == 1) = false := by simpa using he
        generalize L.getD j 0 = y at *
        clear HA he HOR
        go_wp2
        go_roundw
        case rel => exact ⟨k + 1, by omega, by go_num, congrArg (Value.int .i64) (by rw [HA2.out]), HBW.out⟩
        case measure => simp [intOf]; omega
    · have e : k = t := by omega
      subst e
      rw [HB.out]
      go_wp2
      go_ret
      exact ⟨rfl, BW.out⟩
end Go.Proofs.Ytbjenmfoblniaaa
