/- The region of all cells of a field: one part, no hole, its border. Plain. -/
import Derived.Test.YtjdnfmpnfogmpaaGrid
namespace Domi
open Go Go.RowKit

def Reg.full_ (x y : Int) : Reg := ⟨x, y, List.replicate (x * y).toNat true⟩
theorem cnt_full (n : Nat) : cnt (List.replicate n true) = n := by simp [cnt]
theorem full_valid {x y : Int} (hx : 1 ≤ x ∧ x ≤ 6) (hy : 1 ≤ y ∧ y ≤ 6) (h : x * y ≤ 24) : (Reg.full_ x y).valid = true := by
  have := area_in hx hy
  refine Reg.valid_iff.2 ⟨hx, hy, ?_, ?_⟩
  · simp [Reg.full_]; omega
  · rw [show (Reg.full_ x y).cells = List.replicate (x * y).toNat true from rfl, cnt_full]; omega
theorem full_at {x y : Int} (hx : 1 ≤ x ∧ x ≤ 6) (hy : 1 ≤ y ∧ y ≤ 6) (a b : Int) : (Reg.full_ x y).at_ a b = (inB a 0 (x - 1) && inB b 0 (y - 1)) := by
  unfold Reg.at_
  show (inB a 0 (x - 1) && inB b 0 (y - 1) && _) = _
  cases ha : inB a 0 (x - 1)
  · rfl
  · cases hb : inB b 0 (y - 1)
    · rfl
    · rw [inB_iff] at ha hb
      have := xy_lt (w := x) (t := y) ha.1 (by omega) hb.1 (by omega)
      simp only [Bool.true_and, Reg.g, Reg.full_]
      rw [List.getD_eq_getElem?_getD, List.getElem?_replicate, if_pos (by omega)]; rfl

/-- From a place that is not the first one goes on to one before it. -/
theorem grid_single {W T : Int} (hW : 1 ≤ W) (hT : 1 ≤ T) {p : Int → Int → Bool} {A : Int → Int → Prop} (hA : ∀ x y, A x y → A (-x) (-y)) (h0 : p 0 0 = true)
    (hd : ∀ x y, 0 ≤ x → x < W → 0 ≤ y → y < T → ¬ (x = 0 ∧ y = 0) → p x y = true → ∃ a b, (0 ≤ a ∧ a < W) ∧ (0 ≤ b ∧ b < T) ∧ ((b = y ∧ a < x) ∨ (b + 1 = y ∧ a ≤ x)) ∧ p a b = true ∧ A (a - x) (b - y)) : gparts W T p A = 1 := by
  have hpos : 0 < W * T := Int.mul_pos (by omega) (by omega)
  refine num_single (fun _ _ h => h.symm hA) (by omega) ?_ ?_
  · refine ⟨by simpa using hpos, ?_⟩
    simpa using h0
  · intro k hk hne
    obtain ⟨hx, hy, hxy⟩ := grid_xy hW hk.1
    obtain ⟨a, b, ha, hb, hlt, hp, hA'⟩ := hd _ _ hx.1 hx.2 hy.1 hy.2 (by rintro ⟨e1, e2⟩; rw [e1, e2] at hxy; omega) hk.2
    have h := grid_of (W := W) (T := T) ha hb
    have hl := xy_lt (w := W) (t := T) ha.1 ha.2 hb.1 hb.2
    have hj : GP W T p (b * W + a).toNat := ⟨h.1, by rw [h.2.1, h.2.2]; exact hp⟩
    refine ⟨(b * W + a).toNat, ?_, hj, hk, hj, by rw [h.2.1, h.2.2]; exact hA'⟩
    rcases hlt with ⟨e, hl⟩ | ⟨e, hl⟩
    · rw [e] at h ⊢; omega
    · have : (k : Int) / W * W = b * W + W := by rw [← e, Int.add_mul]; omega
      omega

theorem full_parts {x y : Int} (hx : 1 ≤ x ∧ x ≤ 6) (hy : 1 ≤ y ∧ y ≤ 6) (h : x * y ≤ 24) : (Reg.full_ x y).pmany = 1 := by
  have hv := full_valid hx hy h
  unfold Reg.pmany
  rw [if_pos hv, parts_g hv, show gparts (Reg.full_ x y).wide (Reg.full_ x y).tall (Reg.full_ x y).pf A4 = 1 from ?_]; rfl
  refine grid_single hx.1 hy.1 (fun x y h => by unfold A4 at *; omega) ?_ ?_
  · show (Reg.full_ x y).at_ 0 0 = true
    rw [full_at hx hy]; simp [inB]; omega
  · intro a b a0 a1 b0 b1 hne _
    have hin : ∀ c d, 0 ≤ c → c < x → 0 ≤ d → d < y → (Reg.full_ x y).pf c d = true := fun c d c0 c1 d0 d1 => by
      show (Reg.full_ x y).at_ c d = true
      rw [full_at hx hy]; simp [inB]; omega
    have a1' : a < x := a1
    have b1' : b < y := b1
    by_cases e : a = 0
    · exact ⟨a, b - 1, ⟨a0, a1⟩, ⟨by omega, show b - 1 < y by omega⟩, .inr ⟨by omega, by omega⟩, hin _ _ a0 a1' (by omega) (by omega), .inr (.inr (.inr ⟨by omega, by omega⟩))⟩
    · exact ⟨a - 1, b, ⟨by omega, show a - 1 < x by omega⟩, ⟨b0, b1⟩, .inl ⟨rfl, by omega⟩, hin _ _ (by omega) (by omega) b0 b1', .inr (.inr (.inl ⟨by omega, by omega⟩))⟩
theorem full_holes {x y : Int} (hx : 1 ≤ x ∧ x ≤ 6) (hy : 1 ≤ y ∧ y ≤ 6) (h : x * y ≤ 24) : (Reg.full_ x y).holesR = 0 := by
  have hv := full_valid hx hy h
  rw [holesR_yes hv]
  unfold Reg.holes
  rw [holes_g hv, show gparts ((Reg.full_ x y).wide + 2) ((Reg.full_ x y).tall + 2) (Reg.full_ x y).ph A8 = 1 from ?_]; rfl
  have hin : ∀ c d, (Reg.full_ x y).ph c d = true ↔ ¬ (1 ≤ c ∧ c ≤ x ∧ 1 ≤ d ∧ d ≤ y) := fun c d => by
    show (!(Reg.full_ x y).at_ (c - 1) (d - 1)) = true ↔ _
    rw [full_at hx hy]; simp [inB]; omega
  refine grid_single (show 1 ≤ x + 2 by omega) (show 1 ≤ y + 2 by omega) (fun x y h => by unfold A8 at *; omega) ((hin _ _).2 (by omega)) ?_
  intro a b a0 a1 b0 b1 hne hp
  have a1' : a < x + 2 := a1
  have b1' : b < y + 2 := b1
  have hp' := (hin _ _).1 hp
  by_cases e1 : b = 0
  · exact ⟨a - 1, b, ⟨by omega, show a - 1 < x + 2 by omega⟩, ⟨b0, b1⟩, .inl ⟨rfl, by omega⟩, (hin _ _).2 (by omega), by unfold A8; omega⟩
  · by_cases e2 : a = 0 ∨ a = x + 1
    · exact ⟨a, b - 1, ⟨a0, a1⟩, ⟨by omega, show b - 1 < y + 2 by omega⟩, .inr ⟨by omega, by omega⟩, (hin _ _).2 (by omega), by unfold A8; omega⟩
    · exact ⟨a - 1, b, ⟨by omega, show a - 1 < x + 2 by omega⟩, ⟨b0, b1⟩, .inl ⟨rfl, by omega⟩, (hin _ _).2 (by omega), by unfold A8; omega⟩
theorem full_bord_all : ∀ a : Fin 7, ∀ b : Fin 7, 1 ≤ a.val → 1 ≤ b.val → a.val * b.val ≤ 24 → bordTo (Reg.full_ (a.val : Nat) (b.val : Nat)) (a.val * b.val) = 2 * ((a.val : Int) + (b.val : Int)) := by decide +kernel
theorem full_bord {x y : Int} (hx : 1 ≤ x ∧ x ≤ 6) (hy : 1 ≤ y ∧ y ≤ 6) (h : x * y ≤ 24) : (Reg.full_ x y).bord = 2 * (x + y) := by
  have hv := full_valid hx hy h
  unfold Reg.bord
  rw [if_pos hv]
  obtain ⟨a, rfl⟩ := Int.eq_ofNat_of_zero_le (show 0 ≤ x by omega)
  obtain ⟨b, rfl⟩ := Int.eq_ofNat_of_zero_le (show 0 ≤ y by omega)
  have hm : ((a * b : Nat) : Int) = (a : Int) * b := Int.natCast_mul a b
  have := full_bord_all ⟨a, by omega⟩ ⟨b, by omega⟩ (by simp; omega) (by simp; omega) (show a * b ≤ 24 by omega)
  rw [show (Reg.full_ (a : Int) (b : Int)).cells.length = a * b by simp [Reg.full_]; omega]
  exact this
theorem full_many {x y : Int} (hx : 1 ≤ x ∧ x ≤ 6) (hy : 1 ≤ y ∧ y ≤ 6) (h : x * y ≤ 24) : (Reg.full_ x y).many = x * y := by
  have := area_in hx hy
  rw [Reg.many_yes (full_valid hx hy h), show (Reg.full_ x y).cells = List.replicate (x * y).toNat true from rfl, cnt_full]; omega
end Domi
