/- Parts of turned and of mirrored fields: as many as before. Plain. -/
import Derived.Test.YtjdnfmpnfogmpaaHoleQ
import Derived.Test.YtjdnfmpnfogmpaaPartQ
namespace Domi
open Go Go.RowKit

section
variable {n m : Nat} {E F : Nat → Nat → Prop} {P Q : Nat → Prop} {f g : Nat → Nat}
theorem carry_le (sE : ∀ a b, E a b → E b a) (sF : ∀ a b, F a b → F b a) (hQ : ∀ a, Q a → a < m)
    (hf : ∀ a, P a → Q (f a) ∧ g (f a) = a)
    (hF : ∀ a b, F a b → Q a ∧ Q b ∧ E (g a) (g b)) : num n (fun k => P k ∧ least E k = k) ≤ num m (fun k => Q k ∧ least F k = k) := by
  have hc : ∀ a b, Conn F a b → Conn E (g a) (g b) := fun a b h => by
    induction h with
    | refl => exact .refl _
    | step _ e ih => exact .step ih (hF _ _ e).2.2
  have hq : ∀ a b, Conn F a b → Q a → Q b := fun a b h ha => h.stays (Q := Q) (fun _ _ e _ => (hF _ _ e).2.1) ha
  refine num_inj (fun k => least F (f k)) (fun k hk hp => ?_) (fun k j hk hj hp hp' e => ?_)
  · have h1 := hq _ _ (least_conn F (f k)) (hf k hp.1).1
    exact ⟨hQ _ h1, h1, least_idem sF _⟩
  · have h1 := hc _ _ ((conn_iff sF).2 e)
    rw [(hf k hp.1).2, (hf j hp'.1).2] at h1
    rw [← hp.2, ← hp'.2]; exact least_eq sE h1
theorem num_carry (sE : ∀ a b, E a b → E b a) (sF : ∀ a b, F a b → F b a) (hP : ∀ a, P a → a < n) (hQ : ∀ a, Q a → a < m)
    (hf : ∀ a, P a → Q (f a) ∧ g (f a) = a) (hg : ∀ b, Q b → P (g b) ∧ f (g b) = b)
    (hE : ∀ a b, E a b → P a ∧ P b ∧ F (f a) (f b)) (hF : ∀ a b, F a b → Q a ∧ Q b ∧ E (g a) (g b)) : num n (fun k => P k ∧ least E k = k) = num m (fun k => Q k ∧ least F k = k) :=
  Nat.le_antisymm (carry_le sE sF hQ hf hF) (carry_le sF sE hP hg hE)
theorem num_single (sE : ∀ a b, E a b → E b a) (hn : 0 < n) (h0 : P 0) (hd : ∀ k, P k → k ≠ 0 → ∃ j, j < k ∧ P j ∧ E k j) : num n (fun k => P k ∧ least E k = k) = 1 := by
  have hc : ∀ k, P k → Conn E k 0 := by
    intro k
    induction k using Nat.strongRecOn with
    | _ k ih =>
      intro hk
      by_cases e : k = 0
      · subst e; exact .refl _
      · obtain ⟨j, hj, hp, he⟩ := hd k hk e
        exact (Conn.one he).trans (ih j hj hp)
  rw [num_congr (R := fun k => k = 0) fun k _ => ⟨fun h => by have := least_le (hc k h.1); omega, fun h => by subst h; exact ⟨h0, Nat.le_zero.1 (least_self 0)⟩⟩]
  exact num_one hn
end

/-- The places of a field of W columns and T rows where p says yes. -/
def GP (W T : Int) (p : Int → Int → Bool) (k : Nat) : Prop := (k : Int) < W * T ∧ p ((k : Int) % W) ((k : Int) / W) = true
def GE (W T : Int) (p : Int → Int → Bool) (A : Int → Int → Prop) (a b : Nat) : Prop := GP W T p a ∧ GP W T p b ∧ A ((b : Int) % W - (a : Int) % W) ((b : Int) / W - (a : Int) / W)
theorem GE.symm {W T : Int} {p : Int → Int → Bool} {A : Int → Int → Prop} (hA : ∀ x y, A x y → A (-x) (-y)) {a b : Nat} (h : GE W T p A a b) : GE W T p A b a :=
  ⟨h.2.1, h.1, by have := hA _ _ h.2.2; rwa [Int.neg_sub, Int.neg_sub] at this⟩
/-- How many parts such a field has. -/
noncomputable def gparts (W T : Int) (p : Int → Int → Bool) (A : Int → Int → Prop) : Nat := num (W * T).toNat (fun k => GP W T p k ∧ least (GE W T p A) k = k)

theorem grid_xy {W T : Int} (hW : 1 ≤ W) {k : Nat} (h : (k : Int) < W * T) : (0 ≤ (k : Int) % W ∧ (k : Int) % W < W) ∧ (0 ≤ (k : Int) / W ∧ (k : Int) / W < T) ∧ (k : Int) / W * W + (k : Int) % W = k := by
  have := div_lt_of hW h
  exact ⟨⟨Int.emod_nonneg _ (by omega), Int.emod_lt_of_pos _ (by omega)⟩, ⟨Int.ediv_nonneg (by omega) (by omega), by omega⟩, of_xy (by omega)⟩
theorem grid_of {W T x y : Int} (hx : 0 ≤ x ∧ x < W) (hy : 0 ≤ y ∧ y < T) : (((y * W + x).toNat : Nat) : Int) < W * T ∧ (((y * W + x).toNat : Nat) : Int) % W = x ∧ (((y * W + x).toNat : Nat) : Int) / W = y := by
  have h1 := xy_lt (w := W) (t := T) hx.1 hx.2 hy.1 hy.2
  have h2 := xy_of (w := W) (y := y) hx.1 hx.2
  rw [Int.toNat_of_nonneg h1.1]
  exact ⟨h1.2, h2⟩

theorem grid_turn {W T : Int} (hW : 1 ≤ W) (hT : 1 ≤ T) {p q : Int → Int → Bool} {A : Int → Int → Prop} (hA : ∀ x y, A x y → A (-y) x)
    (hq : ∀ x y, 0 ≤ x → x < W → 0 ≤ y → y < T → q (T - 1 - y) x = p x y) : gparts W T p A = gparts T W q A := by
  have hN : ∀ x y, A x y → A (-x) (-y) := fun x y h => hA _ _ (hA _ _ h)
  have hA' : ∀ x y, A x y → A y (-x) := fun x y h => by
    have := hN _ _ (hA _ _ h); simpa using this
  have key : ∀ a, GP W T p a → GP T W q ((a : Int) % W * T + (T - 1 - (a : Int) / W)).toNat ∧ ((((a : Int) % W * T + (T - 1 - (a : Int) / W)).toNat : Int) % T = T - 1 - (a : Int) / W ∧ (((a : Int) % W * T + (T - 1 - (a : Int) / W)).toNat : Int) / T = (a : Int) % W) := by
    intro a ha
    obtain ⟨hx, hy, hxy⟩ := grid_xy hW ha.1
    have h := grid_of (W := T) (T := W) (x := T - 1 - (a : Int) / W) (y := (a : Int) % W) (by omega) hx
    exact ⟨⟨h.1, by rw [h.2.1, h.2.2, hq _ _ hx.1 hx.2 hy.1 hy.2]; exact ha.2⟩, h.2⟩
  have yek : ∀ b, GP T W q b → GP W T p ((T - 1 - (b : Int) % T) * W + (b : Int) / T).toNat ∧ ((((T - 1 - (b : Int) % T) * W + (b : Int) / T).toNat : Int) % W = (b : Int) / T ∧ (((T - 1 - (b : Int) % T) * W + (b : Int) / T).toNat : Int) / W = T - 1 - (b : Int) % T) := by
    intro b hb
    obtain ⟨hx, hy, hxy⟩ := grid_xy hT hb.1
    have h := grid_of (W := W) (T := T) (x := (b : Int) / T) (y := T - 1 - (b : Int) % T) hy (by omega)
    refine ⟨⟨h.1, ?_⟩, h.2⟩
    rw [h.2.1, h.2.2, ← hq _ _ hy.1 hy.2 (by omega) (by omega), show T - 1 - (T - 1 - (b : Int) % T) = (b : Int) % T by omega]
    exact hb.2
  refine num_carry (f := fun a => ((a : Int) % W * T + (T - 1 - (a : Int) / W)).toNat) (g := fun b => ((T - 1 - (b : Int) % T) * W + (b : Int) / T).toNat) (fun _ _ h => h.symm hN) (fun _ _ h => h.symm hN) (fun a h => by have := h.1; omega) (fun a h => by have := h.1; omega) ?_ ?_ ?_ ?_
  · intro a ha
    obtain ⟨k1, k2, k3⟩ := key a ha
    refine ⟨k1, ?_⟩
    simp only [k2, k3]
    have := (grid_xy hW ha.1).2.2
    rw [show T - 1 - (T - 1 - (a : Int) / W) = (a : Int) / W by omega]; omega
  · intro b hb
    obtain ⟨k1, k2, k3⟩ := yek b hb
    refine ⟨k1, ?_⟩
    simp only [k2, k3]
    have := (grid_xy hT hb.1).2.2
    rw [show T - 1 - (T - 1 - (b : Int) % T) = (b : Int) % T by omega]; omega
  · intro a b h
    obtain ⟨k1, k2, k3⟩ := key a h.1
    obtain ⟨j1, j2, j3⟩ := key b h.2.1
    refine ⟨h.1, h.2.1, k1, j1, ?_⟩
    rw [k2, k3, j2, j3]
    have := hA _ _ h.2.2
    rwa [show T - 1 - (b : Int) / W - (T - 1 - (a : Int) / W) = -((b : Int) / W - (a : Int) / W) by omega]
  · intro a b h
    obtain ⟨k1, k2, k3⟩ := yek a h.1
    obtain ⟨j1, j2, j3⟩ := yek b h.2.1
    refine ⟨h.1, h.2.1, k1, j1, ?_⟩
    rw [k2, k3, j2, j3]
    have := hA' _ _ h.2.2
    rwa [show T - 1 - (b : Int) % T - (T - 1 - (a : Int) % T) = -((b : Int) % T - (a : Int) % T) by omega]

theorem grid_flip {W T : Int} (hW : 1 ≤ W) {p q : Int → Int → Bool} {A : Int → Int → Prop} (hA : ∀ x y, A x y → A (-x) y) (hN : ∀ x y, A x y → A (-x) (-y))
    (hq : ∀ x y, 0 ≤ x → x < W → 0 ≤ y → y < T → q (W - 1 - x) y = p x y) : gparts W T p A = gparts W T q A := by
  have key : ∀ (p q : Int → Int → Bool), (∀ x y, 0 ≤ x → x < W → 0 ≤ y → y < T → q (W - 1 - x) y = p x y) → ∀ a, GP W T p a → GP W T q ((a : Int) / W * W + (W - 1 - (a : Int) % W)).toNat ∧ ((((a : Int) / W * W + (W - 1 - (a : Int) % W)).toNat : Int) % W = W - 1 - (a : Int) % W ∧ (((a : Int) / W * W + (W - 1 - (a : Int) % W)).toNat : Int) / W = (a : Int) / W) := by
    intro p q hq a ha
    obtain ⟨hx, hy, hxy⟩ := grid_xy hW ha.1
    have h := grid_of (W := W) (T := T) (x := W - 1 - (a : Int) % W) (y := (a : Int) / W) (by omega) hy
    exact ⟨⟨h.1, by rw [h.2.1, h.2.2, hq _ _ hx.1 hx.2 hy.1 hy.2]; exact ha.2⟩, h.2⟩
  have hp : ∀ x y, 0 ≤ x → x < W → 0 ≤ y → y < T → p (W - 1 - x) y = q x y := fun x y h1 h2 h3 h4 => by
    rw [← hq (W - 1 - x) y (by omega) (by omega) h3 h4, show W - 1 - (W - 1 - x) = x by omega]
  have step : ∀ (p q : Int → Int → Bool), (∀ x y, 0 ≤ x → x < W → 0 ≤ y → y < T → q (W - 1 - x) y = p x y) → ∀ a b, GE W T p A a b → GP W T p a ∧ GP W T p b ∧ GE W T q A ((a : Int) / W * W + (W - 1 - (a : Int) % W)).toNat ((b : Int) / W * W + (W - 1 - (b : Int) % W)).toNat := by
    intro p q hq a b h
    obtain ⟨k1, k2, k3⟩ := key p q hq a h.1
    obtain ⟨j1, j2, j3⟩ := key p q hq b h.2.1
    refine ⟨h.1, h.2.1, k1, j1, ?_⟩
    rw [k2, k3, j2, j3]
    have := hA _ _ h.2.2
    rwa [show W - 1 - (b : Int) % W - (W - 1 - (a : Int) % W) = -((b : Int) % W - (a : Int) % W) by omega]
  have back : ∀ (p q : Int → Int → Bool), (∀ x y, 0 ≤ x → x < W → 0 ≤ y → y < T → q (W - 1 - x) y = p x y) → ∀ a, GP W T p a → GP W T q ((a : Int) / W * W + (W - 1 - (a : Int) % W)).toNat ∧ (((((a : Int) / W * W + (W - 1 - (a : Int) % W)).toNat : Nat) : Int) / W * W + (W - 1 - ((((a : Int) / W * W + (W - 1 - (a : Int) % W)).toNat : Nat) : Int) % W)).toNat = a := by
    intro p q hq a ha
    obtain ⟨k1, k2, k3⟩ := key p q hq a ha
    refine ⟨k1, ?_⟩
    rw [k2, k3]
    have := (grid_xy hW ha.1).2.2
    rw [show W - 1 - (W - 1 - (a : Int) % W) = (a : Int) % W by omega]; omega
  exact num_carry (f := fun a => ((a : Int) / W * W + (W - 1 - (a : Int) % W)).toNat) (g := fun a => ((a : Int) / W * W + (W - 1 - (a : Int) % W)).toNat) (fun _ _ h => h.symm hN) (fun _ _ h => h.symm hN) (fun a h => by have := h.1; omega) (fun a h => by have := h.1; omega)
    (back p q hq) (back q p hp) (step p q hq) (step q p hp)

/-! ### the two kinds of neighbours -/
def A4 (x y : Int) : Prop := (x = 1 ∧ y = 0) ∨ (x = 0 ∧ y = 1) ∨ (x = -1 ∧ y = 0) ∨ (x = 0 ∧ y = -1)
def A8 (x y : Int) : Prop := (-1 ≤ x ∧ x ≤ 1) ∧ (-1 ≤ y ∧ y ≤ 1)
def Reg.pf (r : Reg) (x y : Int) : Bool := r.at_ x y
def Reg.ph (r : Reg) (x y : Int) : Bool := !r.at_ (x - 1) (y - 1)

theorem gp_f {r : Reg} (hv : r.valid = true) (k : Nat) : GP r.wide r.tall r.pf k ↔ r.f k = true := by
  obtain ⟨v1, v2, v3, _⟩ := Reg.valid_iff.1 hv
  constructor
  · intro h
    have := h.2
    unfold Reg.pf at this
    rwa [at_here hv (by have := h.1; omega)] at this
  · intro h
    have hl := f_lt h
    exact ⟨by omega, by unfold Reg.pf; rw [at_here hv hl]; exact h⟩
theorem ge_f {r : Reg} (hv : r.valid = true) : GE r.wide r.tall r.pf A4 = E4 r := by
  obtain ⟨v1, v2, v3, _⟩ := Reg.valid_iff.1 hv
  funext a b
  refine propext ⟨fun h => ?_, fun h => ?_⟩
  · refine ⟨(gp_f hv a).1 h.1, (gp_f hv b).1 h.2.1, ?_⟩
    obtain ⟨ax, ay, axy⟩ := grid_xy (by omega) h.1.1
    obtain ⟨bx, bY, bxy⟩ := grid_xy (by omega) h.2.1.1
    have hs := fun way h1 h4 => stepI_xy (r := r) (c := (a : Int)) (way := way) (by omega) (by omega) h.1.1 h1 h4
    rcases h.2.2 with ⟨e1, e2⟩ | ⟨e1, e2⟩ | ⟨e1, e2⟩ | ⟨e1, e2⟩
    · refine ⟨1, by omega, by omega, ?_⟩
      rw [hs 1 (by omega) (by omega), if_pos (by simp [dX, dY, inB]; omega), show (a : Int) / r.wide + dY 1 = (b : Int) / r.wide by simp [dY]; omega, show (a : Int) % r.wide + dX 1 = (b : Int) % r.wide by simp [dX]; omega]; omega
    · refine ⟨2, by omega, by omega, ?_⟩
      rw [hs 2 (by omega) (by omega), if_pos (by simp [dX, dY, inB]; omega), show (a : Int) / r.wide + dY 2 = (b : Int) / r.wide by simp [dY]; omega, show (a : Int) % r.wide + dX 2 = (b : Int) % r.wide by simp [dX]; omega]; omega
    · refine ⟨3, by omega, by omega, ?_⟩
      rw [hs 3 (by omega) (by omega), if_pos (by simp [dX, dY, inB]; omega), show (a : Int) / r.wide + dY 3 = (b : Int) / r.wide by simp [dY]; omega, show (a : Int) % r.wide + dX 3 = (b : Int) % r.wide by simp [dX]; omega]; omega
    · refine ⟨4, by omega, by omega, ?_⟩
      rw [hs 4 (by omega) (by omega), if_pos (by simp [dX, dY, inB]; omega), show (a : Int) / r.wide + dY 4 = (b : Int) / r.wide by simp [dY]; omega, show (a : Int) % r.wide + dX 4 = (b : Int) % r.wide by simp [dX]; omega]; omega
  · obtain ⟨h1, h2, way, w1, w4, hs⟩ := h
    have ha := f_lt h1
    rw [stepI_xy (r := r) (c := (a : Int)) (way := way) (by omega) (by omega) (by omega) w1 w4] at hs
    obtain ⟨ax, ay, axy⟩ := grid_xy (W := r.wide) (T := r.tall) (by omega) (k := a) (by omega)
    split at hs
    · rename_i hin
      simp only [Bool.and_eq_true, inB_iff] at hin
      have hb := xy_of (w := r.wide) (x := (a : Int) % r.wide + dX way) (y := (a : Int) / r.wide + dY way) (by omega) (by omega)
      rw [hs] at hb
      refine ⟨(gp_f hv a).2 h1, (gp_f hv b).2 h2, ?_⟩
      rw [hb.1, hb.2]
      have hw : way = 1 ∨ way = 2 ∨ way = 3 ∨ way = 4 := by omega
      rcases hw with rfl | rfl | rfl | rfl <;> simp [dX, dY, A4] <;> omega
    · omega
theorem parts_g {r : Reg} (hv : r.valid = true) : partCount r = gparts r.wide r.tall r.pf A4 := by
  obtain ⟨v1, v2, v3, _⟩ := Reg.valid_iff.1 hv
  unfold partCount gparts
  rw [ge_f hv, show (r.wide * r.tall).toNat = r.cells.length by omega]
  exact num_congr fun k _ => by rw [gp_f hv]
theorem gp_h {r : Reg} (hv : r.valid = true) (k : Nat) : GP (r.wide + 2) (r.tall + 2) r.ph k ↔ r.fr k = true := by
  obtain ⟨v1, v2, v3, _⟩ := Reg.valid_iff.1 hv
  have := n2_int (r := r) (by omega) (by omega)
  unfold GP Reg.ph Reg.fr
  rw [Bool.and_eq_true, decide_eq_true_eq]
  exact and_congr (by omega) Iff.rfl
theorem ge_h {r : Reg} (hv : r.valid = true) : GE (r.wide + 2) (r.tall + 2) r.ph A8 = E8 r := by
  funext a b
  unfold GE E8 A8
  rw [gp_h hv, gp_h hv]
  exact propext ⟨fun h => ⟨h.1, h.2.1, by omega⟩, fun h => ⟨h.1, h.2.1, by omega⟩⟩
theorem holes_g {r : Reg} (hv : r.valid = true) : rootsN (E8 r) r.fr r.n2 = gparts (r.wide + 2) (r.tall + 2) r.ph A8 := by
  unfold rootsN gparts Reg.n2
  rw [ge_h hv]
  exact num_congr fun k _ => by rw [gp_h hv]

theorem turn_at {r : Reg} (hv : r.valid = true) (x y : Int) : r.turn.at_ (r.tall - 1 - y) x = r.at_ x y := by
  obtain ⟨v1, v2, v3, _⟩ := Reg.valid_iff.1 hv
  unfold Reg.at_
  show (inB (r.tall - 1 - y) 0 (r.tall - 1) && inB x 0 (r.wide - 1) && r.turn.g (r.tall - 1 - y) x) = _
  rw [show inB (r.tall - 1 - y) 0 (r.tall - 1) = inB y 0 (r.tall - 1) by unfold inB; rw [Bool.eq_iff_iff]; simp only [Bool.and_eq_true, decide_eq_true_eq]; omega, Bool.and_comm (inB y 0 _)]
  cases hx : inB x 0 (r.wide - 1)
  · rfl
  · cases hy : inB y 0 (r.tall - 1)
    · rfl
    · rw [inB_iff] at hx hy
      simp only [Bool.true_and]
      rw [turn_g v3 (by omega) (by omega) hx.1 (by omega), show r.tall - 1 - (r.tall - 1 - y) = y by omega]
theorem mir_at {r : Reg} (hv : r.valid = true) (x y : Int) : r.mir.at_ (r.wide - 1 - x) y = r.at_ x y := by
  obtain ⟨v1, v2, v3, _⟩ := Reg.valid_iff.1 hv
  unfold Reg.at_
  show (inB (r.wide - 1 - x) 0 (r.wide - 1) && inB y 0 (r.tall - 1) && r.mir.g (r.wide - 1 - x) y) = _
  rw [show inB (r.wide - 1 - x) 0 (r.wide - 1) = inB x 0 (r.wide - 1) by unfold inB; rw [Bool.eq_iff_iff]; simp only [Bool.and_eq_true, decide_eq_true_eq]; omega]
  cases hx : inB x 0 (r.wide - 1)
  · rfl
  · cases hy : inB y 0 (r.tall - 1)
    · rfl
    · rw [inB_iff] at hx hy
      simp only [Bool.true_and]
      rw [mir_g v3 (by omega) (by omega) hy.1 (by omega), show r.wide - 1 - (r.wide - 1 - x) = x by omega]
theorem a4_turn (x y : Int) (h : A4 x y) : A4 (-y) x := by unfold A4 at *; omega
theorem a8_turn (x y : Int) (h : A8 x y) : A8 (-y) x := by unfold A8 at *; omega
theorem a4_flip (x y : Int) (h : A4 x y) : A4 (-x) y := by unfold A4 at *; omega
theorem a8_flip (x y : Int) (h : A8 x y) : A8 (-x) y := by unfold A8 at *; omega

theorem turn_parts {r : Reg} (hv : r.valid = true) : partCount r.turn = partCount r := by
  obtain ⟨v1, v2, v3, _⟩ := Reg.valid_iff.1 hv
  rw [parts_g hv, parts_g (turn_valid hv)]
  exact (grid_turn (W := r.wide) (T := r.tall) (q := r.turn.pf) (by omega) (by omega) a4_turn fun x y _ _ _ _ => turn_at hv x y).symm
theorem mir_parts {r : Reg} (hv : r.valid = true) : partCount r.mir = partCount r := by
  obtain ⟨v1, v2, v3, _⟩ := Reg.valid_iff.1 hv
  rw [parts_g hv, parts_g (mir_valid hv)]
  exact (grid_flip (W := r.wide) (T := r.tall) (q := r.mir.pf) (by omega) a4_flip (fun x y h => a4_turn _ _ (a4_turn _ _ h)) fun x y _ _ _ _ => mir_at hv x y).symm
theorem turn_pmany {r : Reg} (hv : r.valid = true) : r.turn.pmany = r.pmany := by
  unfold Reg.pmany; rw [if_pos hv, if_pos (turn_valid hv), turn_parts hv]
theorem turn_holes {r : Reg} (hv : r.valid = true) : r.turn.holes = r.holes := by
  obtain ⟨v1, v2, v3, _⟩ := Reg.valid_iff.1 hv
  unfold Reg.holes
  rw [holes_g hv, holes_g (turn_valid hv)]
  have := (grid_turn (W := r.wide + 2) (T := r.tall + 2) (p := r.ph) (q := r.turn.ph) (by omega) (by omega) a8_turn fun x y _ _ _ _ => by
    show (!r.turn.at_ (r.tall + 2 - 1 - y - 1) (x - 1)) = !r.at_ (x - 1) (y - 1)
    rw [← turn_at hv (x - 1) (y - 1), show r.tall - 1 - (y - 1) = r.tall + 2 - 1 - y - 1 by omega]).symm
  rw [show gparts (r.turn.wide + 2) (r.turn.tall + 2) r.turn.ph A8 = gparts (r.tall + 2) (r.wide + 2) r.turn.ph A8 from rfl, this]
theorem mir_holes {r : Reg} (hv : r.valid = true) : r.mir.holes = r.holes := by
  obtain ⟨v1, v2, v3, _⟩ := Reg.valid_iff.1 hv
  unfold Reg.holes
  rw [holes_g hv, holes_g (mir_valid hv)]
  have := (grid_flip (W := r.wide + 2) (T := r.tall + 2) (p := r.ph) (q := r.mir.ph) (by omega) a8_flip (fun x y h => a8_turn _ _ (a8_turn _ _ h)) fun x y _ _ _ _ => by
    show (!r.mir.at_ (r.wide + 2 - 1 - x - 1) (y - 1)) = !r.at_ (x - 1) (y - 1)
    rw [← mir_at hv (x - 1) (y - 1), show r.wide - 1 - (x - 1) = r.wide + 2 - 1 - x - 1 by omega]).symm
  rw [show gparts (r.mir.wide + 2) (r.mir.tall + 2) r.mir.ph A8 = gparts (r.wide + 2) (r.tall + 2) r.mir.ph A8 from rfl, this]
end Domi
