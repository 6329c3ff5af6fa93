/- Regions that draw their order, with one operation that makes memory ahead of the forced tail. No program is named here. -/
import Derived.Test.YtnmoaecihmjnnaaReg
import Derived.OrdersHeld
namespace Domi
open Go Go.RowKit

section
variable {P : Program} {md : Region.Mode} {ops : Array Oper}

/-- No panic. -/
def NoQ : Exit → Act → World → Prop := fun _ _ _ => False

theorem wp_noQ {o : Oper} {a : Act} {w : World} {K : Act → World → Prop} {Q : Exit → Act → World → Prop} (h : o.wp P a w K NoQ) : o.wp P a w K Q := by
  unfold Oper.wp at *
  generalize (execOp a.eval o).run P w = r at *
  cases r with
  | ok n w' =>
    cases n <;> simp only [Oper.upon] at h ⊢ <;>
      first
        | exact h
        | exact Calls.mono h (fun e w'' he => by cases e <;> first | exact he | exact absurd he id | (obtain ⟨_, _, h0⟩ := he; exact absurd h0 id))
        | exact absurd h id
  | halt x w' => cases x <;> simp only [Oper.upon] at h ⊢ <;> first | exact h | exact absurd h id

theorem wpOp_noQ {i : Nat} {a : Act} {w : World} {K : Act → World → Prop} {Q : Exit → Act → World → Prop} (h : wpOp P ops NoQ i K a w) : wpOp P ops Q i K a w := by
  unfold wpOp at *
  split
  · simpa [*] using h
  · rename_i o ho
    simp only [ho] at h
    split
    · rename_i hw
      simp only [hw, if_true] at h
      rcases h with h | ⟨_, _, _, h⟩
      · exact .inl (wp_noQ h)
      · exact absurd h id
    · rename_i hw; simp only [hw] at h; exact h

/-- Operations that read, or reckon: they give a value or do not come through. -/
def readsB : Op → Bool
  | .move _ | .assign _ | .pick .. | .load .. | .binOp .. | .unOp .. | .fieldAddr .. | .indexAddr .. => true
  | _ => false
theorem reads_run {o : Oper} {e : Operand → Value} {w w' : World} {n : Next} (h : readsB o.op = true) (hr : (execOp e o).run P w = .ok n w') : ∃ u, n = .value u := by
  by_cases hp : ∃ c x y, o.op = .pick c x y
  · obtain ⟨c, x, y, ho⟩ := hp
    simp only [execOp, ho, Sem.run_bind, Sem.run_pure] at hr
    cases hb : (asBool (e c)).run P w with
    | ok b w2 => simp only [hb, Result.andThen] at hr; cases hr; exact ⟨_, rfl⟩
    | halt q w2 => simp only [hb, Result.andThen] at hr; cases hr
  · obtain ⟨m, hm⟩ : ∃ m : Sem Value, execOp e o = (do pure (Next.value (← m))) := by
      unfold execOp
      cases ho : o.op <;> simp only [ho, readsB, Bool.false_eq_true] at h ⊢ <;> first | exact ⟨_, rfl⟩ | exact ⟨pure _, rfl⟩ | exact absurd ⟨_, _, _, ho⟩ hp
    rw [hm] at hr
    simp only [Sem.run_bind, Sem.run_pure] at hr
    cases hb : m.run P w with
    | ok b w2 => simp only [hb, Result.andThen] at hr; cases hr; exact ⟨_, rfl⟩
    | halt q w2 => simp only [hb, Result.andThen] at hr; cases hr
theorem reads_if {C : World → Prop} {o : Oper} {v : Value} {a : Act} (h : readsB o.op = true) (hy : YieldsIn P ops C o v a) : YieldsIf P ops C o v a := by
  rcases hy with ⟨hw, hv⟩ | hy
  · refine .inl ⟨hw, fun w hC => ?_⟩
    have := hv w hC
    unfold Oper.quietAt at this
    cases hr : (execOp a.eval o).run P w with
    | ok n w' =>
      obtain ⟨u, rfl⟩ := reads_run h hr
      rw [hr] at this
      simp only [Oper.quietUpon] at this
      rw [this.1, this.2]
    | halt x w' => rw [hr] at this; exact absurd this id
  · exact .inr hy

/-- A later world of a later world. -/
def Later.then_ {w : World} (T : Later w) (U : Later T.x) : Later w := ⟨U.x, T.h.trans (U.h.mono T.h.size)⟩

/-- The first f steps, in whatever order, each before n, and nothing old turns; then L. -/
def PhaseW (P : Program) (md : Region.Mode) (ops : Array Oper) (n : Nat) (L : Array Bool → Act → World → Prop) : Nat → Array Bool → Act → World → Prop
  | 0, d, a, w => L d a w
  | f + 1, d, a, w => Region.ready md ops d ≠ [] ∧ ∀ i ∈ Region.ready md ops d, i < n ∧ ∀ T : Later w, wpOp P ops NoQ i (fun a' w' => (∃ U : Later T.x, w' = U.x) ∧ PhaseW P md ops n L f (d.setIfInBounds i true) a' w') a T.x

variable {n : Nat} {L : Array Bool → Act → World → Prop}
theorem PhaseW.later (hL : ∀ d a w, L d a w → ∀ T : Later w, L d a T.x) (f : Nat) {d : Array Bool} {a : Act} {w : World} (h : PhaseW P md ops n L f d a w) (T : Later w) : PhaseW P md ops n L f d a T.x := by
  cases f with
  | zero => exact hL _ _ _ h T
  | succ f => exact ⟨h.1, fun i hi => ⟨(h.2 i hi).1, fun U => (h.2 i hi).2 (T.then_ U)⟩⟩

theorem PhaseW.run {g : Nat} {R : Exit → Act → World → Prop} (hL : ∀ d a w, L d a w → wpAny P md ops R g d a w) :
    ∀ (f : Nat) (d : Array Bool) (a : Act) (w : World), PhaseW P md ops n L f d a w → wpAny P md ops R (f + g) d a w := by
  intro f
  induction f with
  | zero => intro d a w h; rw [Nat.zero_add]; exact hL _ _ _ h
  | succ f ih =>
    intro d a w h
    rw [Nat.add_right_comm]
    exact ⟨fun e => absurd e h.1, fun i hi => wpOp_mono (fun a' w' hp => ih _ a' w' hp.2) (wpOp_noQ ((h.2 i hi).2 (Later.now w)))⟩

theorem PhaseW.take {i : Nat} {o : Oper} {v : Value} (ho : ops[i]? = some o) (hsel : ∀ (j : Nat) (o : Oper) cs b, ops[j]? = some o → o.op ≠ .select cs b)
    (hs : Region.sinkB md ops n = true) (hc : Region.chainB md ops n = true) (hn : n < ops.size) (hin : i < n)
    (hLm : ∀ d a w, L d a w → ∀ T : Later w, L d a T.x) (hdone : ∀ d a w, L d a w → ∀ j ∈ Region.ready md ops d, n ≤ j) :
    ∀ (f : Nat) (d : Array Bool) (a : Act) (w : World), HeadInv md ops n d →
      (∀ j oj, ops[j]? = some oj → j ≠ i → d.getD j true = false → (∀ e ∈ oj.after, Region.binds md e = true → e.on ≠ i) → o.apart ops oj = true) →
      i ∈ Region.ready md ops d → YieldsIf P ops (fun x => ∃ T : Later w, x = T.x) o v a →
      PhaseW P md ops n L f (d.setIfInBounds i true) (a.put o.dst v) w → PhaseW P md ops n L (f + 1) d a w := by
  intro f
  have now : ∀ (f : Nat) (d : Array Bool) (a : Act) (w : World), YieldsIf P ops (fun x => ∃ T : Later w, x = T.x) o v a → PhaseW P md ops n L f (d.setIfInBounds i true) (a.put o.dst v) w →
      ∀ T : Later w, wpOp P ops NoQ i (fun a' w' => (∃ U : Later T.x, w' = U.x) ∧ PhaseW P md ops n L f (d.setIfInBounds i true) a' w') a T.x :=
    fun f d a w hy H T => YieldsIf.wpOp ho hy ⟨T, rfl⟩ ⟨⟨Later.now _, rfl⟩, PhaseW.later hLm f H T⟩
  induction f with
  | zero =>
    intro d a w inv _ hr hy H
    have hopen := (mem_ready.1 hr).1
    refine ⟨List.ne_nil_of_mem hr, fun j hj => ?_⟩
    have hjn : j < n := Nat.lt_of_not_le fun h => tail_waits hs hc hn inv _ i rfl hin hopen j h hj
    by_cases e : j = i
    · subst e; exact ⟨hjn, now _ _ _ _ hy H⟩
    · have := hdone _ _ _ H j (ready_mono hj e); omega
  | succ f ih =>
    intro d a w inv hfree hr hy H
    have hopen := (mem_ready.1 hr).1
    refine ⟨List.ne_nil_of_mem hr, fun j hj => ?_⟩
    have hjn : j < n := Nat.lt_of_not_le fun h => tail_waits hs hc hn inv _ i rfl hin hopen j h hj
    refine ⟨hjn, ?_⟩
    by_cases e : j = i
    · subst e; exact now _ _ _ _ hy H
    · obtain ⟨jopen, oj, hoj, hall⟩ := mem_ready.1 hj
      have hnot : ∀ x ∈ oj.after, Region.binds md x = true → x.on ≠ i := fun x hx hb hxi => by
        have := hall x hx hb
        rw [hxi, getD_both hopen] at this
        cases this
      intro T
      have hyT : YieldsIf P ops (fun x => ∃ U : Later w, x = U.x) o v a := hy
      have h2 := wpOp_putIf hoj (hfree j oj hoj e jopen hnot) (fun cs b => hsel i o cs b ho) (fun cs b => hsel j oj cs b hoj) (fun _ _ _ h => absurd h id) hyT ((H.2 j (ready_mono hj e)).2 T)
      refine wpOp_mono (fun a' w' ⟨hy', ⟨U, hU⟩, h3⟩ => ⟨⟨U, hU⟩, ih (d.setIfInBounds j true) a' w' (inv.set hj hjn) (fun k ok hk hki hun hno => ?_) (ready_mono hr (Ne.symm e)) ?_ ?_⟩) h2
      · refine hfree k ok hk hki ?_ hno
        by_cases hjk : j = k
        · subst hjk; exact jopen
        · rwa [getD_set_ne true hjk] at hun
      · subst hU
        exact hy'.imp (fun ⟨q1, q2⟩ => ⟨q1, fun x ⟨V, hV⟩ => q2 x ⟨(T.then_ U).then_ V, hV⟩⟩) id
      · rw [Array.setIfInBounds_comm _ _ e]; exact h3

/-- In the text's order: reads, then one operation more. -/
theorem PhaseW.text {g : Nat} {Lq : Act → World → Prop} {w0 : World} (hsel : Region.noSelect ops = true) (hs : Region.sinkB md ops n = true) (hc : Region.chainB md ops n = true) (hn : n < ops.size)
    (hLq : ∀ a w, Lq a w → ∀ T : Later w, Lq a T.x) (l : List Oper) (hl2 : ∀ o ∈ l, readsB o.op = true) :
    ∀ (k : Nat) (listed : Array Bool) (a : Act), (∀ j, j < l.length → l[j]? = ops[k + j]?) → k + l.length + 1 = n → HeadInv md ops n listed → (∀ j, j < k → listed.getD j false = true) →
    Region.lexHead md ops g (l.length + 1) k listed = true →
    wpQuiet P ops (fun x => ∃ T : Later w0, x = T.x) (fun a' => ∀ T : Later w0, wpOp P ops NoQ (k + l.length) (fun a'' w'' => (∃ U : Later T.x, w'' = U.x) ∧ Lq a'' w'') a' T.x) l a →
    PhaseW P md ops n (fun d a' w' => Region.seqB md ops g n d = true ∧ Lq a' w') (l.length + 1) listed a w0 := by
  induction l with
  | nil =>
    intro k listed a _ hk inv hb hB h
    simp only [List.length_nil, Nat.add_zero, Nat.zero_add] at hk hB h
    simp only [Region.lexHead, Bool.and_eq_true] at hB
    have hr : k ∈ Region.ready md ops listed := by simpa using hB.1.1
    refine ⟨List.ne_nil_of_mem hr, fun j hj => ?_⟩
    have hjn : j < n := Nat.lt_of_not_le fun h => tail_waits hs hc hn inv _ k rfl (by omega) (mem_ready.1 hr).1 j h hj
    have hjk : j = k := by
      rcases Nat.lt_or_ge j k with h1 | h1
      · have := hb j h1
        have h2 := getD_both (mem_ready.1 hj).1
        rw [this] at h2; cases h2
      · omega
    subst hjk
    exact ⟨hjn, fun T => wpOp_mono (fun a' w' ⟨h1, h2⟩ => ⟨h1, hk ▸ hB.2, h2⟩) (h T)⟩
  | cons o l ih =>
    intro k listed a hl hk inv hb hB h
    have h0 : ops[k]? = some o := by simpa using (hl 0 (by simp)).symm
    simp only [List.length_cons] at hk hB
    rw [Region.lexHead] at hB
    simp only [Bool.and_eq_true] at hB
    have hkn : k < n := by omega
    have hr : k ∈ Region.ready md ops listed := by simpa using hB.1.1
    have hq : qOp P ops (fun x => ∃ T : Later w0, x = T.x) k (wpQuiet P ops (fun x => ∃ T : Later w0, x = T.x) (fun a' => ∀ T : Later w0, wpOp P ops NoQ (k + (l.length + 1)) (fun a'' w'' => (∃ U : Later T.x, w'' = U.x) ∧ Lq a'' w'') a' T.x) l) a := by unfold qOp; simp only [h0]; exact h
    obtain ⟨v, hy, hK⟩ := yieldsIn_of_qOp h0 hq
    refine PhaseW.take h0 (Region.noSelect_spec hsel) hs hc hn hkn (fun d a' w' hL T => ⟨hL.1, hLq _ _ hL.2 T⟩) (fun d a' w' hL => seqB_ready hL.1) (l.length + 1) listed a w0 inv (Region.free_spec h0 hB.1.2) hr (reads_if (hl2 o (by simp)) hy) ?_
    refine ih (fun o ho => hl2 o (by simp [ho])) (k + 1) _ _ (fun j hj => by have := hl (j + 1) (by simp; omega); simpa [Nat.add_assoc, Nat.add_comm 1 j] using this) (by omega) (inv.set hr hkn) (fun j hj => ?_) hB.2 ?_
    · by_cases e : k = j
      · subst e
        have : k < listed.size := by rw [inv.size]; omega
        simp [Array.getD_eq_getD_getElem?, this]
      · have := hb j (by omega)
        exact getD_set_true this
    · rw [show k + 1 + l.length = k + (l.length + 1) by omega]; exact hK

end

section
variable {P : Program} {id : Nat} {Q : Exit → Act → World → Prop} {a : Act} {w : World} {l : List Oper}
/-- The region: n reads, in the text's order, in whatever world nothing old has turned; then an operation that leaves what was there; then the others one after the other. -/
theorem wp_region_build (n : Nat) (hm : P.follows .mixedOrders = true) (hB : Region.lexTailB .any l.toArray (n + 1) = true) (hrd : ((l.take n).all fun o => readsB o.op) = true)
    (h : wpQuiet P l.toArray (fun x => ∃ T : Later w.drew, x = T.x) (fun a' => ∀ T : Later w.drew, wpOp P l.toArray NoQ n (fun a'' w'' => (∃ U : Later T.x, w'' = U.x) ∧ ∀ V : Later w'', wpList P l.toArray Q (l.drop (n + 1)) a'' V.x) a' T.x) (l.take n) a) :
    (Code.region id l.toArray true).wp P Q a w := by
  simp only [Region.lexTailB, Bool.and_eq_true, decide_eq_true_eq] at hB
  obtain ⟨⟨⟨⟨hsel, hn⟩, hs⟩, hc⟩, hlex⟩ := hB
  have hn' : n + 1 < l.length := by simpa using hn
  have htl : (l.take n).length = n := by simp; omega
  have hdl : (l.drop (n + 1)).length = l.toArray.size - (n + 1) := by simp
  have inv0 : HeadInv .any l.toArray (n + 1) (Array.replicate l.toArray.size false) :=
    ⟨by simp, fun j oj _ hl => (by rw [getD_replicate_false] at hl; cases hl), fun t _ ht => getD_in (by simpa using ht) (getD_replicate_false _ _)⟩
  have H := PhaseW.text (md := .any) (n := n + 1) (g := l.toArray.size - (n + 1)) (Lq := fun a'' w'' => ∀ V : Later w'', wpList P l.toArray Q (l.drop (n + 1)) a'' V.x) (w0 := w.drew) hsel hs hc hn
    (fun a w h T V => h (T.then_ V)) (l.take n) (fun o ho => List.all_eq_true.1 hrd o ho) 0 _ a (fun j hj => by
    have hj' : j < n := by rw [htl] at hj; exact hj
    simp [hj']) (by rw [htl]; omega) inv0 (fun j hj => by omega) (by rw [htl]; exact hlex) (by rw [htl, Nat.zero_add]; exact h)
  refine wp_region_any hm ?_
  have := PhaseW.run (R := Q) (g := l.toArray.size - (n + 1)) (fun listed a' w' hL => by
    have := wpAny_of_seq (md := .any) (Q' := Q) (l.drop (n + 1)) (n + 1) listed a' w' (fun j => by simp [List.getElem?_drop]) (by rw [hdl]; exact hL.1) (hL.2 (Later.now w'))
    rwa [hdl] at this) _ _ _ _ H
  rw [htl, show n + 1 + (l.toArray.size - (n + 1)) = l.toArray.size by omega] at this
  exact this
end

end Domi
