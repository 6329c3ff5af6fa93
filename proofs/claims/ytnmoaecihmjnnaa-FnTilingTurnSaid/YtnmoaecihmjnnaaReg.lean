/- Regions that draw their order: every operation up to number n gives one value in every world of a class, the others follow in one forced order. No program is named here. -/
import Derived.Test.YtnmoaecihmjnnaaMem
import Derived.StillTailTactics
import Derived.Deep.Quiet
namespace Domi
open Go Go.RowKit

section
variable {P : Program} {md : Region.Mode} {ops : Array Oper} {C : World → Prop}

/-- The first f steps, in whatever order: each is an operation before n, quiet in C; then L. -/
def Phase (P : Program) (md : Region.Mode) (ops : Array Oper) (C : World → Prop) (n : Nat) (L : Array Bool → Act → Prop) : Nat → Array Bool → Act → Prop
  | 0, listed, a => L listed a
  | f + 1, listed, a => Region.ready md ops listed ≠ [] ∧ ∀ i ∈ Region.ready md ops listed, i < n ∧ qOp P ops C i (Phase P md ops C n L f (listed.setIfInBounds i true)) a

/-- Phase leads to wpAny. -/
theorem Phase.run {n g : Nat} {L : Array Bool → Act → Prop} {R : Exit → Act → World → Prop} (hL : ∀ listed a w, C w → L listed a → wpAny P md ops R g listed a w) :
    ∀ (f : Nat) (listed : Array Bool) (a : Act) (w : World), C w → Phase P md ops C n L f listed a → wpAny P md ops R (f + g) listed a w := by
  intro f
  induction f with
  | zero => intro listed a w hw h; rw [Nat.zero_add]; exact hL _ _ _ hw h
  | succ f ih =>
    intro listed a w hw h
    rw [Nat.add_right_comm]
    exact ⟨fun e => absurd e h.1, fun i hi => wpOp_of_qOp hw (fun a' w' hw' hp => ih _ a' w' hw' hp) (h.2 i hi).2⟩

/-- An operation that is ready and apart from all that is open may be taken ahead. -/
theorem Phase.take {n i : Nat} {o : Oper} {v : Value} {L : Array Bool → Act → Prop} (ho : ops[i]? = some o) (hsel : ∀ (j : Nat) (o : Oper) cs b, ops[j]? = some o → o.op ≠ .select cs b)
    (hs : Region.sinkB md ops n = true) (hc : Region.chainB md ops n = true) (hn : n < ops.size) (hin : i < n)
    (hdone : ∀ listed a, L listed a → ∀ j ∈ Region.ready md ops listed, n ≤ j) :
    ∀ (f : Nat) (listed : Array Bool) (a : Act), HeadInv md ops n listed →
      (∀ j oj, ops[j]? = some oj → j ≠ i → listed.getD j true = false → (∀ e ∈ oj.after, Region.binds md e = true → e.on ≠ i) → o.apart ops oj = true) →
      i ∈ Region.ready md ops listed → YieldsIn P ops C o v a →
      Phase P md ops C n L f (listed.setIfInBounds i true) (a.put o.dst v) → Phase P md ops C n L (f + 1) listed a := by
  intro f
  induction f with
  | zero =>
    intro listed a inv _ hr hy H
    have hopen := (mem_ready.1 hr).1
    refine ⟨List.ne_nil_of_mem hr, fun j hj => ?_⟩
    have hjn : j < n := Nat.lt_of_not_le fun h => tail_waits hs hc hn inv _ i rfl hin hopen j h hj
    by_cases e : j = i
    · subst e; exact ⟨hjn, hy.qOp ho H⟩
    · have := hdone _ _ H j (ready_mono hj e); omega
  | succ f ih =>
    intro listed a inv hfree hr hy H
    have hopen := (mem_ready.1 hr).1
    refine ⟨List.ne_nil_of_mem hr, fun j hj => ?_⟩
    have hjn : j < n := Nat.lt_of_not_le fun h => tail_waits hs hc hn inv _ i rfl hin hopen j h hj
    refine ⟨hjn, ?_⟩
    by_cases e : j = i
    · subst e; exact hy.qOp ho H
    · obtain ⟨jopen, oj, hoj, hall⟩ := mem_ready.1 hj
      have hnot : ∀ x ∈ oj.after, Region.binds md x = true → x.on ≠ i := fun x hx hb hxi => by
        have := hall x hx hb
        rw [hxi, getD_both hopen] at this
        cases this
      have h2 := qOp_put hoj (hfree j oj hoj e jopen hnot) (fun cs b => hsel i o cs b ho) (fun cs b => hsel j oj cs b hoj) hy (H.2 j (ready_mono hj e)).2
      refine qOp_mono (fun a' h3 => ih (listed.setIfInBounds j true) a' (inv.set hj hjn) (fun k ok hk hki hun hno => ?_) (ready_mono hr (Ne.symm e)) h3.1 ?_) h2
      · refine hfree k ok hk hki ?_ hno
        by_cases hjk : j = k
        · subst hjk; exact jopen
        · rwa [getD_set_ne true hjk] at hun
      · rw [Array.setIfInBounds_comm _ _ e]; exact h3.2

/-- In the text's order. -/
theorem Phase.text {n g : Nat} {Lq : Act → Prop} (hsel : Region.noSelect ops = true) (hs : Region.sinkB md ops n = true) (hc : Region.chainB md ops n = true) (hn : n < ops.size) (l : List Oper) :
    ∀ (k : Nat) (listed : Array Bool) (a : Act), (∀ j, j < l.length → l[j]? = ops[k + j]?) → k + l.length = n → HeadInv md ops n listed →
    Region.lexHead md ops g l.length k listed = true → wpQuiet P ops C Lq l a → Phase P md ops C n (fun d a' => Region.seqB md ops g n d = true ∧ Lq a') l.length listed a := by
  induction l with
  | nil =>
    intro k listed a _ hk _ hB h
    obtain rfl : k = n := by simpa using hk
    exact ⟨by simpa [Region.lexHead] using hB, h⟩
  | cons o l ih =>
    intro k listed a hl hk inv hB h
    have h0 : ops[k]? = some o := by simpa using (hl 0 (by simp)).symm
    simp only [List.length_cons, Region.lexHead, Bool.and_eq_true] at hB
    have hkn : k < n := by simp only [List.length_cons] at hk; omega
    have hr : k ∈ Region.ready md ops listed := by simpa using hB.1.1
    have hq : qOp P ops C k (wpQuiet P ops C Lq l) a := by unfold qOp; simp only [h0]; exact h
    obtain ⟨v, hy, hK⟩ := yieldsIn_of_qOp h0 hq
    refine Phase.take h0 (Region.noSelect_spec hsel) hs hc hn hkn (fun d a' hL => seqB_ready hL.1) l.length listed a inv (Region.free_spec h0 hB.1.2) hr hy ?_
    exact ih (k + 1) _ _ (fun j hj => by have := hl (j + 1) (by simp; omega); simpa [Nat.add_assoc, Nat.add_comm 1 j] using this) (by simp only [List.length_cons] at hk; omega) (inv.set hr hkn) hB.2 hK

/-- The region: the first n operations quiet in C, in the text's order; the others one after the other, in any world of C. -/
theorem wp_region_phase {id : Nat} {Q : Exit → Act → World → Prop} {a : Act} {w : World} {l : List Oper} (n : Nat) (hm : P.follows .mixedOrders = true) (hB : Region.lexTailB .any l.toArray n = true) (hC : C w.drew)
    (h : wpQuiet P l.toArray C (fun a' => ∀ w', C w' → wpList P l.toArray Q (l.drop n) a' w') (l.take n) a) : (Code.region id l.toArray true).wp P Q a w := by
  simp only [Region.lexTailB, Bool.and_eq_true, decide_eq_true_eq] at hB
  obtain ⟨⟨⟨⟨hsel, hn⟩, hs⟩, hc⟩, hlex⟩ := hB
  have hn' : n < l.length := by simpa using hn
  have htl : (l.take n).length = n := by simp; omega
  have hdl : (l.drop n).length = l.toArray.size - n := by simp
  have inv0 : HeadInv .any l.toArray n (Array.replicate l.toArray.size false) :=
    ⟨by simp, fun j oj _ hl => (by rw [getD_replicate_false] at hl; cases hl), fun t _ ht => getD_in (by simpa using ht) (getD_replicate_false _ _)⟩
  have H := Phase.text (md := .any) (g := l.toArray.size - n) hsel hs hc hn (l.take n) 0 _ a (fun j hj => by
    have hj' : j < n := by rw [htl] at hj; exact hj
    simp [hj']) (by simpa using htl) inv0 (by rw [htl]; exact hlex) h
  refine wp_region_any hm ?_
  have := Phase.run (R := Q) (g := l.toArray.size - n) (fun listed a' w' hw hL => by
    have := wpAny_of_seq (md := .any) (Q' := Q) (l.drop n) n listed a' w' (fun j => by simp [List.getElem?_drop]) (by rw [hdl]; exact hL.1) (hL.2 w' hw)
    rwa [hdl] at this) _ _ _ _ hC H
  rw [htl, show n + (l.toArray.size - n) = l.toArray.size by omega] at this
  exact this
end

/-- A world in which nothing of w's has turned. -/
structure Later (w : World) where
  x : World
  h : Below w.heap.size w x
def Later.now (w : World) : Later w := ⟨w, Below.refl _ _⟩
instance later_is (w : World) : Nonempty (Later w) := ⟨Later.now w⟩
theorem Later.cell {w : World} (L : Later w) (b o : Nat) (h : b < w.heap.size) : L.x.cell? ⟨b, o, none⟩ = w.cell? ⟨b, o, none⟩ := L.h.cell (p := ⟨b, o, none⟩) h
theorem Later.frozen {w : World} (L : Later w) (b o : Nat) (h : b < w.heap.size) : L.x.frozen? ⟨b, o, none⟩ = w.frozen? ⟨b, o, none⟩ := L.h.frozen (p := ⟨b, o, none⟩) h
theorem Later.block {w : World} (L : Later w) {b : Nat} {o : Obj} (h : w.heap[b]? = some o) : L.x.heap[b]? = some o := by rw [L.h.block b (lt_of_heap h)]; exact h
def Later.on {w : World} (L : Later w) {y : World} (h : Below L.x.heap.size L.x y) : Later w := ⟨y, L.h.trans (h.mono L.h.size)⟩

section
variable {P : Program} {id : Nat} {Q : Exit → Act → World → Prop} {a : Act} {w : World} {l : List Oper}
theorem wp_region_later (n : Nat) (hm : P.follows .mixedOrders = true) (hB : Region.lexTailB .any l.toArray n = true)
    (h : wpQuiet P l.toArray (fun x => ∃ L : Later w, x = L.x) (fun a' => ∀ L : Later w, wpList P l.toArray Q (l.drop n) a' L.x) (l.take n) a) : (Code.region id l.toArray true).wp P Q a w := by
  refine wp_region_phase (C := fun x => ∃ L : Later w, x = L.x) n hm hB ⟨⟨w.drew, (Below.refl _ _).drew⟩, rfl⟩ ?_
  have e : (fun a' : Act => ∀ w', (∃ L : Later w, w' = L.x) → wpList P l.toArray Q (l.drop n) a' w') = (fun a' : Act => ∀ L : Later w, wpList P l.toArray Q (l.drop n) a' L.x) := by
    funext a'; exact propext ⟨fun h L => h _ ⟨L, rfl⟩, fun h w' ⟨L, hL⟩ => hL ▸ h L⟩
  rw [e]; exact h
theorem wp_region_later_all (hm : P.follows .mixedOrders = true) (hB : Region.lexB .any l.toArray = true)
    (h : wpQuiet P l.toArray (fun x => ∃ L : Later w, x = L.x) (fun a' => ∀ L : Later w, Q .normal a' L.x) l a) : (Code.region id l.toArray true).wp P Q a w := by
  refine wp_region_quiet (C := fun x => ∃ L : Later w, x = L.x) hm hB ⟨⟨w.drew, (Below.refl _ _).drew⟩, rfl⟩ ?_
  have e : (fun a' : Act => ∀ w', (∃ L : Later w, w' = L.x) → Q .normal a' w') = (fun a' : Act => ∀ L : Later w, Q .normal a' L.x) := by
    funext a'; exact propext ⟨fun h L => h _ ⟨L, rfl⟩, fun h w' ⟨L, hL⟩ => hL ▸ h L⟩
  rw [e]; exact h
/-- A callee that makes memory and gives one value. -/
theorem calls_later {f : FuncId} {args : Array Value} {v : Value} (L : Later w) (h : Calls P f args L.x fun e w' => e = .returned v ∧ Below L.x.heap.size L.x w') :
    Calls P f args L.x fun e w' => e = .returned v ∧ ∃ K : Later w, w' = K.x :=
  h.mono fun _ w' ⟨he, hb⟩ => ⟨he, L.on hb, rfl⟩
end

end Domi
