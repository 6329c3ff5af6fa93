/- Plain words and laws on memory, regions and dominoes, of several texts. -/
import Derived.Test.YtklifibiadiinaaDoorZa

/- Regions in whatever order, by facts of what each operation yields: every operation is looked at by itself. No program is named here. -/
set_option linter.unusedVariables false
namespace Domi
open Go Go.RowKit

section
variable {P : Program} {id : Nat} {Q : Exit → Act → World → Prop} {l : List Oper}

theorem ready_none {ops : Array Oper} {listed : Array Bool} (hs : listed.size = ops.size) (hlex : ∀ (i : Nat) (o : Oper), ops[i]? = some o → ∀ e ∈ o.after, Region.binds .any e = true → e.on < i) (h : Region.ready .any ops listed = []) : ∀ i, i < ops.size → listed.getD i false = true := by
  intro i
  induction i using Nat.strongRecOn with
  | _ i ih =>
    intro hi
    cases hd : listed.getD i false
    · have : i ∈ Region.ready .any ops listed := mem_ready.2 ⟨getD_in (by omega) hd, ops[i], by simp [hi], fun e he hbd => by
        have hl := hlex i _ (by simp [hi]) e he hbd
        exact ih _ hl (by omega)⟩
      rw [h] at this; cases this
    · rfl

theorem wp_region_inv (J : (Nat → Bool) → Act → World → Prop) {a : Act} {w : World} (hm : P.follows .mixedOrders = true) (hlex : ∀ (i : Nat) (o : Oper), l[i]? = some o → ∀ e ∈ o.after, Region.binds .any e = true → e.on < i)
    (h0 : J (fun _ => false) a w.drew)
    (hstep : ∀ (i : Nat) (o : Oper) (D : Nat → Bool) (a : Act) (w : World), l[i]? = some o → J D a w → D i = false → (∀ e ∈ o.after, Region.binds .any e = true → D e.on = true) → wpOp P l.toArray Q i (J fun j => D j || j == i) a w)
    (hend : ∀ D a w, J D a w → (∀ i, i < l.length → D i = true) → Q .normal a w) : (Code.region id l.toArray true).wp P Q a w := by
  refine wp_region_any hm ?_
  have key : ∀ (f : Nat) (listed : Array Bool) (a : Act) (w : World), listed.size = l.length → num l.length (fun i => listed.getD i false = false) ≤ f → J (fun i => listed.getD i false) a w → wpAny P .any l.toArray Q f listed a w := by
    intro f
    induction f with
    | zero =>
      intro listed a w hs hn hJ
      have hall : ∀ i, i < l.length → listed.getD i false = true := fun i hi => by
        cases hd : listed.getD i false
        · have := num_lt (n := l.length) (Q := fun _ => False) (R := fun i => listed.getD i false = false) (fun _ _ h => h.elim) hi (fun h => h) hd
          omega
        · rfl
      refine ⟨?_, hend _ _ _ hJ hall⟩
      unfold Region.ready
      rw [List.filter_eq_nil_iff]
      intro i hi
      rw [List.mem_range] at hi
      have h1 := hall i (by simpa using hi)
      have h2 : listed.getD i true = true := by
        cases h3 : listed.getD i true
        · rw [getD_both h3] at h1; cases h1
        · rfl
      simp only [h2, Bool.not_true, Bool.false_and]; simp
    | succ f ih =>
      intro listed a w hs hn hJ
      refine ⟨fun hr => ?_, fun i hi => ?_⟩
      · exact hend _ _ _ hJ fun i hi => ready_none (by simpa using hs) (by simpa using hlex) hr i (by simpa using hi)
      · obtain ⟨h1, o, ho, hall⟩ := mem_ready.1 hi
        have hil : i < l.length := by
          have := (Array.getElem?_eq_some_iff.1 ho).1
          simpa using this
        refine wpOp_mono (fun a' w' hJ' => ih _ a' w' (by simpa using hs) ?_ ?_) (hstep i o _ a w (by simpa using ho) hJ (getD_both h1) hall)
        · have := num_lt (n := l.length) (Q := fun j => (listed.setIfInBounds i true).getD j false = false) (R := fun j => listed.getD j false = false) (fun j _ hj => by
            by_cases e : i = j
            · subst e; rw [Array.getD_eq_getD_getElem?, Array.getElem?_setIfInBounds_self_of_lt (by omega)] at hj; simp at hj
            · rw [getD_set_ne false e] at hj; exact hj) hil (by rw [Array.getD_eq_getD_getElem?, Array.getElem?_setIfInBounds_self_of_lt (by omega)]; simp) (getD_both h1)
          omega
        · have e : (fun j => (listed.setIfInBounds i true).getD j false) = fun j => listed.getD j false || j == i := by
            funext j
            by_cases e : i = j
            · subst e; rw [Array.getD_eq_getD_getElem?, Array.getElem?_setIfInBounds_self_of_lt (by omega)]; simp
            · rw [getD_set_ne false e]
              have : (j == i) = false := by simp; omega
              rw [this, Bool.or_false]
          rw [e]; exact hJ'
  have e0 : (fun i => (Array.replicate l.toArray.size false).getD i false) = fun _ : Nat => false := by funext i; exact getD_replicate_false _ _
  refine key _ _ _ _ (by simp) ?_ ?_
  · have := num_le l.length (fun i => (Array.replicate l.toArray.size false).getD i false = false)
    simpa using this
  · rw [e0]; exact h0

/-- What an operation finds: the values of those before it, and the slots that the region leaves alone. -/
structure Finds (l : List Oper) (a : Act) (F : Nat → Value → World → Prop) (D : Nat → Bool) (b : Act) (w : World) : Prop where
  size : b.tmps.size = a.tmps.size
  defers : b.defers = a.defers
  same : ∀ t, (∀ (i : Nat) (o : Oper), l[i]? = some o → o.dst ≠ some t) → b.tmps.getD t undef = a.tmps.getD t undef
  open_ : ∀ (i : Nat) (o : Oper) (t : Tmp), l[i]? = some o → o.dst = some t → D i = false → b.tmps.getD t undef = a.tmps.getD t undef
  here : ∀ (i : Nat) (o : Oper) (t : Tmp), l[i]? = some o → o.dst = some t → D i = true → F i (b.tmps.getD t undef) w

theorem getD_put_self {a : Act} {t : Tmp} {v : Value} (h : t < a.tmps.size) : (a.put (some t) v).tmps.getD t undef = v := by
  simp [Act.put, Array.getD_eq_getD_getElem?, h]
theorem getD_put_other {a : Act} {t u : Tmp} {v : Value} (h : t ≠ u) : (a.put (some t) v).tmps.getD u undef = a.tmps.getD u undef := by
  simp [Act.put, Array.getD_eq_getD_getElem?, Array.getElem?_setIfInBounds_ne h]

/-- The region's slots filled with the values v. -/
def puts (a : Act) (v : Tmp → Value) : List Tmp → Act
  | [] => a
  | t :: r => puts (a.put (some t) (v t)) v r
theorem puts_size (v : Tmp → Value) (ts : List Tmp) : ∀ a : Act, (puts a v ts).tmps.size = a.tmps.size ∧ (puts a v ts).defers = a.defers := by
  induction ts with
  | nil => intro a; exact ⟨rfl, rfl⟩
  | cons t r ih => intro a; unfold puts; rw [(ih _).1, (ih _).2]; simp [Act.put]
theorem puts_get (v : Tmp → Value) (ts : List Tmp) : ∀ (a : Act) (u : Tmp), u < a.tmps.size → (puts a v ts).tmps.getD u undef = if u ∈ ts then v u else a.tmps.getD u undef := by
  induction ts with
  | nil => intro a u _; simp [puts]
  | cons t r ih =>
    intro a u hu
    unfold puts
    rw [ih _ _ (by simpa [Act.put] using hu)]
    by_cases h1 : u ∈ r
    · simp [h1]
    · by_cases h2 : u = t
      · subst h2; simp only [h1, if_false, List.mem_cons, true_or, if_true]; exact getD_put_self hu
      · simp only [h1, if_false, List.mem_cons, h2, or_self]; exact getD_put_other (fun e => h2 e.symm)

theorem arr_get (x : Array Value) (t : Nat) (h : t < x.size) : x[t] = x.getD t undef := by simp [Array.getD_eq_getD_getElem?, h]
theorem act_ext {x y : Act} (h : x.tmps = y.tmps) (g : x.defers = y.defers) : x = y := by cases x; cases y; simp_all
theorem wp_region_facts (F : Nat → Value → World → Prop) (G : (Nat → Bool) → World → Prop) (S : World → World → Prop) {a : Act} {w : World} (hm : P.follows .mixedOrders = true)
    (hlex : ∀ (i : Nat) (o : Oper), l[i]? = some o → ∀ e ∈ o.after, Region.binds .any e = true → e.on < i)
    (hdst : ∀ (i : Nat) (o : Oper) (t : Tmp), l[i]? = some o → o.dst = some t → t < a.tmps.size)
    (hone : ∀ (i j : Nat) (o u : Oper) (t : Tmp), l[i]? = some o → l[j]? = some u → o.dst = some t → u.dst = some t → i = j)
    (hF : ∀ i v w w', F i v w → S w w' → F i v w')
    (h0 : G (fun _ => false) w.drew)
    (hstep : ∀ (i : Nat) (o : Oper) (D : Nat → Bool) (b : Act) (x : World), l[i]? = some o → G D x → Finds l a F D b x → D i = false → (∀ e ∈ o.after, Region.binds .any e = true → D e.on = true) →
      wpOp P l.toArray Q i (fun b' x' => ∃ v, b' = b.put o.dst v ∧ S x x' ∧ (o.dst ≠ none → F i v x') ∧ G (fun j => D j || j == i) x') b x)
    (hend : ∀ (v : Tmp → Value) x, G (fun i => decide (i < l.length)) x → (∀ (i : Nat) (o : Oper) (t : Tmp), l[i]? = some o → o.dst = some t → F i (v t) x) → Q .normal (puts a v (l.filterMap (·.dst))) x)
    (hG : ∀ D D' x, (∀ i, i < l.length → D i = D' i) → G D x → G D' x) : (Code.region id l.toArray true).wp P Q a w := by
  refine wp_region_inv (fun D b x => G D x ∧ Finds l a F D b x) hm hlex ⟨h0, ⟨rfl, rfl, fun _ _ => rfl, fun _ _ _ _ _ _ => rfl, fun _ _ _ _ _ h => by cases h⟩⟩ ?_ ?_
  · intro i o D b x ho ⟨hg, hf⟩ hD hall
    refine wpOp_mono ?_ (hstep i o D b x ho hg hf hD hall)
    rintro b' x' ⟨v, rfl, hs, hv, hg'⟩
    refine ⟨hg', ?_⟩
    cases hd : o.dst with
    | none =>
      show Finds l a F _ b x'
      refine ⟨hf.size, hf.defers, hf.same, fun j oj t hj ht hD' => hf.open_ j oj t hj ht (by simp at hD'; exact hD'.1), fun j oj t hj ht hD' => ?_⟩
      have hne : j ≠ i := fun e => by subst e; rw [ho] at hj; cases hj; rw [hd] at ht; cases ht
      refine hF _ _ _ _ (hf.here j oj t hj ht ?_) hs
      simpa [hne] using hD'
    | some t0 =>
      have ht0 : t0 < b.tmps.size := by rw [hf.size]; exact hdst i o t0 ho hd
      refine ⟨by simp [Act.put, hf.size], by simp [Act.put, hf.defers], fun t ht => ?_, fun j oj t hj ht hD' => ?_, fun j oj t hj ht hD' => ?_⟩
      · rw [getD_put_other (fun e => ht i o ho (by rw [hd, e]))]; exact hf.same t ht
      · have hD'' : D j = false ∧ j ≠ i := by simpa using hD'
        rw [getD_put_other (fun e => hD''.2 (hone j i oj o t hj ho ht (by rw [hd, e])))]
        exact hf.open_ j oj t hj ht hD''.1
      · by_cases e : j = i
        · subst e; rw [ho] at hj; cases hj; rw [hd] at ht; cases ht
          rw [getD_put_self ht0]; exact hv (by rw [hd]; simp)
        · rw [getD_put_other (fun e2 => e (hone j i oj o t hj ho ht (by rw [hd, e2])))]
          exact hF _ _ _ _ (hf.here j oj t hj ht (by simpa [e] using hD')) hs
  · intro D b x ⟨hg, hf⟩ hall
    have hb : b = puts a (fun t => b.tmps.getD t undef) (l.filterMap (·.dst)) := by
      have hz := puts_size (fun t => b.tmps.getD t undef) (l.filterMap (·.dst)) a
      have ht : b.tmps = (puts a (fun t => b.tmps.getD t undef) (l.filterMap (·.dst))).tmps := by
        apply Array.ext (by rw [hz.1, hf.size])
        intro t h1 h2
        have hta : t < a.tmps.size := by rw [← hf.size]; exact h1
        have hg1 := puts_get (fun t => b.tmps.getD t undef) (l.filterMap (·.dst)) a t hta
        rw [arr_get _ _ h1, arr_get _ _ h2, hg1]
        by_cases hm : t ∈ l.filterMap (·.dst)
        · rw [if_pos hm]
        · rw [if_neg hm]; exact hf.same t fun i o ho hd => hm (List.mem_filterMap.2 ⟨o, List.mem_of_getElem? ho, hd⟩)
      have hd : b.defers = (puts a (fun t => b.tmps.getD t undef) (l.filterMap (·.dst))).defers := by rw [hz.2, hf.defers]
      exact act_ext ht hd
    rw [hb]
    refine hend _ x (hG _ _ x (fun i hi => by rw [hall i hi]; simp [hi]) hg) fun i o t ho hd => hf.here i o t ho hd (hall i ?_)
    have := (List.getElem?_eq_some_iff.1 ho).1
    exact this
/-- What the rule asks of the text, as one Bool. -/
def regGo : List Oper → Nat → List Tmp → Nat → Bool
  | [], _, _, _ => true
  | o :: r, i, seen, n => o.after.all (fun e => !Region.binds .any e || decide (e.on < i)) && (match o.dst with | none => true | some t => decide (t < n) && !seen.contains t) && regGo r (i + 1) (match o.dst with | none => seen | some t => t :: seen) n
theorem regGo_spec : ∀ (l : List Oper) (i : Nat) (seen : List Tmp) (n : Nat), regGo l i seen n = true →
    (∀ (j : Nat) (o : Oper), l[j]? = some o → ∀ e ∈ o.after, Region.binds .any e = true → e.on < i + j) ∧ (∀ (j : Nat) (o : Oper) (t : Tmp), l[j]? = some o → o.dst = some t → t < n ∧ t ∉ seen) ∧
    (∀ (j k : Nat) (o u : Oper) (t : Tmp), l[j]? = some o → l[k]? = some u → o.dst = some t → u.dst = some t → j = k) := by
  intro l
  induction l with
  | nil => intro i seen n _; exact ⟨fun j o h => by simp at h, fun j o t h => by simp at h, fun j k o u t h => by simp at h⟩
  | cons o l ih =>
    intro i seen n h
    simp only [regGo, Bool.and_eq_true] at h
    obtain ⟨⟨h1, h2⟩, h3⟩ := h
    obtain ⟨i1, i2, i3⟩ := ih _ _ _ h3
    have hfar : ∀ (k : Nat) (u : Oper) (t : Tmp), l[k]? = some u → u.dst = some t → o.dst = some t → False := fun k u t hu hd ho => by
      have := (i2 k u t hu hd).2
      rw [ho] at this
      simp at this
    refine ⟨fun j u hj e he hbd => ?_, fun j u t hj hd => ?_, fun j k u v t hj hk hd he => ?_⟩
    · cases j with
      | zero =>
        simp at hj; subst hj
        rw [Array.all_eq_true_iff_forall_mem] at h1
        have := h1 e he
        rw [hbd] at this
        simpa using this
      | succ j => have := i1 j u (by simpa using hj) e he hbd; omega
    · cases j with
      | zero =>
        simp at hj; subst hj
        rw [hd] at h2
        simpa using h2
      | succ j =>
        obtain ⟨a1, a2⟩ := i2 j u t (by simpa using hj) hd
        refine ⟨a1, fun e => a2 ?_⟩
        split
        · exact e
        · exact List.mem_cons_of_mem _ e
    · cases j with
      | zero =>
        cases k with
        | zero => rfl
        | succ k => simp at hj; subst hj; exact (hfar k v t (by simpa using hk) he hd).elim
      | succ j =>
        cases k with
        | zero => simp at hk; subst hk; exact (hfar j u t (by simpa using hj) hd he).elim
        | succ k => have := i3 j k u v t (by simpa using hj) (by simpa using hk) hd he; omega

theorem Finds.old {a b : Act} {w : World} {F : Nat → Value → World → Prop} {D : Nat → Bool} (h : Finds l a F D b w) (t : Tmp) (ht : (l.all fun o => o.dst != some t) = true) : b.eval (.tmp t) = a.eval (.tmp t) :=
  h.same t fun i o ho e => by
    have := List.all_eq_true.1 ht o (List.mem_of_getElem? ho)
    rw [e] at this
    simp at this
theorem Finds.new {a b : Act} {w : World} {F : Nat → Value → World → Prop} {D : Nat → Bool} (h : Finds l a F D b w) (i : Nat) (t : Tmp) (hi : (l[i]?).bind (·.dst) = some t) (hD : D i = true) : F i (b.eval (.tmp t)) w := by
  cases ho : l[i]? with
  | none => rw [ho] at hi; cases hi
  | some o => rw [ho] at hi; exact h.here i o t ho hi hD
theorem Finds.was {a b : Act} {w : World} {F : Nat → Value → World → Prop} {D : Nat → Bool} (h : Finds l a F D b w) (t : Tmp) (v : Value) (ht : (l.all fun o => o.dst != some t) = true) (hv : a.tmps[t]? = some v) : b.tmps[t]?.getD undef = v := by
  have := h.old t ht
  simp only [Act.eval, Array.getD_eq_getD_getElem?, hv] at this
  exact this
theorem Finds.has {a b : Act} {w : World} {F : Nat → Value → World → Prop} {D : Nat → Bool} (h : Finds l a F D b w) (i : Nat) (t : Tmp) (hi : (l[i]?).bind (·.dst) = some t) (hD : D i = true) : F i (b.tmps[t]?.getD undef) w := by
  have := h.new i t hi hD
  simpa only [Act.eval, Array.getD_eq_getD_getElem?] using this
theorem wpOp_at {ops : Array Oper} {i : Nat} {o : Oper} {K : Act → World → Prop} {a : Act} {w : World} (ho : ops[i]? = some o) (hg : o.guard = none) (h : o.wp P a w K Q) : wpOp P ops Q i K a w := by
  unfold wpOp
  simp only [ho]
  rw [if_pos (by simp [Region.wanted, hg])]
  exact .inl h
/-- The rule, the text's conditions by one Bool. -/
theorem wp_region_by (F : Nat → Value → World → Prop) (G : (Nat → Bool) → World → Prop) (S : World → World → Prop) {a : Act} {w : World} (hm : P.follows .mixedOrders = true)
    (hB : regGo l 0 [] a.tmps.size = true)
    (hF : ∀ i v w w', F i v w → S w w' → F i v w')
    (h0 : G (fun _ => false) w.drew)
    (hstep : ∀ (i : Nat) (o : Oper) (D : Nat → Bool) (b : Act) (x : World), l[i]? = some o → G D x → Finds l a F D b x → D i = false → (∀ e ∈ o.after, Region.binds .any e = true → D e.on = true) →
      wpOp P l.toArray Q i (fun b' x' => ∃ v, b' = b.put o.dst v ∧ S x x' ∧ (o.dst ≠ none → F i v x') ∧ G (fun j => D j || j == i) x') b x)
    (hend : ∀ (v : Tmp → Value) x, G (fun i => decide (i < l.length)) x → (∀ (i : Nat) (o : Oper) (t : Tmp), l[i]? = some o → o.dst = some t → F i (v t) x) → Q .normal (puts a v (l.filterMap (·.dst))) x)
    (hG : ∀ D D' x, (∀ i, i < l.length → D i = D' i) → G D x → G D' x) : (Code.region id l.toArray true).wp P Q a w := by
  obtain ⟨h1, h2, h3⟩ := regGo_spec l 0 [] _ hB
  exact wp_region_facts F G S hm (fun i o ho e he hbd => by have := h1 i o ho e he hbd; omega) (fun i o t ho hd => (h2 i o t ho hd).1) h3 hF h0 hstep hend hG
end
end Domi
