/- What a row's reading of a list of bytes gives to a walk. No program is named here. -/
import Derived.Test.YtklifibiadiinaaDoorVBase
import Derived.ProofKit
import Derived.OpenShut
set_option linter.unusedVariables false
namespace Domi
open Go Go.RowKit

/-- A slice of integers that came in: it is nil; or it leads to a row of 'cap' cells, the numbers zs, each fitting its kind (as the kit's proof-skeleton says it). -/
def IsRow (k : IntKind) (w : World) (a : Option Addr) (len cap : Nat) (zs : List Int) : Prop :=
  (a = none ∧ len = 0 ∧ cap = 0 ∧ zs = []) ∨
  ∃ x, a = some x ∧ len ≤ cap ∧ cap ≤ maxLen ∧ zs.length = cap ∧ (∀ i, i < zs.length → w.cell? (x.add i) = some (.int k (zs.getD i 0))) ∧ ∀ n ∈ zs, (Lit.int k n).wf = true

theorem isRow_sl {k : IntKind} {w : World} {a : Option Addr} {len cap : Nat} {zs : List Int} (h : IsRow k w a len cap zs) : Sl w (.slice a len cap) ((zs.take len).map (Value.int k)) := by
  rcases h with ⟨rfl, rfl, rfl, rfl⟩ | ⟨x, rfl, hl, hm, hz, hc, _⟩
  · exact Sl.nil w
  · have e : ((zs.take len).map (Value.int k)).length = len := by simp; omega
    refine ⟨some x, cap, by rw [e], by omega, by unfold maxLen at hm; omega, ?_⟩
    by_cases h0 : len = 0
    · subst h0; left; simp
    · right
      obtain ⟨b, off, spot⟩ := x
      have h1 := hc 0 (by omega)
      have hspot : spot = none := by simpa [Addr.add] using World.cell?_spot h1
      subst hspot
      refine ⟨b, off, rfl, World.block_lt_of_cell? w ⟨b, off, none⟩ (by simpa [Addr.add] using h1), fun i hi => ?_⟩
      have hi' : i < len := by omega
      have := hc i (by omega)
      rw [show w.cell? ⟨b, off + i, none⟩ = w.cell? (Addr.add ⟨b, off, none⟩ i) by unfold Addr.add; split <;> simp_all, this]
      simp [List.getD_eq_getElem?_getD, show i < zs.length by omega]

theorem isRow_bytes {w : World} {a : Option Addr} {len cap : Nat} {zs : List Int} (h : IsRow .u8 w a len cap zs) :
    Yl w (.slice a len cap) (zs.take len) ∧ ∀ i, i < (zs.take len).length → 0 ≤ (zs.take len).getD i 0 ∧ (zs.take len).getD i 0 ≤ 255 := by
  refine ⟨isRow_sl h, fun i hi => ?_⟩
  rcases h with ⟨rfl, rfl, rfl, rfl⟩ | ⟨x, rfl, hl, hm, hz, hc, hw⟩
  · simp at hi
  · have hi' : i < zs.length := by simp at hi; omega
    have hl' : i < len := by simp at hi; omega
    have := hw zs[i] (List.getElem_mem hi')
    have e : (zs.take len).getD i 0 = zs[i] := by simp [List.getD_eq_getElem?_getD, hl', hi']
    rw [e]
    simp [Lit.wf, IntKind.min, IntKind.max, IntKind.bits, IntKind.signed] at this
    omega

end Domi
