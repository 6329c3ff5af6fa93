/- Walks: DrawRegionSet, DrawRegionAt. -/
import Derived.Test.YtcagpfnlpjfgeaaVPair
import Derived.Test.YtcagpfnlpjfgeaaZa
set_option linter.unusedVariables false
namespace Go.Proofs.Ytcagpfnlpjfgeaa
open Go.RowKit Domi

/-- The reader among the items: behind a call that draws. -/
theorem sep_rd {w0 w w' : World} {row : Option Nat} {S : List It} (h : Sep w0 row w S) (i : Nat) {b : Nat} {cs : Array Value} {t : TypeId} (hi : S[i]? = some (.box b cs t)) (hg : w.grownBy w' (some b)) {sl : Value} {ys : List Int} {N : Nat} (hr : RdN w' b sl ys N) :
    ∃ cs', Sep w0 row w' (S.set i (.box b cs' 87)) := by
  obtain ⟨p, _, hr⟩ := hr
  exact ⟨_, h.turned i hi hg hr.heap⟩
/-- The reader comes among the items. -/
theorem sep_open {w0 wx w : World} {row : Option Nat} {S : List It} (hx : Sep w0 row wx S) (h : Sep w0 row w S) {b : Nat} (hb : wx.heap.size ≤ b) {sl : Value} {ys : List Int} {N : Nat} (hr : RdN w b sl ys N) :
    ∃ cs, Sep w0 row w (S ++ [.box b cs 87]) := by
  obtain ⟨p, _, hr⟩ := hr
  exact ⟨_, h.more hr.heap (fun k hk => by
    have e : b = k := by simpa [It.id] using hk
    subst e
    exact hx.fresh hb)⟩
theorem tdiv19 {k : Int} (h : 0 ≤ k ∧ (k < 20 ∨ k = 0)) : 0 ≤ k.tdiv 19 ∧ k.tdiv 19 ≤ 1 := by
  rw [Int.tdiv_eq_ediv_of_nonneg h.1]; omega
end Go.Proofs.Ytcagpfnlpjfgeaa
